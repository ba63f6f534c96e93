/- A logic over plain values: what each operation needs, and that it is enough. -/
import Derived.Test.YteajbghklmkoeaaPv4
namespace Go.Pv
set_option linter.unusedVariables false
set_option linter.unusedSimpArgs false
def spl (cs : List PV) (f : Nat) (ps : List PV) : List PV := cs.take f ++ ps ++ cs.drop (f + ps.length)
theorem spl_get {cs : List PV} {f : Nat} {ps : List PV} (h : f + ps.length ≤ cs.length) (k : Nat) : (spl cs f ps)[k]? = if f ≤ k ∧ k < f + ps.length then ps[k - f]? else cs[k]? := by
  unfold spl
  have ht : (cs.take f).length = f := by simp; omega
  by_cases h1 : k < f
  · rw [if_neg (by omega), List.append_assoc, List.getElem?_append_left (by omega), List.getElem?_take, if_pos h1]
  · by_cases h2 : k < f + ps.length
    · rw [if_pos ⟨by omega, h2⟩, List.append_assoc, List.getElem?_append_right (by omega), ht, List.getElem?_append_left (by omega)]
    · rw [if_neg (by omega), List.getElem?_append_right (by simp [ht]; omega), List.getElem?_drop]
      congr 1
      simp [ht]
      omega
theorem spl_length {cs : List PV} {f : Nat} {ps : List PV} (h : f + ps.length ≤ cs.length) : (spl cs f ps).length = cs.length := by
  unfold spl; simp; omega
section
variable {P : Program} {w : World} {g : G} {s : St} {N : Nat} {e : Env} {a : Act}
theorem mul_lt_of {j j' sz f f' : Nat} (h : j < j') (hf : f < sz) : j * sz + f < j' * sz + f' := by
  have : (j + 1) * sz ≤ j' * sz := Nat.mul_le_mul_right _ h
  rw [Nat.succ_mul] at this
  omega
theorem store_sound (hH : Holds g s w) {i j f : Nat} {u v : Value} {p : PV} (hu : VR w g (.pt i j f) u) (hv : VR w g p v) (hso : p.solid = true) {t : TypeId} {ty : TypeId} {sz : Nat} {els : List (List PV)} {cs : List PV}
    (hn : tsz P t = some p.width) (hs : s i = some (.row ty sz els)) (hj : els[j]? = some cs) (hf : f + p.width ≤ cs.length) :
    ∃ w', (Instr.storeAt t u v).run P w = .ok () w' ∧ LE g w g w' ∧ Holds g (s.upd i (some (.row ty sz (els.set j (spl cs f p.cells))))) w' := by
  obtain ⟨hi, rfl⟩ := hu.pt_inv
  obtain ⟨h1, h2, h3⟩ := hv.cells hso
  obtain ⟨_, _, _, arr, hz, hb, hsz, hl, he, h5⟩ := hH.blk i _ hs
  have hne : s i ≠ none := by rw [hs]; simp
  have hlen := he j cs hj
  have hjl := (List.getElem?_eq_some_iff.1 hj).1
  have hw : p.width = p.cells.length := rfl
  have hmul : j * sz + sz ≤ els.length * sz := by rw [← Nat.succ_mul]; exact Nat.mul_le_mul_right _ hjl
  have hrun := run_storeCells (P := P) (g.mu i).blk ty v.cells.toList w arr (j * sz + f) 0 hb (by simp; omega) h2
  refine ⟨withCells w (g.mu i).blk (spliceA arr (j * sz + f) v.cells.toList) ty, ?_, LE.write hH hs rfl _ _, Holds.write hH hs (spliceA arr (j * sz + f) v.cells.toList) (by rw [spliceA_size]; exact hsz) (by rw [spliceA_size]; simpa using hl) ?_ ?_⟩
  · rw [hz]
    simp only [Instr.storeAt, Instr.sureAddr, storeVar, Sem.run_bind, Sem.run_pure, Result.andThen_ok, run_sizeOf hn, h1, hw, ne_eq, not_true_eq_false, if_false]
    exact hrun
  · intro k cs' hk
    by_cases hkj : k = j
    · subst hkj
      rw [List.getElem?_set_self hjl] at hk
      cases hk
      rw [spl_length (by omega)]; exact hlen
    · rw [List.getElem?_set_ne (Ne.symm hkj)] at hk
      exact he k cs' hk
  · intro k cs' f' c hk hc
    have hspl := spliceA_get v.cells.toList arr (j * sz + f) (by simp; omega)
    by_cases hkj : k = j
    · subst hkj
      rw [List.getElem?_set_self hjl] at hk
      cases hk
      rw [spl_get (by omega)] at hc
      split at hc
      · rename_i hff
        obtain ⟨u, hu, h1', hr⟩ := h3 _ c hc
        refine ⟨u, ?_, h1', hr⟩
        rw [hspl, if_pos (by simp; omega), Array.getElem?_toList, ← hu]
        congr 1
        omega
      · rename_i hff
        obtain ⟨v', q1, q2, q3⟩ := h5 k cs f' c hj hc
        refine ⟨v', ?_, q2, q3⟩
        rw [hspl, if_neg (by simp; omega)]
        exact q1
    · rw [List.getElem?_set_ne (Ne.symm hkj)] at hk
      obtain ⟨v', q1, q2, q3⟩ := h5 k cs' f' c hk hc
      refine ⟨v', ?_, q2, q3⟩
      have hf' : f' < sz := by rw [← he k cs' hk]; exact (List.getElem?_eq_some_iff.1 hc).1
      rw [hspl, if_neg ?_]
      · exact q1
      · simp only [Array.length_toList, h1]
        intro ⟨a1, a2⟩
        rcases Nat.lt_or_gt_of_ne hkj with h | h
        · have := mul_lt_of (f' := f) h hf'
          omega
        · have := mul_lt_of (f := f + p.cells.length - 1) (f' := f') h (sz := sz) (by omega)
          omega
/-- A new variable. -/
theorem box_sound (hH : Holds g s w) {p : PV} {v : Value} (hv : VR w g p v) (hso : p.solid = true) (t : TypeId) :
    ∃ w' g', (newVar t v).run P w = .ok ⟨w.heap.size, 0, none⟩ w' ∧ LE g w g' w' ∧ Holds g' (s.upd g.n (some (.row t p.width [p.cells]))) w' ∧ VR w' g' (.pt g.n 0 0) (.pointer (some ⟨w.heap.size, 0, none⟩)) := by
  obtain ⟨h1, h2, h3⟩ := hv.cells hso
  have hw : p.width = p.cells.length := rfl
  refine ⟨_, _, rfl, LE.more hH ⟨w.heap.size, v.cells.size, p.width⟩ _, Holds.new hH v.cells t p.width [p.cells] (by simp; omega) ?_ ?_, ?_⟩
  · intro j cs hj
    cases j with
    | zero => cases hj; rfl
    | succ j => simp at hj
  · intro j cs f c hj hf
    cases j with
    | zero => cases hj; simp only [Nat.zero_mul, Nat.zero_add]; exact h3 f c hf
    | succ j => simp at hj
  · have := VR.pt (w := pushed w (.cells v.cells t (0, 0))) (g := g.more ⟨w.heap.size, v.cells.size, p.width⟩) g.n 0 0 (by simp [G.more])
    have hmu : (g.more ⟨w.heap.size, v.cells.size, p.width⟩).mu g.n = ⟨w.heap.size, v.cells.size, p.width⟩ := by simp [G.more]
    rw [hmu] at this
    simp only [Nat.zero_mul, Nat.zero_add] at this
    exact this
/-- What is appended to: its elements. -/
def elemsOf (s : St) (n : Nat) : PV → Option (List (List PV))
  | .vec _ ys => if ys.all (fun y => y.width == n && y.solid) = true then some (ys.map PV.cells) else none
  | .sl i sz off len => match s i with
    | some (.row _ _ els) => if sz = n ∧ off + len ≤ els.length then some ((els.drop off).take len) else none
    | _ => none
  | .lit (.string b) => if n = 1 then some (b.toList.map fun c => [.lit (.int .u8 c.toNat)]) else none
  | _ => none
def grid (n len : Nat) (f : Nat → Nat → Value) : List Value := (List.range (len * n)).map fun k => f (k / n) (k % n)
theorem grid_length (n len : Nat) (f : Nat → Nat → Value) : (grid n len f).length = len * n := by simp [grid]
theorem grid_get {n len : Nat} {f : Nat → Nat → Value} {k : Nat} {u : Value} (h : (grid n len f)[k]? = some u) : k < len * n ∧ k / n < len ∧ k % n < n ∧ u = f (k / n) (k % n) := by
  have hk := (List.getElem?_eq_some_iff.1 h).1
  rw [grid_length] at hk
  have hn : 0 < n := by
    rcases Nat.eq_zero_or_pos n with h | h
    · subst h; simp at hk
    · exact h
  refine ⟨hk, (Nat.div_lt_iff_lt_mul hn).2 hk, Nat.mod_lt _ hn, ?_⟩
  unfold grid at h
  rw [List.getElem?_map, List.getElem?_range hk] at h
  cases h
  rfl
theorem grid_at {n len : Nat} {f : Nat → Nat → Value} {i j : Nat} (hi : i < len) (hj : j < n) : (grid n len f)[i * n + j]? = some (f i j) := by
  have hk : i * n + j < len * n := by
    have := Nat.mul_le_mul_right n (show i + 1 ≤ len from hi)
    rw [Nat.succ_mul] at this
    omega
  unfold grid
  rw [List.getElem?_map, List.getElem?_range hk]
  simp only [Option.map_some]
  have h1 : (i * n + j) / n = i := by rw [Nat.mul_comm, Nat.mul_add_div (by omega), Nat.div_eq_of_lt hj]; rfl
  have h2 : (i * n + j) % n = j := by rw [Nat.mul_comm, Nat.mul_add_mod, Nat.mod_eq_of_lt hj]
  rw [h1, h2]
/-- The cells of some elements in a world. -/
theorem elemsOf_sound (hH : Holds g s w) {p : PV} {v : Value} (hv : VR w g p v) {n : Nat} {ys : List (List PV)} (h : elemsOf s n p = some ys) :
    (∀ y ∈ ys, y.length = n) ∧ (∀ w' : World, w'.heap = w.heap → (Builtin.lenOf v).run P w' = .ok ys.length w') ∧ ∃ vs : Array Value, (∀ w' : World, w'.heap = w.heap → (Builtin.firstCells n ys.length v).run P w' = .ok vs w') ∧ vs.size = ys.length * n ∧ (∀ u ∈ vs.toList, Value.oneCell' u = true) ∧
      ∀ (j : Nat) (cs : List PV) (f : Nat) (c : PV), ys[j]? = some cs → cs[f]? = some c → ∃ u, vs[j * n + f]? = some u ∧ Value.oneCell' u = true ∧ VR w g c u := by
  unfold elemsOf at h
  split at h
  · rename_i k xs
    split at h
    · rename_i hall
      cases h
      have hw : ∀ (i : Nat) (x : PV), xs[i]? = some x → x.width = n := fun i x hi => by
        rw [List.all_eq_true] at hall
        have := hall x (List.mem_of_getElem? hi)
        simp only [Bool.and_eq_true, beq_iff_eq] at this
        exact this.1
      cases hv with
      | vec _ _ A cap sz f hc hk hn h0 hs hm hr =>
        refine ⟨fun y hy => ?_, fun w' _ => by simp [Builtin.lenOf], ?_⟩
        · obtain ⟨i, hi⟩ := List.getElem?_of_mem hy
          rw [List.getElem?_map] at hi
          cases hx : xs[i]? with
          | none => rw [hx] at hi; cases hi
          | some x => rw [hx] at hi; cases hi; exact hw i x hx
        · have hcell : ∀ (k : Nat) (u : Value), (grid n xs.length f)[k]? = some u → ∃ x c, xs[k / n]? = some x ∧ x.cells[k % n]? = some c ∧ u = f (k / n) (k % n) ∧ (k / n) * n + k % n = k := by
            intro k u hk
            obtain ⟨h1, h2, h3, h4⟩ := grid_get hk
            have hx := List.getElem?_eq_getElem h2
            have hwx := hw _ _ hx
            have : k % n < (xs[k / n]).cells.length := by show _ < PV.width _; rw [hwx]; exact h3
            exact ⟨_, _, hx, List.getElem?_eq_getElem this, h4, by rw [Nat.mul_comm]; exact Nat.div_add_mod k n⟩
          refine ⟨(grid n xs.length f).toArray, ?_, by simp [grid_length], fun u hu => ?_, fun j cs f' c hj hf => ?_⟩
          · intro w' hw'
            simp only [List.length_map]
            cases A with
            | none =>
              have : xs = [] := by
                have := h0 rfl
                exact List.eq_nil_of_length_eq_zero (by omega)
              subst this
              simp [Builtin.firstCells, grid]
            | some ad =>
              simp only [Builtin.firstCells]
              refine run_loadCells _ (fun k u hk => ?_) _ (by rw [grid_length])
              obtain ⟨x, c, hx, hc', hu, he⟩ := hcell k u hk
              obtain ⟨ad', ha, _, hcl, _⟩ := hm _ x _ c hx hc'
              cases ha
              have hsn : sz = n := by rw [← hs _ x hx]; exact hw _ x hx
              rw [hsn, he] at hcl
              rw [hu, World.cell?_of_block (w := w) (by rw [hw'])]
              exact hcl
          · obtain ⟨k, hk⟩ := List.getElem?_of_mem hu
            obtain ⟨x, c, hx, hc', hu, he⟩ := hcell k u hk
            obtain ⟨ad', ha, _, hcl, h1⟩ := hm _ x _ c hx hc'
            rw [hu]; exact h1
          · rw [List.getElem?_map] at hj
            cases hx : xs[j]? with
            | none => rw [hx] at hj; cases hj
            | some x =>
              rw [hx] at hj
              cases hj
              have hjl := (List.getElem?_eq_some_iff.1 hx).1
              have hfl : f' < n := by rw [← hw j x hx]; exact (List.getElem?_eq_some_iff.1 hf).1
              obtain ⟨ad', ha, _, hcl, h1⟩ := hm _ x _ c hx hf
              exact ⟨f j f', by rw [List.getElem?_toArray]; exact grid_at hjl hfl, h1, hr _ x _ c hx hf⟩
    · cases h
  · rename_i i sz off len
    split at h
    · rename_i ty sz' els hs
      split at h
      · rename_i hb
        obtain ⟨rfl, hb⟩ := hb
        cases h
        obtain ⟨_, _, _, arr, hz, hbk, hsz, hl, he, h5⟩ := hH.blk i _ hs
        cases hv with
        | sl _ _ _ _ cap hi hc hz' hbd =>
          have hsz' : sz' = sz := by rw [← hz, hz']
          subst hsz'
          have hlen : ((els.drop off).take len).length = len := by simp; omega
          have hget : ∀ (j : Nat) (cs : List PV), ((els.drop off).take len)[j]? = some cs → els[off + j]? = some cs ∧ j < len := by
            intro j cs hj
            rw [List.getElem?_take] at hj
            split at hj
            · rw [List.getElem?_drop] at hj; exact ⟨hj, ‹_›⟩
            · cases hj
          have hbig : (off + len) * sz' ≤ arr.size := Nat.le_trans (Nat.mul_le_mul_right _ hb) hl
          rw [Nat.add_mul] at hbig
          refine ⟨fun y hy => ?_, fun w' _ => by rw [hlen]; simp [Builtin.lenOf], ?_⟩
          · obtain ⟨j, hj⟩ := List.getElem?_of_mem hy
            exact he _ y (hget j y hj).1
          · have hvs : ∀ (k : Nat) (u : Value), ((arr.toList.drop (off * sz')).take (len * sz'))[k]? = some u → arr[off * sz' + k]? = some u ∧ k < len * sz' := by
              intro k u hk
              rw [List.getElem?_take] at hk
              split at hk
              · rw [List.getElem?_drop, Array.getElem?_toList] at hk; exact ⟨hk, ‹_›⟩
              · cases hk
            refine ⟨((arr.toList.drop (off * sz')).take (len * sz')).toArray, ?_, by rw [hlen]; simp; omega, fun u hu => ?_, fun j cs f c hj hf => ?_⟩
            · intro w' hw'
              rw [hlen]
              simp only [Builtin.firstCells]
              refine run_loadCells _ (fun k u hk => ?_) _ (by simp; omega)
              rw [add_plain]
              simp only [World.cell?, hw', hbk]
              exact (hvs k u hk).1
            · obtain ⟨k, hk⟩ := List.getElem?_of_mem hu
              obtain ⟨h1, h2⟩ := hvs k u hk
              have hn : 0 < sz' := by
                rcases Nat.eq_zero_or_pos sz' with h | h
                · subst h; simp at h2
                · exact h
              have hkl : k / sz' < len := (Nat.div_lt_iff_lt_mul hn).2 h2
              have hex : els[off + k / sz']? = some els[off + k / sz'] := List.getElem?_eq_getElem (by omega)
              have hln := he _ _ hex
              have hmod := Nat.mod_lt k hn
              obtain ⟨v, q1, q2, q3⟩ := h5 _ _ (k % sz') _ hex (List.getElem?_eq_getElem (by omega))
              have : (off + k / sz') * sz' + k % sz' = off * sz' + k := by
                rw [Nat.add_mul, Nat.add_assoc, Nat.mul_comm (k / sz'), Nat.div_add_mod]
              rw [this, h1] at q1
              cases q1
              exact q2
            · obtain ⟨h1, h2⟩ := hget j cs hj
              obtain ⟨v, q1, q2, q3⟩ := h5 _ _ f c h1 hf
              refine ⟨v, ?_, q2, q3⟩
              have hfl : f < sz' := by rw [← he _ cs h1]; exact (List.getElem?_eq_some_iff.1 hf).1
              have hlt : j * sz' + f < len * sz' := by
                have := mul_lt_of (f' := 0) h2 hfl
                omega
              rw [List.getElem?_toArray, List.getElem?_take, if_pos hlt, List.getElem?_drop, Array.getElem?_toList, ← q1]
              congr 1
              rw [Nat.add_mul]; omega
      · cases h
    · cases h
  · rename_i b
    split at h
    · rename_i hn
      subst hn
      cases h
      obtain ⟨rfl, _⟩ := hv.lit_inv
      have hsz : b.toList.length = b.size := by rw [ByteArray.toList_eq]; rfl
      refine ⟨fun y hy => ?_, fun w' _ => by simp [Builtin.lenOf, hsz], ?_⟩
      · obtain ⟨c, _, rfl⟩ := List.mem_map.1 hy; rfl
      · have hx : b.extract 0 b.size = b := by
          apply ByteArray.ext
          simp
        refine ⟨b.data.map fun c => .int .u8 c.toNat, fun w' _ => by simp only [Builtin.firstCells, Sem.run_pure, List.length_map, hsz, hx], by simp [hsz], fun u hu => ?_, fun j cs f c hj hf => ?_⟩
        · simp only [Array.toList_map, List.mem_map] at hu
          obtain ⟨c, _, rfl⟩ := hu
          rfl
        · rw [List.getElem?_map, ByteArray.toList_eq] at hj
          cases hc : b.data.toList[j]? with
          | none => rw [hc] at hj; cases hj
          | some x =>
            rw [hc] at hj
            cases hj
            cases f with
            | succ f => simp at hf
            | zero =>
              cases hf
              rw [Array.getElem?_toList] at hc
              exact ⟨.int .u8 x.toNat, by rw [Array.getElem?_map, Nat.mul_one, Nat.add_zero, hc]; rfl, rfl, .lit _ rfl⟩
    · cases h
  · cases h
end
end Go.Pv
