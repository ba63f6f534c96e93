/- A logic over plain values: append. -/
import Derived.Test.YteajbghklmkoeaaPv5
namespace Go.Pv
set_option linter.unusedVariables false
set_option linter.unusedSimpArgs false
theorem growBy_le (need : Nat) : ∀ (r c : Nat), c ≤ need + (need + 768) / 4 → Builtin.growBy need r c ≤ need + (need + 768) / 4
  | 0, c, h => h
  | r + 1, c, h => by
    unfold Builtin.growBy
    split
    · exact h
    · exact growBy_le need r _ (by omega)
theorem nextcap_le {need cap : Nat} (h : cap < need) : Builtin.nextslicecap need cap ≤ 2 * need + 1000 := by
  unfold Builtin.nextslicecap
  split
  · omega
  · split
    · omega
    · have := growBy_le need 4 cap (by omega)
      omega
theorem zeroCells_size (z : Array Value) (k : Nat) : (Builtin.zeroCells z k).size = k * z.size := by simp [Builtin.zeroCells]
section
variable {P : Program} {w : World} {g : G} {s : St} {N : Nat} {e : Env} {a : Act}
/-- An append that moves. -/
theorem run_append_moves {t t2 ty el : TypeId} {n b : Nat} {z : Value} {base : Option Addr} {len cap m : Nat} {y : Value} {old new : Array Value} (hel : sliceT P t = some el) (hn : tsz P el = some n) (hb : tby P el = some b) (hz : tzero P el = some z)
    (hb0 : b ≠ 0) (h2 : ((sliceT P t2).isSome || isStrT P t2) = true) (hy : ∀ w', w'.heap = w.heap → (Builtin.lenOf y).run P w' = .ok m w') (hnew : ∀ w', w'.heap = w.heap → (Builtin.firstCells n m y).run P w' = .ok new w')
    (hold : ∀ w', w'.heap = w.heap → (Builtin.firstCells n len (.slice base len cap)).run P w' = .ok old w') (hlt : cap < len + m) (hbd : (2 * (len + m) + 1000) * b ≤ 281474976710656) :
    ∃ c w0, (Builtin.append_ #[t, t2] ty #[.slice base len cap, y]).run P w = .ok (.slice (some ⟨w.heap.size, 0, none⟩) (len + m) c) (pushed w0 (.cells (old ++ new ++ Builtin.zeroCells z.cells (c - (len + m))) el (0, 0))) ∧ len + m ≤ c ∧ w0.heap = w.heap ∧ w0.os = w.os ∧ w0.tape = w.tape ∧ w0.output = w.output := by
  have hi : ∃ i, P.info? el = some i ∧ i.size = n ∧ i.bytes = b ∧ i.zero = some z := by
    unfold tsz at hn; unfold tby at hb; unfold tzero at hz
    cases hi : P.info? el with
    | none => rw [hi] at hn; cases hn
    | some i => rw [hi] at hn hb hz; cases hn; cases hb; exact ⟨i, rfl, rfl, rfl, hz⟩
  obtain ⟨i, hi, hi1, hi2, hi3⟩ := hi
  have hty : ∀ w, (typeInfo el).run P w = .ok i w := fun w => by simp [typeInfo, hi]
  let w0 : World := w.drew
  let c := (Question.appendCap (len + m) cap el).cut (w.tape w.drawn (.appendCap (len + m) cap el))
  have hneed : ¬ ((len + m : Nat) : Int) > IntKind.i64.max := by
    have hm : IntKind.i64.max = 9223372036854775807 := by decide
    rw [hm]
    have : len + m ≤ (2 * (len + m) + 1000) * b := Nat.le_trans (by omega) (Nat.le_mul_of_pos_right _ (by omega))
    omega
  have hcap : ¬ Builtin.nextslicecap (len + m) cap * i.bytes > 2 ^ 48 := by
    have := Nat.mul_le_mul_right b (nextcap_le hlt)
    rw [hi2]
    have h48 : (2 : Nat) ^ 48 = 281474976710656 := by decide
    rw [h48]
    omega
  have hnl : ¬ (len + m ≤ cap) := by omega
  refine ⟨c, w0, ?_, ?_, rfl, rfl, rfl, rfl⟩
  · have e1 := hy w rfl
    have e2 := hnew w.drew rfl
    have e3 := hold w.drew rfl
    have hnl' : ¬ (len + m ≤ cap) := hnl
    have hneed2 : ¬ (9223372036854775807 : Int) < (len : Int) + m := by
      have : len + m ≤ (2 * (len + m) + 1000) * b := Nat.le_trans (by omega) (Nat.le_mul_of_pos_right _ (by omega))
      omega
    have hcap2 : ¬ 281474976710656 < Builtin.nextslicecap (len + m) cap * i.bytes := by simpa using hcap
    rw [Bool.or_eq_true] at h2
    rcases h2 with h2 | h2
    · obtain ⟨el2, he2⟩ := Option.isSome_iff_exists.1 h2
      simp only [Builtin.append_, List.getElem?_toArray]
      simp [sliceT_run hel, sliceT_run he2, run_sizeOf hn, e1, hnl', hty, hneed2, hcap2, e2, e3, run_zeroValue hz, Question.forced, newRow]
      exact ⟨rfl, by simp only [pushed, Array.append_assoc]; rfl⟩
    · simp only [Builtin.append_, List.getElem?_toArray]
      simp [sliceT_run hel, isStrT_run h2, run_sizeOf hn, e1, hnl', hty, hneed2, hcap2, e2, e3, run_zeroValue hz, Question.forced, newRow]
      exact ⟨rfl, by simp only [pushed, Array.append_assoc]; rfl⟩
  · show len + m ≤ len + m + _ % _
    omega
theorem run_append_room {t t2 ty el : TypeId} {n : Nat} {base : Option Addr} {len cap m : Nat} {y : Value} {new : Array Value} {w' : World} (hel : sliceT P t = some el) (hn : tsz P el = some n)
    (h2 : ((sliceT P t2).isSome || isStrT P t2) = true) (hy : (Builtin.lenOf y).run P w = .ok m w) (hnew : (Builtin.firstCells n m y).run P w = .ok new w) (hroom : len + m ≤ cap)
    (hst : ∀ a, base = some a → (storeCells (a.add (len * n)) new.toList).run P w = .ok () w') (hno : base = none → w' = w) :
    (Builtin.append_ #[t, t2] ty #[.slice base len cap, y]).run P w = .ok (.slice base (len + m) cap) w' := by
  rw [Bool.or_eq_true] at h2
  rcases h2 with h2 | h2
  · obtain ⟨el2, he2⟩ := Option.isSome_iff_exists.1 h2
    cases base with
    | none => simp only [Builtin.append_, List.getElem?_toArray]; simp [sliceT_run hel, sliceT_run he2, run_sizeOf hn, hy, hroom, hnew, hno rfl]
    | some a => simp only [Builtin.append_, List.getElem?_toArray]; simp [sliceT_run hel, sliceT_run he2, run_sizeOf hn, hy, hroom, hnew, hst a rfl]
  · cases base with
    | none => simp only [Builtin.append_, List.getElem?_toArray]; simp [sliceT_run hel, isStrT_run h2, run_sizeOf hn, hy, hroom, hnew, hno rfl]
    | some a => simp only [Builtin.append_, List.getElem?_toArray]; simp [sliceT_run hel, isStrT_run h2, run_sizeOf hn, hy, hroom, hnew, hst a rfl]
def PV.isSlice : PV → Bool
  | .vec _ _ | .sl _ _ _ _ => true
  | _ => false
/-- An option's value, in a continuation. -/
def okv {α : Type} (x : Option α) (K : α → Prop) : Prop := match x with
  | some v => K v
  | none => False
theorem okv_ex {α : Type} {x : Option α} {K : α → Prop} (h : okv x K) : ∃ v, x = some v ∧ K v := by
  cases x with
  | none => exact h.elim
  | some v => exact ⟨v, rfl, h⟩
theorem ex_okv {α : Type} {x : Option α} {K : α → Prop} {v : α} (h : x = some v) (hK : K v) : okv x K := by rw [h]; exact hK
/-- What an append needs. -/
def appW (P : Program) (s : St) (t t2 : TypeId) (x y : PV) (K : PV → St → Prop) : Prop :=
  okv (sliceT P t) fun el => okv (tsz P el) fun n => okv (tby P el) fun b => okv (tzero P el) fun z => okv (elemsOf s n y) fun ys => z.cells.size = n ∧ b ≠ 0 ∧ ((sliceT P t2).isSome || isStrT P t2) = true ∧ (ys = [] → x.isSlice = true ∧ K x s) ∧ (ys ≠ [] →
    match x with
    | .vec k xs => okv (elemsOf s n (.vec k xs)) fun xe => k ≠ .any ∧ (2 * (xs.length + ys.length) + 1000) * b ≤ 281474976710656 ∧ ∀ i, s i = none → K (.sl i n 0 (xs.length + ys.length)) (s.upd i (some (.row el n (xe ++ ys))))
    | .sl i sz off len => (match s i with
      | some (.row el' n' els) => el' = el ∧ n' = n ∧ off = 0 ∧ els.length = len ∧ sz = n ∧ (2 * (len + ys.length) + 1000) * b ≤ 281474976710656 ∧ ∀ j, s j = none → K (.sl j n 0 (len + ys.length)) ((s.upd i none).upd j (some (.row el n (els ++ ys))))
      | _ => False)
    | _ => False)
def appW0 (P : Program) (s : St) (t t2 : TypeId) (x y : PV) (K : PV → St → Prop) : Prop :=
  ∃ el n b z, sliceT P t = some el ∧ tsz P el = some n ∧ tby P el = some b ∧ tzero P el = some z ∧ z.cells.size = n ∧ b ≠ 0 ∧ ((sliceT P t2).isSome || isStrT P t2) = true ∧ ∃ ys, elemsOf s n y = some ys ∧ (ys = [] → x.isSlice = true ∧ K x s) ∧ (ys ≠ [] →
    match x with
    | .vec k xs => ∃ xe, elemsOf s n (.vec k xs) = some xe ∧ k ≠ .any ∧ (2 * (xs.length + ys.length) + 1000) * b ≤ 281474976710656 ∧ ∀ i, s i = none → K (.sl i n 0 (xs.length + ys.length)) (s.upd i (some (.row el n (xe ++ ys))))
    | .sl i sz off len => ∃ els, s i = some (.row el n els) ∧ off = 0 ∧ els.length = len ∧ sz = n ∧ (2 * (len + ys.length) + 1000) * b ≤ 281474976710656 ∧ ∀ j, s j = none → K (.sl j n 0 (len + ys.length)) ((s.upd i none).upd j (some (.row el n (els ++ ys))))
    | _ => False)
theorem appW_iff {P : Program} {s : St} {t t2 : TypeId} {x y : PV} {K : PV → St → Prop} : appW P s t t2 x y K ↔ appW0 P s t t2 x y K := by
  constructor
  · intro h
    obtain ⟨el, h1, h⟩ := okv_ex h
    obtain ⟨n, h2, h⟩ := okv_ex h
    obtain ⟨b, h3, h⟩ := okv_ex h
    obtain ⟨z, h4, h⟩ := okv_ex h
    obtain ⟨ys, h5, h6, h7, h8, h9, h⟩ := okv_ex h
    refine ⟨el, n, b, z, h1, h2, h3, h4, h6, h7, h8, ys, h5, h9, fun hy => ?_⟩
    have q := h hy
    cases x with
    | vec k xs => obtain ⟨xe, q1, q2⟩ := okv_ex q; exact ⟨xe, q1, q2⟩
    | sl i sz off len =>
      simp only at q ⊢
      split at q
      · rename_i el' n' els hs
        obtain ⟨rfl, rfl, q⟩ := q
        exact ⟨els, hs, q⟩
      · exact q.elim
    | _ => exact q.elim
  · rintro ⟨el, n, b, z, h1, h2, h3, h4, h6, h7, h8, ys, h5, h9, h⟩
    refine ex_okv h1 (ex_okv h2 (ex_okv h3 (ex_okv h4 (ex_okv h5 ⟨h6, h7, h8, h9, fun hy => ?_⟩))))
    have q := h hy
    cases x with
    | vec k xs => obtain ⟨xe, q1, q2⟩ := q; exact ex_okv q1 q2
    | sl i sz off len =>
      obtain ⟨els, q1, q⟩ := q
      simp only [q1]
      exact ⟨trivial, trivial, q⟩
    | _ => exact q.elim
/-- A block takes another number. -/
theorem Holds.rename (hH : Holds g s w) {i : Nat} {b : Blk} (hi : s i = some b) : LE g w (g.more (g.mu i)) w ∧ Holds (g.more (g.mu i)) ((s.upd i none).upd g.n (some b)) w := by
  have hne : s i ≠ none := by rw [hi]; simp
  have hin := hH.lt hne
  have hle : LEv g w (g.more (g.mu i)) w := ⟨Nat.le_succ _, fun j hj => by simp [G.more, Nat.ne_of_lt hj], fun _ h => h, fun _ _ => rfl⟩
  have hmu : ∀ j, j < g.n → (g.more (g.mu i)).mu j = g.mu j := fun j hj => by simp [G.more, Nat.ne_of_lt hj]
  have hmun : (g.more (g.mu i)).mu g.n = g.mu i := by simp [G.more]
  have hold : ∀ j, j ≠ g.n → ((s.upd i none).upd g.n (some b)) j ≠ none → s j ≠ none ∧ j ≠ i := fun j hj hn => by
    rw [St.upd_ne _ _ hj] at hn
    by_cases hji : j = i
    · subst hji; simp at hn
    · rw [St.upd_ne _ _ hji] at hn; exact ⟨hn, hji⟩
  refine ⟨⟨hle, rfl, rfl, rfl, Nat.le_refl _⟩, ⟨fun j hj => ?_, hH.zlt, fun j c hc => ?_, fun j k hj hk hjk => ?_, fun j bb hj hr => ?_⟩⟩
  · have : g.n + 1 ≤ j := hj
    rw [St.upd_ne _ _ (by omega), St.upd_ne _ _ (by omega)]
    exact hH.fresh j (by omega)
  · by_cases hjn : j = g.n
    · subst hjn
      rw [St.upd_same] at hc
      cases hc
      cases hH.blk i _ hi with
      | row ty sz els arr hz h1 h2 h3 h4 h5 =>
        exact .row ty sz els arr (by rw [hmun]; exact hz) (by rw [hmun]; exact h1) (by rw [hmun]; exact h2) h3 h4 (fun j cs f c hj hf => by
          obtain ⟨v, q1, q2, q3⟩ := h5 j cs f c hj hf
          exact ⟨v, q1, q2, q3.le hle⟩)
      | dict es ents clock h1 h2 h3 => exact .dict es ents clock (by rw [hmun]; exact h1) h2 (fun j k p m hj hm => ⟨(h3 j k p m hj hm).1, (h3 j k p m hj hm).2.le hle⟩)
      | loop L rec h1 h2 h3 h4 h5 h6 h7 h8 => exact .loop L rec (by rw [hmun]; exact h1) h2 h3 h4 h5 h6 h7 (fun t => (h8 t).le hle)
      | ro cs arr ty fr hz h1 h2 => exact .ro cs arr ty fr (by rw [hmun]; exact hz) (by rw [hmun]; exact h1) (fun f c hf => by
          obtain ⟨v, q1, q2, q3⟩ := h2 f c hf
          exact ⟨v, by rw [hmun]; exact q1, q2, q3.le hle⟩)
    · obtain ⟨h1, h2⟩ := hold j hjn (by rw [hc]; simp)
      rw [St.upd_ne _ _ hjn, St.upd_ne _ _ h2] at hc
      exact (hH.blk j c hc).le hle (hH.lt h1) rfl
  · by_cases h1 : j = g.n
    · by_cases h2 : k = g.n
      · rw [h1, h2]
      · obtain ⟨q1, q2⟩ := hold k h2 hk
        rw [h1, hmun, hmu k (hH.lt q1)] at hjk
        exact absurd (hH.inj i k hne q1 hjk).symm q2
    · obtain ⟨p1, p2⟩ := hold j h1 hj
      by_cases h2 : k = g.n
      · rw [h2, hmun, hmu j (hH.lt p1)] at hjk
        exact absurd (hH.inj j i p1 hne hjk) p2
      · obtain ⟨q1, q2⟩ := hold k h2 hk
        rw [hmu j (hH.lt p1), hmu k (hH.lt q1)] at hjk
        exact hH.inj j k p1 q1 hjk
  · by_cases h1 : j = g.n
    · rw [h1, hmun]
      rw [h1, St.upd_same] at hj
      cases hj
      exact hH.apart i _ hi hr
    · obtain ⟨p1, p2⟩ := hold j h1 (by rw [hj]; simp)
      rw [St.upd_ne _ _ h1, St.upd_ne _ _ p2] at hj
      rw [hmu j (hH.lt p1)]; exact hH.apart j _ hj hr
theorem LEv.same {w' : World} (h : w'.heap = w.heap) : LEv g w g w' := ⟨Nat.le_refl _, fun _ _ => rfl, fun _ h => h, fun k _ => by rw [h]⟩
/-- The rows of two appended, in a new array. -/
theorem grown_rows {n : Nat} {xe ys : List (List PV)} {old new rest : Array Value} (hx : ∀ y ∈ xe, y.length = n) (hy : ∀ y ∈ ys, y.length = n) (ho : old.size = xe.length * n) (hnw : new.size = ys.length * n)
    (h1 : ∀ (j : Nat) (cs : List PV) (f : Nat) (c : PV), xe[j]? = some cs → cs[f]? = some c → ∃ u, old[j * n + f]? = some u ∧ Value.oneCell' u = true ∧ VR w g c u)
    (h2 : ∀ (j : Nat) (cs : List PV) (f : Nat) (c : PV), ys[j]? = some cs → cs[f]? = some c → ∃ u, new[j * n + f]? = some u ∧ Value.oneCell' u = true ∧ VR w g c u) :
    (∀ (j : Nat) (cs : List PV), (xe ++ ys)[j]? = some cs → cs.length = n) ∧ ∀ (j : Nat) (cs : List PV) (f : Nat) (c : PV), (xe ++ ys)[j]? = some cs → cs[f]? = some c → ∃ u, (old ++ new ++ rest)[j * n + f]? = some u ∧ Value.oneCell' u = true ∧ VR w g c u := by
  refine ⟨fun j cs hj => ?_, fun j cs f c hj hf => ?_⟩
  · rcases List.mem_append.1 (List.mem_of_getElem? hj) with h | h
    · exact hx _ h
    · exact hy _ h
  · by_cases hjl : j < xe.length
    · rw [List.getElem?_append_left hjl] at hj
      obtain ⟨u, q1, q2, q3⟩ := h1 j cs f c hj hf
      have := (Array.getElem?_eq_some_iff.1 q1).1
      exact ⟨u, by rw [Array.append_assoc, Array.getElem?_append_left this]; exact q1, q2, q3⟩
    · rw [List.getElem?_append_right (by omega)] at hj
      obtain ⟨u, q1, q2, q3⟩ := h2 _ cs f c hj hf
      have := (Array.getElem?_eq_some_iff.1 q1).1
      refine ⟨u, ?_, q2, q3⟩
      have e1 : j * n + f = old.size + ((j - xe.length) * n + f) := by
        rw [ho, Nat.sub_mul]
        have := Nat.mul_le_mul_right n (show xe.length ≤ j by omega)
        omega
      rw [Array.append_assoc, Array.getElem?_append_right (by omega), Array.getElem?_append_left (by omega), ← q1]
      congr 1
      omega
end
end Go.Pv
