/- A logic over plain values: new blocks, stores, appends. -/
import Derived.Test.YteajbghklmkoeaaPv3
namespace Go.Pv
set_option linter.unusedVariables false
set_option linter.unusedSimpArgs false
def PV.solid : PV → Bool
  | .junk | .tup _ => false
  | _ => true
section
variable {P : Program} {w : World} {g : G} {s : St} {N : Nat} {e : Env} {a : Act}
/-- A value's cells. -/
theorem VR.cells {p : PV} {v : Value} (h : VR w g p v) (hs : p.solid = true) : v.cells.size = p.cells.length ∧ (∀ u ∈ v.cells.toList, Value.oneCell' u = true) ∧
    ∀ (j : Nat) (c : PV), p.cells[j]? = some c → ∃ u, v.cells[j]? = some u ∧ Value.oneCell' u = true ∧ VR w g c u := by
  have one : ∀ (p : PV) (v : Value), VR w g p v → p.cells = [p] → v.cells = #[v] → Value.oneCell' v = true → v.cells.size = p.cells.length ∧ (∀ u ∈ v.cells.toList, Value.oneCell' u = true) ∧
      ∀ (j : Nat) (c : PV), p.cells[j]? = some c → ∃ u, v.cells[j]? = some u ∧ Value.oneCell' u = true ∧ VR w g c u := by
    intro p v h h1 h2 h3
    rw [h1, h2]
    refine ⟨rfl, by simpa using h3, fun j c hj => ?_⟩
    cases j with
    | zero => cases hj; exact ⟨v, rfl, h3, h⟩
    | succ j => simp at hj
  cases h with
  | junk => cases hs
  | tup => cases hs
  | agg cs vs hl h1 h2 =>
    refine ⟨hl, fun u hu => ?_, fun j c hj => ?_⟩
    · obtain ⟨i, hi⟩ := List.getElem?_of_mem hu
      exact h1 i u (by simpa [Value.cells] using hi)
    · have hlt := (List.getElem?_eq_some_iff.1 hj).1
      have : j < vs.size := by rw [hl]; exact hlt
      exact ⟨vs[j], Array.getElem?_eq_getElem this, h1 j _ (Array.getElem?_eq_getElem this), h2 j c _ hj (Array.getElem?_eq_getElem this)⟩
  | lit v h => exact one _ _ (.lit v h) rfl (scal_cells h) (scal_one h)
  | vec k xs A cap sz f hc hk hn h0 hw hm h2 => exact one _ _ (.vec k xs A cap sz f hc hk hn h0 hw hm h2) rfl rfl rfl
  | sl i sz off len cap hi hc hz hb => exact one _ _ (.sl i sz off len cap hi hc hz hb) rfl rfl rfl
  | pt i j f hi => exact one _ _ (.pt i j f hi) rfl rfl rfl
  | ep cs a f hm h2 => exact one _ _ (.ep cs a f hm h2) rfl rfl rfl
  | fn f fs cs fv cv h1 h2 h3 h4 => exact one _ _ (.fn f fs cs fv cv h1 h2 h3 h4) rfl rfl rfl
  | mp i hi => exact one _ _ (.mp i hi) rfl rfl rfl
  | yld i hi => exact one _ _ (.yld i hi) rfl rfl rfl
/-- What stands behind, with one abstract block more. -/
def G.more (g : G) (m : Mu) : G := ⟨g.Z, fun k => if k = g.n then m else g.mu k, g.n + 1, fun k hk => by
  have h := g.gl k hk
  refine ⟨Nat.lt_succ_of_lt h.1, ?_⟩
  rw [if_neg (Nat.ne_of_lt h.1)]
  exact h.2⟩
def pushed (w : World) (o : Obj) : World := { w with heap := w.heap.push o }
theorem pushed_old (w : World) (o : Obj) {k : Nat} (h : k < w.heap.size) : (pushed w o).heap[k]? = w.heap[k]? := by
  show (w.heap.push o)[k]? = _
  rw [Array.getElem?_push, if_neg (by omega)]
theorem pushed_new (w : World) (o : Obj) : (pushed w o).heap[w.heap.size]? = some o := by
  show (w.heap.push o)[w.heap.size]? = _
  rw [Array.getElem?_push, if_pos rfl]
theorem pushed_size (w : World) (o : Obj) : (pushed w o).heap.size = w.heap.size + 1 := by
  show (w.heap.push o).size = _
  rw [Array.size_push]
theorem LEv.more (hH : Holds g s w) (m : Mu) (o : Obj) : LEv g w (g.more m) (pushed w o) :=
  ⟨Nat.le_succ _, fun i hi => by simp [G.more, Nat.ne_of_lt hi], fun _ h => h, fun k hk => pushed_old w o (hH.zlt k hk)⟩
theorem LE.more (hH : Holds g s w) (m : Mu) (o : Obj) : LE g w (g.more m) (pushed w o) := ⟨LEv.more hH m o, rfl, rfl, rfl, by rw [pushed_size]; omega⟩
theorem Holds.new (hH : Holds g s w) (arr : Array Value) (ty : TypeId) (sz : Nat) (els : List (List PV)) (hl : els.length * sz ≤ arr.size) (he : ∀ (j : Nat) (cs : List PV), els[j]? = some cs → cs.length = sz)
    (h : ∀ (j : Nat) (cs : List PV) (f : Nat) (c : PV), els[j]? = some cs → cs[f]? = some c → ∃ v, arr[j * sz + f]? = some v ∧ Value.oneCell' v = true ∧ VR w g c v) :
    Holds (g.more ⟨w.heap.size, arr.size, sz⟩) (s.upd g.n (some (.row ty sz els))) (pushed w (.cells arr ty (0, 0))) := by
  have hle := LEv.more hH ⟨w.heap.size, arr.size, sz⟩ (.cells arr ty (0, 0))
  have hmun : (g.more ⟨w.heap.size, arr.size, sz⟩).mu g.n = ⟨w.heap.size, arr.size, sz⟩ := by simp [G.more]
  have hmu : ∀ i, i < g.n → (g.more ⟨w.heap.size, arr.size, sz⟩).mu i = g.mu i := fun i hi => by simp [G.more, Nat.ne_of_lt hi]
  have hold : ∀ i, i ≠ g.n → (s.upd g.n (some (.row ty sz els))) i ≠ none → s i ≠ none := fun i hi hn => by rwa [St.upd_ne _ _ hi] at hn
  refine ⟨fun i hi => ?_, fun k hk => ?_, fun i b hb => ?_, fun i j hi hj hij => ?_, fun i bb hi hr => ?_⟩
  · have : g.n + 1 ≤ i := hi
    rw [St.upd_ne _ _ (by omega)]
    exact hH.fresh i (by omega)
  · have := hH.zlt k hk
    rw [pushed_size]; omega
  · by_cases hin : i = g.n
    · subst hin
      rw [St.upd_same] at hb
      cases hb
      refine .row ty sz els arr (by rw [hmun]) (by rw [hmun]; exact pushed_new _ _) (by rw [hmun]) hl he (fun j cs f c hj hf => ?_)
      obtain ⟨v, h1, h2, h3⟩ := h j cs f c hj hf
      exact ⟨v, h1, h2, h3.le hle⟩
    · rw [St.upd_ne _ _ hin] at hb
      have hlt := hH.lt (i := i) (by rw [hb]; simp)
      exact (hH.blk i b hb).le hle hlt (pushed_old _ _ (hH.blk i b hb).lt)
  · by_cases h1 : i = g.n
    · by_cases h2 : j = g.n
      · rw [h1, h2]
      · have hj' := hold j h2 hj
        obtain ⟨b, hb⟩ := Option.ne_none_iff_exists'.1 hj'
        have := (hH.blk j b hb).lt
        rw [h1, hmun, hmu j (hH.lt hj')] at hij
        simp only at hij
        omega
    · have hi' := hold i h1 hi
      by_cases h2 : j = g.n
      · obtain ⟨b, hb⟩ := Option.ne_none_iff_exists'.1 hi'
        have := (hH.blk i b hb).lt
        rw [h2, hmun, hmu i (hH.lt hi')] at hij
        simp only at hij
        omega
      · have hj' := hold j h2 hj
        rw [hmu i (hH.lt hi'), hmu j (hH.lt hj')] at hij
        exact hH.inj i j hi' hj' hij
  · by_cases h1 : i = g.n
    · rw [h1, hmun]
      intro hz
      have := hH.zlt _ hz
      simp only at this
      omega
    · rw [St.upd_ne _ _ h1] at hi
      rw [hmu i (hH.lt (by rw [hi]; simp))]
      exact hH.apart i bb hi hr
theorem withCells_get (w : World) (k : Nat) (arr : Array Value) (ty : TypeId) (j : Nat) (h : j ≠ k) : (withCells w k arr ty).heap[j]? = w.heap[j]? := by
  simp [withCells, Array.getElem?_setIfInBounds, Ne.symm h]
theorem LE.write (hH : Holds g s w) {i : Nat} {b : Blk} (hi : s i = some b) (hr : b.isRo = false) (arr : Array Value) (ty : TypeId) : LE g w g (withCells w (g.mu i).blk arr ty) :=
  ⟨⟨Nat.le_refl _, fun _ _ => rfl, fun _ h => h, fun k hk => withCells_get _ _ _ _ _ (fun e => hH.apart i b hi hr (e ▸ hk))⟩, rfl, rfl, rfl, by simp [withCells]⟩
theorem Holds.write (hH : Holds g s w) {i : Nat} {ty : TypeId} {sz : Nat} {els els' : List (List PV)} (hi : s i = some (.row ty sz els)) (arr : Array Value) (hs : arr.size = (g.mu i).cap) (hl : els'.length * sz ≤ arr.size)
    (he : ∀ (j : Nat) (cs : List PV), els'[j]? = some cs → cs.length = sz)
    (h : ∀ (j : Nat) (cs : List PV) (f : Nat) (c : PV), els'[j]? = some cs → cs[f]? = some c → ∃ v, arr[j * sz + f]? = some v ∧ Value.oneCell' v = true ∧ VR w g c v) :
    Holds g (s.upd i (some (.row ty sz els'))) (withCells w (g.mu i).blk arr ty) := by
  have hne : s i ≠ none := by rw [hi]; simp
  have hle := (LE.write hH hi rfl arr ty).toLEv
  have hlt := hH.lt hne
  have hblt := (hH.blk i _ hi).lt
  have hold : ∀ k, (s.upd i (some (.row ty sz els'))) k ≠ none → s k ≠ none := fun k hk => by
    by_cases h1 : k = i
    · rw [h1]; exact hne
    · rwa [St.upd_ne _ _ h1] at hk
  have hole : ∀ k bb, (s.upd i (some (.row ty sz els'))) k = some bb → bb.isRo = false → ∃ b', s k = some b' ∧ b'.isRo = false := fun k bb hk hr => by
    by_cases h1 : k = i
    · rw [h1]; exact ⟨_, hi, rfl⟩
    · rw [St.upd_ne _ _ h1] at hk; exact ⟨bb, hk, hr⟩
  refine ⟨fun k hk => ?_, fun k hk => by simpa [withCells] using hH.zlt k hk, fun k b hb => ?_, fun k j hk hj => hH.inj k j (hold k hk) (hold j hj), fun k bb hk hr => (hole k bb hk hr).elim fun b' h => hH.apart k b' h.1 h.2⟩
  · rw [St.upd_ne _ _ (by omega)]; exact hH.fresh k hk
  · by_cases hki : k = i
    · subst hki
      rw [St.upd_same] at hb
      cases hb
      obtain ⟨_, _, _, arr0, hz, hb, hs0, _, _, _⟩ := hH.blk k _ hi
      refine .row ty sz els' arr hz (by simp [withCells, hblt]) hs hl he (fun j cs f c hj hf => ?_)
      obtain ⟨v, h1, h2, h3⟩ := h j cs f c hj hf
      exact ⟨v, h1, h2, h3.le hle⟩
    · rw [St.upd_ne _ _ hki] at hb
      have hk : s k ≠ none := by rw [hb]; simp
      refine (hH.blk k b hb).le hle (hH.lt hk) (withCells_get _ _ _ _ _ (fun e => hki (hH.inj k i hk hne e)))
/-- The frozen zone may take in what is no abstract block. -/
def G.freeze (g : G) (k : Nat) : G := ⟨fun j => g.Z j ∨ j = k, g.mu, g.n, g.gl⟩
theorem LEv.freeze (k : Nat) : LEv g w (g.freeze k) w := ⟨Nat.le_refl _, fun _ _ => rfl, fun _ h => .inl h, fun _ _ => rfl⟩
theorem LE.freeze (k : Nat) : LE g w (g.freeze k) w := ⟨LEv.freeze k, rfl, rfl, rfl, Nat.le_refl _⟩
theorem Holds.freeze (hH : Holds g s w) {k : Nat} (hk : k < w.heap.size) (hs : ∀ i, s i ≠ none → (g.mu i).blk ≠ k) : Holds (g.freeze k) s w :=
  ⟨hH.fresh, fun j hj => by rcases hj with hj | rfl <;> first | exact hH.zlt _ hj | exact hk, fun i b hb => (hH.blk i b hb).le (LEv.freeze k) (hH.lt (by rw [hb]; simp)) rfl, hH.inj, fun i b hi hr hz => by
    rcases hz with hz | hz
    · exact hH.apart i b hi hr hz
    · exact hs i (by rw [hi]; simp) hz⟩
/-- A block that is new and is no abstract one. -/
theorem Holds.pushed (hH : Holds g s w) (o : Obj) : Holds g s (pushed w o) ∧ LE g w g (Pv.pushed w o) := by
  have hle : LE g w g (Pv.pushed w o) := ⟨⟨Nat.le_refl _, fun _ _ => rfl, fun _ h => h, fun k hk => pushed_old w o (hH.zlt k hk)⟩, rfl, rfl, rfl, by rw [pushed_size]; omega⟩
  refine ⟨⟨hH.fresh, fun k hk => (by have := hH.zlt k hk; rw [pushed_size]; omega), fun i b hb => ?_, hH.inj, hH.apart⟩, hle⟩
  exact (hH.blk i b hb).le hle.toLEv (hH.lt (by rw [hb]; simp)) (pushed_old _ _ (hH.blk i b hb).lt)
/-- A world that differs in what is no memory. -/
theorem Holds.heap (hH : Holds g s w) {w' : World} (h : w'.heap = w.heap) : Holds g s w' := by
  have hle : LEv g w g w' := ⟨Nat.le_refl _, fun _ _ => rfl, fun _ h => h, fun k _ => by rw [h]⟩
  exact ⟨hH.fresh, fun k hk => by rw [h]; exact hH.zlt k hk, fun i b hb => (hH.blk i b hb).le hle (hH.lt (by rw [hb]; simp)) (by rw [h]), hH.inj, hH.apart⟩
/-! ### Maps -/
/-- The world with one object other. -/
def withObj (w : World) (k : Nat) (o : Obj) : World := { w with heap := w.heap.setIfInBounds k o }
theorem withObj_get (w : World) (k : Nat) (o : Obj) (j : Nat) (h : j ≠ k) : (withObj w k o).heap[j]? = w.heap[j]? := by
  simp [withObj, Array.getElem?_setIfInBounds, Ne.symm h]
theorem LE.writeO (hH : Holds g s w) {i : Nat} {b : Blk} (hi : s i = some b) (hr : b.isRo = false) (o : Obj) : LE g w g (withObj w (g.mu i).blk o) :=
  ⟨⟨Nat.le_refl _, fun _ _ => rfl, fun _ h => h, fun k hk => withObj_get _ _ _ _ (fun e => hH.apart i b hi hr (e ▸ hk))⟩, rfl, rfl, rfl, by simp [withObj]⟩
theorem Holds.writeO (hH : Holds g s w) {i : Nat} {b0 : Blk} (hi : s i = some b0) (hr : b0.isRo = false) (o : Obj) (b' : Blk) (hb' : BR (withObj w (g.mu i).blk o) g i b') : Holds g (s.upd i (some b')) (withObj w (g.mu i).blk o) := by
  have hne : s i ≠ none := by rw [hi]; simp
  have hle := (LE.writeO hH hi hr o).toLEv
  have hlt := hH.lt hne
  have hold : ∀ k, (s.upd i (some b')) k ≠ none → s k ≠ none := fun k hk => by
    by_cases h1 : k = i
    · rw [h1]; exact hne
    · rwa [St.upd_ne _ _ h1] at hk
  have hole : ∀ k bb, (s.upd i (some b')) k = some bb → bb.isRo = false → ∃ b', s k = some b' ∧ b'.isRo = false := fun k bb hk hr' => by
    by_cases h1 : k = i
    · rw [h1]; exact ⟨b0, hi, hr⟩
    · rw [St.upd_ne _ _ h1] at hk; exact ⟨bb, hk, hr'⟩
  refine ⟨fun k hk => ?_, fun k hk => by simpa [withObj] using hH.zlt k hk, fun k b hb => ?_, fun k j hk hj => hH.inj k j (hold k hk) (hold j hj), fun k bb hk hr => (hole k bb hk hr).elim fun b' h => hH.apart k b' h.1 h.2⟩
  · rw [St.upd_ne _ _ (by omega)]; exact hH.fresh k hk
  · by_cases hki : k = i
    · subst hki
      rw [St.upd_same] at hb
      cases hb
      exact hb'
    · rw [St.upd_ne _ _ hki] at hb
      have hk : s k ≠ none := by rw [hb]; simp
      exact (hH.blk k b hb).le hle (hH.lt hk) (withObj_get _ _ _ _ (fun e => hki (hH.inj k i hk hne e)))
/-- A new block of whatever kind. -/
theorem Holds.newO (hH : Holds g s w) (o : Obj) (c z : Nat) (b : Blk) (hb : BR (Pv.pushed w o) (g.more ⟨w.heap.size, c, z⟩) g.n b) : Holds (g.more ⟨w.heap.size, c, z⟩) (s.upd g.n (some b)) (Pv.pushed w o) := by
  have hle := LEv.more hH ⟨w.heap.size, c, z⟩ o
  have hmun : (g.more ⟨w.heap.size, c, z⟩).mu g.n = ⟨w.heap.size, c, z⟩ := by simp [G.more]
  have hmu : ∀ i, i < g.n → (g.more ⟨w.heap.size, c, z⟩).mu i = g.mu i := fun i hi => by simp [G.more, Nat.ne_of_lt hi]
  have hold : ∀ i, i ≠ g.n → (s.upd g.n (some b)) i ≠ none → s i ≠ none := fun i hi hn => by rwa [St.upd_ne _ _ hi] at hn
  refine ⟨fun i hi => ?_, fun k hk => ?_, fun i b' hb' => ?_, fun i j hi hj hij => ?_, fun i bb hi hr => ?_⟩
  · have : g.n + 1 ≤ i := hi
    rw [St.upd_ne _ _ (by omega)]
    exact hH.fresh i (by omega)
  · have := hH.zlt k hk
    rw [pushed_size]; omega
  · by_cases hin : i = g.n
    · subst hin
      rw [St.upd_same] at hb'
      cases hb'
      exact hb
    · rw [St.upd_ne _ _ hin] at hb'
      have hlt := hH.lt (i := i) (by rw [hb']; simp)
      exact (hH.blk i b' hb').le hle hlt (pushed_old _ _ (hH.blk i b' hb').lt)
  · by_cases h1 : i = g.n
    · by_cases h2 : j = g.n
      · rw [h1, h2]
      · have hj' := hold j h2 hj
        obtain ⟨b', hb'⟩ := Option.ne_none_iff_exists'.1 hj'
        have := (hH.blk j b' hb').lt
        rw [h1, hmun, hmu j (hH.lt hj')] at hij
        simp only at hij
        omega
    · have hi' := hold i h1 hi
      by_cases h2 : j = g.n
      · obtain ⟨b', hb'⟩ := Option.ne_none_iff_exists'.1 hi'
        have := (hH.blk i b' hb').lt
        rw [h2, hmun, hmu i (hH.lt hi')] at hij
        simp only at hij
        omega
      · have hj' := hold j h2 hj
        rw [hmu i (hH.lt hi'), hmu j (hH.lt hj')] at hij
        exact hH.inj i j hi' hj' hij
  · by_cases h1 : i = g.n
    · rw [h1, hmun]
      intro hz
      have := hH.zlt _ hz
      simp only at this
      omega
    · rw [St.upd_ne _ _ h1] at hi
      rw [hmu i (hH.lt (by rw [hi]; simp))]
      exact hH.apart i bb hi hr
theorem makeMap_sound (hH : Holds g s w) (t : TypeId) : ∃ g' w', (Instr.makeMap t none).run P w = .ok (.map (some (g'.mu g.n).blk)) w' ∧ LE g w g' w' ∧ Holds g' (s.upd g.n (some (.dict []))) w' ∧ VR w' g' (.mp g.n) (.map (some (g'.mu g.n).blk)) := by
  refine ⟨g.more ⟨w.heap.size, 0, 0⟩, Pv.pushed w (.map #[] 0), ?_, LE.more hH _ _, hH.newO _ 0 0 _ (.dict [] #[] 0 ?_ rfl (fun j k p m hj => by simp at hj)), .mp _ (by simp [G.more])⟩
  · have hmun : (g.more ⟨w.heap.size, 0, 0⟩).mu g.n = ⟨w.heap.size, 0, 0⟩ := by simp [G.more]
    rw [hmun]
    rfl
  · have hmun : (g.more ⟨w.heap.size, 0, 0⟩).mu g.n = ⟨w.heap.size, 0, 0⟩ := by simp [G.more]
    rw [hmun]
    exact pushed_new _ _
theorem mapUpdate_sound (hH : Holds g s w) {t : TypeId} {i : Nat} {es : List (ByteArray × PV)} {b : ByteArray} {p : PV} {u kv v : Value} (hm : VR w g (.mp i) u) (hk : VR w g (.lit (.string b)) kv) (hv : VR w g p v) (ht : (mapT P t).isSome = true) (hs : s i = some (.dict es)) :
    ∃ w', (Instr.mapUpdate t u kv v).run P w = .ok () w' ∧ LE g w g w' ∧ Holds g (s.upd i (some (.dict (dset es b p)))) w' := by
  obtain ⟨⟨kt, el⟩, ht⟩ := Option.isSome_iff_exists.1 ht
  obtain ⟨hu, hkt⟩ := mapT_run ht
  obtain ⟨rfl, _⟩ := hk.lit_inv
  have hne : s i ≠ none := by rw [hs]; simp
  cases hm with
  | mp _ hi =>
  cases hH.blk i _ hs with
  | dict _ ents clock hb hl hd =>
  have hblt : (g.mu i).blk < w.heap.size := (hH.blk i _ hs).lt
  have hck : (Instr.checkKey false 10000 kt (.string b)).run P w = .ok () w := checkKey_run hkt false 9999 b
  have hset : ∀ o, (setObj (g.mu i).blk o).run P w = .ok () (withObj w (g.mu i).blk o) := fun o => by simp [setObj, Sem.run, hb, withObj]
  have hget : (getObj (g.mu i).blk).run P w = .ok (.map ents clock) w := by simp [getObj, Sem.run, hb]
  have hDR : DR w g ents.toList es := ⟨by simpa using hl, fun j k p m hj hm => hd j k p m hj (by simpa using hm)⟩
  rcases find_rel b ents.toList es 0 hDR with ⟨h1, h2, h3⟩ | ⟨p', n, m, h1, h2, h3, h4, h5, h6⟩
  · refine ⟨withObj w (g.mu i).blk (.map (ents.push { key := .string b, val := v, born := clock }) (clock + 1)), ?_, LE.writeO hH hs rfl _, ?_⟩
    · simp [Instr.mapUpdate, run_underlying hu, hget, hck, findKey_run (w := w) hkt h2, hset]
    · refine hH.writeO hs rfl _ _ ?_
      rw [h3]
      refine .dict _ (ents.push { key := .string b, val := v, born := clock }) (clock + 1) (by simp [withObj, hblt]) (by simp [hl]) (fun j k q mm hj hmm => ?_)
      have hle := (LE.writeO hH hs rfl (.map (ents.push { key := .string b, val := v, born := clock }) (clock + 1))).toLEv
      by_cases hjl : j < es.length
      · rw [List.getElem?_append_left hjl] at hj
        rw [Array.getElem?_push, if_neg (by omega)] at hmm
        exact ⟨(hd j k q mm hj hmm).1, (hd j k q mm hj hmm).2.le hle⟩
      · rw [List.getElem?_append_right (by omega)] at hj
        have hj0 : j - es.length = 0 := by
          have := (List.getElem?_eq_some_iff.1 hj).1
          simp at this; omega
        rw [hj0] at hj
        cases hj
        rw [Array.getElem?_push, if_pos (by omega)] at hmm
        cases hmm
        exact ⟨rfl, hv.le hle⟩
  · have hn : ents[n]? = some m := by simpa using h2
    have hstay : (Instr.keyThatStays (((ents[n]?).map (·.key)).getD (.string b)) (.string b)).run P w = .ok (.string b) w := by
      simp [hn, h5, Instr.keyThatStays, Instr.sameBits, bb_eq]
    refine ⟨withObj w (g.mu i).blk (.map (ents.modify n fun e => { e with key := .string b, val := v }) clock), ?_, LE.writeO hH hs rfl _, ?_⟩
    · have h3' : Instr.findNow .string (.string b) ents.toList 0 = some (some (n, m.val)) := by rw [h3]; simp
      simp [Instr.mapUpdate, run_underlying hu, hget, hck, findKey_run (w := w) hkt h3', hstay, hset]
    · refine hH.writeO hs rfl _ _ ?_
      rw [h6]
      refine .dict _ (ents.modify n fun e => { e with key := .string b, val := v }) clock (by simp [withObj, hblt]) (by simp [hl]) (fun j k q mm hj hmm => ?_)
      have hle := (LE.writeO hH hs rfl (.map (ents.modify n fun e => { e with key := .string b, val := v }) clock)).toLEv
      rw [Array.getElem?_modify] at hmm
      by_cases hjn : n = j
      · subst hjn
        rw [if_pos rfl, hn] at hmm
        have hnl : n < es.length := by
          have := (Array.getElem?_eq_some_iff.1 hn).1; omega
        rw [List.getElem?_set_self hnl] at hj
        cases hj
        cases hmm
        exact ⟨rfl, hv.le hle⟩
      · rw [if_neg hjn] at hmm
        rw [List.getElem?_set_ne hjn] at hj
        exact ⟨(hd j k q mm hj hmm).1, (hd j k q mm hj hmm).2.le hle⟩
end
end Go.Pv
