/- A logic over plain values: what a law is given reads as plain data. -/
import Derived.Test.YteajbghklmkoeaaPv16
import Derived.Deep.Slices
import Derived.ChangeSame
import Derived.ProofKit
namespace Go.Pv
open Go.RowKit Go.ChangeShapes Go.WideShapes
set_option linter.unusedVariables false
set_option linter.unusedSimpArgs false
/-- Before the call all of memory is frozen. -/
def g0 (w : World) : G := ⟨fun k => k < w.heap.size, fun k => ⟨k, 0, 0⟩, 64, fun k hk => ⟨hk, rfl⟩⟩
theorem holds0 (w : World) : Holds (g0 w) St.empty w := ⟨fun _ _ => rfl, fun _ h => h, fun i b h => by (cases h), fun i j h => absurd rfl h, fun i b h => (by cases h)⟩
theorem PCalls.below {P : Program} {f : FuncId} {args : List PV} {R : Res → St → Prop} (h : PCalls P f args St.empty R) (he : enters P f = true) {w : World} {vs : Array Value} (hA : Args w (g0 w) args vs) :
    Calls P f vs w fun e w' => Below w.heap.size w w' ∧ ∃ res s' g', RR w' g' res e ∧ R res s' := by
  rcases h with h | h
  · exact (h.2 (g0 w) w vs (holds0 w) hA).mono fun e w' ⟨res, s', g', h1, h2, h3, h4⟩ => ⟨⟨h1.os, h1.tape, h1.output, h1.size, fun k hk => h1.block k hk⟩, res, s', g', h3, h4⟩
  · obtain ⟨p, v, s', g', w', h1, _⟩ := h (g0 w) w vs (holds0 w) hA
    rw [run_enters he] at h1
    cases h1
/-- For a law: it answers true. -/
theorem PCalls.law {P : Program} {f : FuncId} {args : List PV} (h : PCalls P f args St.empty fun r s' => s' = St.empty ∧ r = .ret (.lit (.bool true))) (he : enters P f = true) {w : World} {vs : Array Value} (hA : Args w (g0 w) args vs) :
    Calls P f vs w fun e w' => e = .returned (.bool true) ∧ Below w.heap.size w w' :=
  (h.below he hA).mono fun e w' ⟨h1, res, s', g', h2, h3, h4⟩ => by
    subst h4
    cases h2 with
    | ret p v hv => obtain ⟨rfl, _⟩ := hv.lit_inv; exact ⟨rfl, h1⟩
theorem cell_lt {w : World} {a : Addr} {v : Value} (h : w.cell? a = some v) : a.block < w.heap.size := by
  rcases Nat.lt_or_ge a.block w.heap.size with hl | hl
  · exact hl
  · unfold World.cell? at h
    rw [Array.getElem?_eq_none hl] at h
    cases h
/-- Cells that read as the cells of a plain value. -/
def CRd (w : World) (p : PV) (cs : List Value) : Prop := p.cells.length = cs.length ∧ ∀ (i : Nat) (c : PV) (v : Value), p.cells[i]? = some c → cs[i]? = some v → VR w (g0 w) c v ∧ Value.oneCell' v = true
section
variable {H : Type} {enc : TypeId × Value → H} {w : World} {base : Nat} {spare : Nat → Bool} {held : Bool} {P : Program}
theorem list_of {α : Type} [Inhabited α] {p : Nat → α → Prop} : ∀ {n : Nat}, (∀ i, i < n → ∃ x, p i x) → ∃ l : List α, l.length = n ∧ ∀ i x, l[i]? = some x → p i x := by
  intro n h
  obtain ⟨f, hf⟩ := Go.Deep.choose_lt h
  refine ⟨(List.range n).map f, by simp, fun i x hx => ?_⟩
  obtain ⟨hl, hx⟩ := List.getElem?_eq_some_iff.1 hx
  have hi : i < n := by simpa using hl
  have he : f i = x := by simpa using hx
  rw [← he]
  exact hf i hi
theorem CRd.one {p : PV} {v : Value} (hp : p.cells = [p]) (hv : VR w (g0 w) p v) (h1 : Value.oneCell' v = true) : CRd w p [v] := by
  refine ⟨by rw [hp]; rfl, fun i c u hc hu => ?_⟩
  rw [hp] at hc
  cases i with
  | zero => cases hc; cases hu; exact ⟨hv, h1⟩
  | succ i => simp at hc
theorem CRd.agg {cs : List PV} {vs : List Value} (h : CRd w (.agg cs) vs) : VR w (g0 w) (.agg cs) (.agg vs.toArray) := by
  refine .agg cs _ (by simpa using h.1.symm) (fun i v hv => ?_) (fun i c v hc hv => (h.2 i c v hc (by simpa using hv)).1)
  have hv' : vs[i]? = some v := by simpa using hv
  have hlt : i < cs.length := by rw [show cs.length = vs.length from h.1]; exact (List.getElem?_eq_some_iff.1 hv').1
  exact (h.2 i _ v (List.getElem?_eq_getElem hlt) hv').2
/-- A struct's cells, one behind the other. -/
theorem CRd.cons {c : PV} {cs : List PV} {v : Value} {vs : List Value} (hv : VR w (g0 w) c v) (h1 : Value.oneCell' v = true) (h : CRd w (.agg cs) vs) : CRd w (.agg (c :: cs)) (v :: vs) := by
  refine ⟨by simpa [PV.cells] using h.1, fun i d u hd hu => ?_⟩
  cases i with
  | zero => cases hd; cases hu; exact ⟨hv, h1⟩
  | succ i => exact h.2 i d u hd hu
theorem CRd.nil : CRd w (.agg []) [] := ⟨rfl, fun i c v hc => by simp [PV.cells] at hc⟩
/-- A slice of whatever elements. -/
theorem rows_cr {α : Type} [Inhabited α] {t e sz : Nat} (encA : α → PV) (G : α → Prop) (hsz : ∀ x, (encA x).width = sz) {fuel : Nat} {cs : List Value} {x : DataW H × List MemPlace} (ht : P.underlying t = some (.slice e)) (hc : P.cellsOf e = sz)
    (ih : ∀ m, m < fuel → ∀ cs x, DataW.trod enc P w base spare held m e cs = some x → ∃ y, CRd w (encA y) cs ∧ G y)
    (h : DataW.trod enc P w base spare held fuel t cs = some x) : ∃ (v : Value) (l : List α), cs = [v] ∧ VR w (g0 w) (.vec .any (l.map encA)) v ∧ Value.oneCell' v = true ∧ l.length ≤ maxLen ∧ ∀ y ∈ l, G y := by
  rcases DataW.trod_slice ht h with ⟨rfl, _⟩ | ⟨a, len, cap, elems, rest, n, hf, rfl, _, hb, hl, hm, hlen, hel, _, _⟩
  · exact ⟨_, [], rfl, .vec .any [] none 0 0 (fun _ _ => undef) (Nat.le_refl _) (fun h => absurd rfl h) (fun h => by cases h) (fun _ => rfl) (by simp) (by simp) (by simp), rfl, Nat.zero_le _, fun y hy => by cases hy⟩
  · have hall : ∀ i, i < len → ∃ y : α, (∃ c, CRd w (encA y) c ∧ c.length = sz ∧ ∀ j u, c[j]? = some u → w.cell? (a.add (i * sz + j)) = some u) ∧ G y := by
      intro i hi
      have h1 := hel i hi
      rw [List.getElem?_eq_getElem (by omega)] at h1
      obtain ⟨c, hcc, ht2⟩ := Option.bind_eq_some_iff.1 h1
      obtain ⟨y, hK, hG⟩ := ih n (by omega) c _ ht2
      rw [hc] at hcc
      obtain ⟨_, hcl, hat⟩ := World.cells?_some hcc
      refine ⟨y, ⟨c, hK, hcl, fun j u hu => ?_⟩, hG⟩
      have hj : j < sz := by rw [← hcl]; exact (List.getElem?_eq_some_iff.1 hu).1
      rw [← Go.Deep.add_add, hat j hj]
      exact hu
    obtain ⟨l, hll, hp⟩ := list_of hall
    subst hll
    have key : ∀ (i : Nat) (p : PV) (j : Nat) (c : PV), (l.map encA)[i]? = some p → p.cells[j]? = some c → ∃ v, w.cell? (a.add (i * sz + j)) = some v ∧ Value.oneCell' v = true ∧ VR w (g0 w) c v := by
      intro i p j c hp' hcj
      rw [List.getElem?_map] at hp'
      obtain ⟨y, hy, rfl⟩ := Option.map_eq_some_iff.1 hp'
      obtain ⟨⟨cc, hCR, hcl, hcell⟩, _⟩ := hp i y hy
      have hj : j < cc.length := by rw [← hCR.1]; exact (List.getElem?_eq_some_iff.1 hcj).1
      have h2 := hCR.2 j c cc[j] hcj (List.getElem?_eq_getElem hj)
      exact ⟨cc[j], hcell j _ (List.getElem?_eq_getElem hj), h2.2, h2.1⟩
    refine ⟨_, l, rfl, ?_, rfl, Nat.le_trans hl hm, fun y hy => ?_⟩
    · have := VR.vec (w := w) (g := g0 w) .any (l.map encA) (some a) cap sz (fun i j => (w.cell? (a.add (i * sz + j))).getD undef) (by simpa using hl) (fun h => absurd rfl h) (fun h => by cases h) (fun h => by cases h) (fun i p hp' => by
          rw [List.getElem?_map] at hp'
          obtain ⟨y, hy, rfl⟩ := Option.map_eq_some_iff.1 hp'
          exact hsz y) (fun i p j c hp' hcj => by
          obtain ⟨v, h1, h2, h3⟩ := key i p j c hp' hcj
          refine ⟨a, rfl, ?_, by rw [h1]; rfl, by rw [h1]; exact h2⟩
          have := cell_lt h1
          rwa [add_zero_add] at this) (fun i p j c hp' hcj => by
          obtain ⟨v, h1, h2, h3⟩ := key i p j c hp' hcj
          rw [h1]; exact h3)
      rw [List.length_map] at this
      exact this
    · obtain ⟨i, hi⟩ := List.getElem?_of_mem hy
      exact (hp i y hi).2
theorem int_cr {t : TypeId} {k : IntKind} {fuel : Nat} {cs : List Value} {x : DataW H × List MemPlace} (ht : P.underlying t = some (.int k)) (h : DataW.trod enc P w base spare held fuel t cs = some x) :
    ∃ n : Int, cs = [.int k n] ∧ VR w (g0 w) (.lit (.int k n)) (.int k n) ∧ (Lit.int k n).wf = true := by
  obtain ⟨a, e, _, hw⟩ := DataW.trod_int ht h
  exact ⟨a, e, .lit _ rfl, hw⟩
theorem str_cr {t : TypeId} {fuel : Nat} {cs : List Value} {x : DataW H × List MemPlace} (ht : P.underlying t = some .string) (h : DataW.trod enc P w base spare held fuel t cs = some x) :
    ∃ s : ByteArray, cs = [.string s] ∧ VR w (g0 w) (.lit (.string s)) (.string s) ∧ s.size ≤ maxLen := by
  obtain ⟨a, e, _, hw⟩ := DataW.trod_string ht h
  exact ⟨a, e, .lit _ rfl, hw⟩
end
/-- Arguments, one behind the other. -/
theorem Args.nil {w : World} {g : G} : Args w g [] #[] := ⟨rfl, fun i p v hp => by simp at hp⟩
theorem Args.mk {w : World} {g : G} {ps : List PV} {vs : List Value} (hl : vs.length = ps.length) (h : ∀ (i : Nat) (p : PV) (v : Value), ps[i]? = some p → vs[i]? = some v → VR w g p v) : Args w g ps vs.toArray := ⟨by simpa using hl, fun i p v hp hv => h i p v hp (by simpa using hv)⟩
theorem Args.cons {w : World} {g : G} {p : PV} {v : Value} {ps : List PV} {vs : List Value} (h : VR w g p v) (t : Args w g ps vs.toArray) : Args w g (p :: ps) (v :: vs).toArray := by
  refine Args.mk (by have := t.1; simp at this; simp [this]) (fun i q u hq hu => ?_)
  cases i with
  | zero => cases hq; cases hu; exact h
  | succ i => exact t.2 i q u (by simpa using hq) (by simpa using hu)
end Go.Pv
