/- A logic over plain values: what a law is given, with its data. -/
import Derived.Test.YteajbghklmkoeaaPv17
namespace Go.Pv
open Go.RowKit Go.ChangeShapes Go.WideShapes
set_option linter.unusedVariables false
set_option linter.unusedSimpArgs false
section
variable {H : Type} {enc : TypeId × Value → H} {w : World} {base : Nat} {spare : Nat → Bool} {held : Bool} {P : Program}
/-- A slice's elements, as data. -/
def elemsD {H : Type} : DataW H → List (DataW H)
  | .slice elems _ => elems
  | _ => []
/-- A slice of whatever elements, each with its datum. -/
theorem rows_crD {α : Type} [Inhabited α] {t e sz : Nat} (encA : α → PV) (G : α → DataW H → Prop) (hsz : ∀ x, (encA x).width = sz) {fuel : Nat} {cs : List Value} {x : DataW H × List MemPlace} (ht : P.underlying t = some (.slice e)) (hc : P.cellsOf e = sz)
    (ih : ∀ m, m < fuel → ∀ cs x, DataW.trod enc P w base spare held m e cs = some x → ∃ y, CRd w (encA y) cs ∧ G y x.1)
    (h : DataW.trod enc P w base spare held fuel t cs = some x) : ∃ (v : Value) (l : List α), cs = [v] ∧ VR w (g0 w) (.vec .any (l.map encA)) v ∧ Value.oneCell' v = true ∧ l.length ≤ maxLen ∧ l.length = (elemsD x.1).length ∧ ∀ (i : Nat) y, l[i]? = some y → ∃ d, (elemsD x.1)[i]? = some d ∧ G y d := by
  rcases DataW.trod_slice ht h with ⟨rfl, rfl⟩ | ⟨a, len, cap, elems, rest, n, hf, rfl, rfl, hb, hl, hm, hlen, hel, _, _⟩
  · exact ⟨_, [], rfl, .vec .any [] none 0 0 (fun _ _ => undef) (Nat.le_refl _) (fun h => absurd rfl h) (fun h => by cases h) (fun _ => rfl) (by simp) (by simp) (by simp), rfl, Nat.zero_le _, rfl, fun i y hy => by simp at hy⟩
  · have hall : ∀ i, i < len → ∃ y : α, (∃ c, CRd w (encA y) c ∧ c.length = sz ∧ ∀ j u, c[j]? = some u → w.cell? (a.add (i * sz + j)) = some u) ∧ ∃ d, (elems.map (·.1))[i]? = some d ∧ G y d := by
      intro i hi
      have h1 := hel i hi
      rw [List.getElem?_eq_getElem (by omega)] at h1
      obtain ⟨c, hcc, ht2⟩ := Option.bind_eq_some_iff.1 h1
      obtain ⟨y, hK, hG⟩ := ih n (by omega) c _ ht2
      rw [hc] at hcc
      obtain ⟨_, hcl, hat⟩ := World.cells?_some hcc
      refine ⟨y, ⟨c, hK, hcl, fun j u hu => ?_⟩, elems[i].1, by simp [show i < elems.length by omega], hG⟩
      have hj : j < sz := by rw [← hcl]; exact (List.getElem?_eq_some_iff.1 hu).1
      rw [← Go.Deep.add_add, hat j hj]
      exact hu
    obtain ⟨l, hll, hp⟩ := list_of hall
    have hll' := hll
    subst hll
    have key : ∀ (i : Nat) (p : PV) (j : Nat) (c : PV), (l.map encA)[i]? = some p → p.cells[j]? = some c → ∃ v, w.cell? (a.add (i * sz + j)) = some v ∧ Value.oneCell' v = true ∧ VR w (g0 w) c v := by
      intro i p j c hp' hcj
      rw [List.getElem?_map] at hp'
      obtain ⟨y, hy, rfl⟩ := Option.map_eq_some_iff.1 hp'
      obtain ⟨⟨cc, hCR, hcl, hcell⟩, _⟩ := hp i y hy
      have hj : j < cc.length := by rw [← hCR.1]; exact (List.getElem?_eq_some_iff.1 hcj).1
      have h2 := hCR.2 j c cc[j] hcj (List.getElem?_eq_getElem hj)
      exact ⟨cc[j], hcell j _ (List.getElem?_eq_getElem hj), h2.2, h2.1⟩
    refine ⟨_, l, rfl, ?_, rfl, Nat.le_trans hl hm, by simp [elemsD]; omega, fun i y hy => ?_⟩
    · have := VR.vec (w := w) (g := g0 w) .any (l.map encA) (some a) cap sz (fun i j => (w.cell? (a.add (i * sz + j))).getD undef) (by simpa using hl) (fun h => absurd rfl h) (fun h => by cases h) (fun h => by cases h) (fun i p hp' => by
          rw [List.getElem?_map] at hp'
          obtain ⟨y, hy, rfl⟩ := Option.map_eq_some_iff.1 hp'
          exact hsz y) (fun i p j c hp' hcj => by
          obtain ⟨v, h1, h2, h3⟩ := key i p j c hp' hcj
          refine ⟨a, rfl, ?_, by rw [h1]; rfl, by rw [h1]; exact h2⟩
          have := cell_lt h1
          rwa [add_zero_add] at this) (fun i p j c hp' hcj => by
          obtain ⟨v, h1, h2, h3⟩ := key i p j c hp' hcj
          rw [h1]; exact h3)
      rw [List.length_map] at this
      exact this
    · exact (hp i y hy).2
theorem str_crD {t : TypeId} {fuel : Nat} {cs : List Value} {x : DataW H × List MemPlace} (ht : P.underlying t = some .string) (h : DataW.trod enc P w base spare held fuel t cs = some x) :
    ∃ s : ByteArray, cs = [.string s] ∧ VR w (g0 w) (.lit (.string s)) (.string s) ∧ s.size ≤ maxLen ∧ x.1 = .lit (.string s.data.toList) := by
  obtain ⟨a, e, hx, hw⟩ := DataW.trod_string ht h
  exact ⟨a, e, .lit _ rfl, hw, by rw [hx]⟩
end
end Go.Pv
