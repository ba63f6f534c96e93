/- A logic over plain values: slices of one's own that grow, and end as lists. -/
import Derived.Test.YteajbghklmkoeaaPv16
namespace Go.Pv
set_option linter.unusedVariables false
set_option linter.unusedSimpArgs false
/-- A slice that has been appended to: nil as long as it is empty, else a block of its own. -/
def OwnL (ty : TypeId) (sz : Nat) (base : St) (els : List (List PV)) (v : PV) (s : St) : Prop :=
  (els = [] ∧ v = .vec .nil [] ∧ s = base) ∨ (els ≠ [] ∧ ∃ j, Fresh base j ∧ v = .sl j sz 0 els.length ∧ s = base.upd j (some (.row ty sz els)))
theorem OwnL.nil (ty : TypeId) (sz : Nat) (base : St) : OwnL ty sz base [] (.vec .nil []) base := .inl ⟨rfl, rfl, rfl⟩
section
variable {P : Program} {s base : St} {ty sz : Nat} {els : List (List PV)} {v : PV}
theorem OwnL.sub (h : OwnL ty sz base els v s) : base.sub s := by
  rcases h with ⟨_, _, rfl⟩ | ⟨_, j, hj, _, rfl⟩
  · exact sub_refl
  · exact sub_refl.upd hj
theorem OwnL.at (h : OwnL ty sz base els v s) {k : Nat} {b : Blk} (hk : base k = some b) : s k = some b := h.sub k b hk
theorem appOwn {t t2 b : Nat} {z : Value} {y : PV} {ys : List (List PV)} {K : PV → St → Prop} (h : OwnL ty sz base els v s) (h1 : sliceT P t = some ty) (h2 : tsz P ty = some sz) (h3 : tby P ty = some b) (h4 : tzero P ty = some z) (h5 : z.cells.size = sz) (h6 : b ≠ 0)
    (h7 : ((sliceT P t2).isSome || isStrT P t2) = true) (hy : ∀ s, elemsOf s sz y = some ys) (hl : (2 * (els.length + ys.length) + 1000) * b ≤ 281474976710656) (hK : ∀ v' s', OwnL ty sz base (els ++ ys) v' s' → K v' s') : appW P s t t2 v y K := by
  unfold appW
  refine ex_okv h1 (ex_okv h2 (ex_okv h3 (ex_okv h4 (ex_okv (hy s) ⟨h5, h6, h7, fun he => ?_, fun he => ?_⟩))))
  · subst he
    rw [List.append_nil] at hK
    rcases h with ⟨rfl, rfl, rfl⟩ | ⟨h0, j, hj, rfl, rfl⟩
    · exact ⟨rfl, hK _ _ (.inl ⟨rfl, rfl, rfl⟩)⟩
    · exact ⟨rfl, hK _ _ (.inr ⟨h0, j, hj, rfl, rfl⟩)⟩
  · rcases h with ⟨rfl, rfl, rfl⟩ | ⟨h0, j, hj, rfl, rfl⟩
    · simp only
      refine ex_okv (v := []) rfl ⟨by simp, by simpa using hl, fun i hi => hK _ _ (.inr ⟨by simpa using he, i, hi, by simp, by simp⟩)⟩
    · simp only [St.upd_same]
      refine ⟨trivial, trivial, trivial, trivial, trivial, hl, fun i hi => hK _ _ (.inr ⟨by simp [h0], i, ?_, by simp, ?_⟩)⟩
      · by_cases hij : i = j
        · subst hij; rw [St.upd_same] at hi; cases hi
        · rw [St.upd_ne _ _ hij] at hi; exact hi
      · congr 1
        rw [St.upd_upd]
        exact St.upd_none hj
/-- Such a slice ends as a list. -/
theorem Conv.own (h : OwnL ty sz base els v s) {xs : List PV} (hx : xs.map PV.cells = els) (rest : List PV) : Conv s (v :: rest) base (.vec .any xs :: rest) := by
  rcases h with ⟨rfl, rfl, rfl⟩ | ⟨h0, i, hi, rfl, rfl⟩
  · have : xs = [] := by simpa using hx
    subst this
    refine .wk (.cons (.any .nil []) ?_)
    clear hx
    induction rest with
    | nil => exact .nil
    | cons p r ih => exact .cons (.refl p) ih
  · intro g w hH
    have hs : (base.upd i (some (.row ty sz els))) i = some (.row ty sz els) := St.upd_same _ _ _
    have hne : (base.upd i (some (.row ty sz els))) i ≠ none := by rw [hs]; simp
    have hsub : base.sub (base.upd i (some (.row ty sz els))) := sub_refl.upd hi
    have hlt := (hH.blk i _ hs).lt
    have hxl : xs.length = els.length := by rw [← hx]; simp
    refine ⟨g.freeze (g.mu i).blk, LE.freeze _, (hH.sub hsub).freeze hlt (fun k hk hb => ?_), rfl, fun k q q' u hq hq' hu => ?_⟩
    · have hki : k ≠ i := fun e => hk (by subst e; exact hi)
      exact hki (hH.inj k i (by rw [St.upd_ne _ _ hki]; exact hk) hne hb)
    · have hle := LEv.freeze (g := g) (w := w) (g.mu i).blk
      have hZ : (g.freeze (g.mu i).blk).Z (g.mu i).blk := .inr rfl
      cases k with
      | zero =>
        cases hq; cases hq'
        have := fz1_vr hH hs hx hle hZ (p := .sl i sz 0 els.length) (fun a b c d he _ => by cases he; omega) hu
        have he : fz1 i xs (.sl i sz 0 els.length) = .vec .any xs := by simp [fz1]; rw [List.take_of_length_le (by omega)]
        rw [he] at this
        exact this
      | succ k =>
        rw [List.getElem?_cons_succ] at hq hq'
        rw [hq] at hq'
        cases hq'
        exact hu.le hle
end
end Go.Pv
