/- slices.Clone at nodes, and tree.Clone: a tree is copied; along a path the copy's rows stay the caller's own. -/
import Derived.Test.YteajbghklmkoeaaTy
import Derived.Test.YteajbghklmkoeaaNd
namespace Go.Pv
open Go.Proofs
set_option linter.unusedVariables false
set_option linter.unusedSimpArgs false
set_option maxRecDepth 100000
set_option maxHeartbeats 1000000
theorem enc_cells' (l : List Nd) : (l.map enc).map PV.cells = l.map encC := by
  rw [List.map_map]
  refine List.map_congr_left fun x _ => ?_
  simp
theorem elems_enc (s : St) (k : VK) (l : List Nd) : elemsOf s 6 (.vec k (l.map enc)) = some (l.map encC) := by
  unfold elemsOf
  have : (l.map enc).all (fun y => y.width == 6 && y.solid) = true := by
    rw [List.all_eq_true]
    intro y hy
    obtain ⟨x, _, rfl⟩ := List.mem_map.1 hy
    simp
  simp only [this, if_true, enc_cells']
theorem sclone_c (l : List Nd) (hl : l.length ≤ 1000000) (s : St) : PCalls Try.prog 48 [.vec .any (l.map enc)] s fun r s' =>
    (l = [] ∧ s' = s ∧ r = .ret (.vec .tight [])) ∨ (l ≠ [] ∧ ∃ i, Fresh s i ∧ r = .ret (.sl i 6 0 l.length) ∧ s' = s.upd i (some (.row 24 6 (l.map encC)))) := by
  refine PCalls.conv (R := fun r s' => (l = [] ∧ s' = s ∧ (r = .ret (.vec .tight []) ∨ r = .ret (.vec .nil []))) ∨ (l ≠ [] ∧ ∃ i, Fresh s i ∧ r = .ret (.sl i 6 0 l.length) ∧ s' = s.upd i (some (.row 24 6 (l.map encC))))) ?_ ?_ ?_
  · refine PCalls.of Try.func48 rfl (by rfl) (by simp [Try.ntmps48]) ?_
    refine pwC_sound _ _ _ _ ?_
    simp [Try.ntmps48]
    simp [appW, elems_enc, elemsOf]
    exact fun h => ⟨by omega, fun i hi => ⟨_, sub_refl, h, i, hi, rfl, rfl⟩⟩
  · rintro p s' (⟨h1, h2, h | h⟩ | ⟨h1, i, h2, h3, h4⟩)
    · cases h; exact ⟨_, _, .refl _ _, .inl ⟨h1, h2, rfl⟩⟩
    · cases h; exact ⟨.vec .tight [], _, .wk (.cons (.nil .any) .nil), .inl ⟨h1, h2, rfl⟩⟩
    · exact ⟨_, _, .refl _ _, .inr ⟨h1, i, h2, h3, h4⟩⟩
  · rintro c s' (⟨_, _, h | h⟩ | ⟨_, _, _, h, _⟩) <;> cases h
end Go.Pv
