/- slices.Clone of numbers: the caller's own copy, and the copy as a list. -/
import Derived.Test.YteajbghklmkoeaaJn
import Derived.Test.YteajbghklmkoeaaTy
namespace Go.Pv
open Go.Proofs
set_option linter.unusedVariables false
set_option linter.unusedSimpArgs false
set_option maxRecDepth 100000
set_option maxHeartbeats 1000000
@[reducible] def rowI (l : List Int) : List (List PV) := l.map fun n => [.lit (.int .i64 n)]
theorem elems_ints (s : St) (k : VK) (l : List Int) : elemsOf s 1 (ints k l) = some (rowI l) := by
  unfold elemsOf
  have : (l.map fun n => PV.lit (.int .i64 n)).all (fun y => y.width == 1 && y.solid) = true := by
    rw [List.all_eq_true]
    intro y hy
    obtain ⟨x, _, rfl⟩ := List.mem_map.1 hy
    simp
  simp only [this, if_true, List.map_map]
  congr 1
theorem iclone_c (k : VK) (l : List Int) (hk : l = [] → k = .nil) (hl : l.length ≤ 1000000) (s : St) : PCalls Try.prog 76 [ints k l] s fun r s' => ∃ v, r = .ret v ∧ OwnL 3 1 s (rowI l) v s' := by
  refine PCalls.of Try.func76 rfl (by rfl) (by simp [Try.ntmps76]) ?_
  refine pwC_sound _ _ _ _ ?_
  by_cases h0 : l = []
  · have hk0 := hk h0
    subst h0
    subst hk0
    simp [Try.ntmps76]
    exact ⟨_, sub_refl, .nil _ _ _⟩
  · simp [Try.ntmps76, h0]
    simp [appW, elems_ints, elemsOf, h0]
    exact fun _ => ⟨by omega, fun i hi => ⟨_, sub_refl, .inr ⟨by simpa using h0, i, hi, by simp, rfl⟩⟩⟩
theorem cells_ints (l : List Int) : (l.map fun n => PV.lit (.int .i64 n)).map PV.cells = rowI l := by
  rw [List.map_map]; rfl
theorem icloneQ_c (k : VK) (l : List Int) (hk : l = [] → k = .nil) (hl : l.length ≤ 1000000) (s : St) : PCalls Try.prog 76 [ints k l] s fun r s' => s' = s ∧ r = .ret (ints .any l) := by
  refine PCalls.conv (iclone_c k l hk hl s) ?_ ?_
  · rintro p s' ⟨v, hv, hO⟩
    cases hv
    exact ⟨_, _, Conv.own hO (cells_ints l) [], rfl, rfl⟩
  · rintro c s' ⟨v, hv, _⟩
    cases hv
end Go.Pv
