/- The reference's Heavy and the laws' heavy. -/
import Derived.Test.YteajbghklmkoeaaF70
namespace Go.Pv
open Go.Proofs
set_option linter.unusedVariables false
set_option linter.unusedSimpArgs false
set_option maxRecDepth 100000
set_option maxHeartbeats 1000000
theorem heavy_c (l : List Nd) (hl : l.length ≤ 2 ^ 63 - 1) (hG : ∀ y ∈ l, Gd y) (s : St) : PCalls Try.prog 43 [.vec .any (l.map enc), .lit (.int .i64 3000)] s (fun r s' => s' = s ∧ ∃ b, r = .ret (.lit (.bool b)) ∧ (b = false → (l.map Nd.size).sum ≤ 3000)) := by
  refine PCalls.of Try.func43 rfl (by rfl) (by simp [Try.ntmps43]) ?_
  refine pwC_sound _ _ _ _ ?_
  simp [Try.ntmps43]
  refine (deep_c 300 (by omega) l hl hG s).mono ?_
  rintro _ s2 ⟨h2, b, rfl, hb⟩
  rw [h2]
  clear h2 s2
  cases b
  · simp
    refine (nodes_c 300 (by omega) l (hb rfl) hl hG 3000 (by omega) s).mono ?_
    rintro _ s2 ⟨h2, n, rfl, hn1, hn2⟩
    rw [h2]
    clear h2 s2
    by_cases h3 : 3000 < n
    · have h3' : (3000 : Int) < n := by omega
      simp [h3, h3']
    · have h3' : ¬ (3000 : Int) < n := by omega
      simp [h3, h3']
      refine (texts_c 300 l (hb rfl) hl hG 20000 s).mono ?_
      rintro _ s2 ⟨h2, u, rfl⟩
      rw [h2]
      clear h2 s2
      have := hn2 (by omega)
      simp
      exact ⟨s, sub_refl, rfl, by omega⟩
  · simp
end Go.Pv
