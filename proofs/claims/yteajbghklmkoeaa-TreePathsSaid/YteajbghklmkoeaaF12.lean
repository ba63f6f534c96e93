/- The laws' awake holds. -/
import Derived.Test.YteajbghklmkoeaaF44
import Derived.Test.YteajbghklmkoeaaF25
namespace Go.Pv
open Go.Proofs
set_option linter.unusedVariables false
set_option linter.unusedSimpArgs false
set_option maxRecDepth 100000
set_option maxHeartbeats 1000000
def nA : Nd := ⟨50, ⟨#[97]⟩, 0, 0, 0, []⟩
def nB : Nd := ⟨50, ⟨#[98]⟩, 0, 0, 0, []⟩
def nP : Nd := ⟨54, ⟨#[]⟩, 0, 0, 0, [nA]⟩
theorem awake_c (s : St) : PCalls Try.prog 12 [] s (fun r s' => s' = s ∧ r = .ret (.lit (.bool true))) := by
  refine PCalls.of Try.func12 rfl (by rfl) (by simp [Try.ntmps12]) ?_
  refine pwC_sound _ _ _ _ ?_
  simp [Try.ntmps12]
  intro i1 h1
  refine (PCalls.wk (alike_leaf_c nP nA (by simp [Nd.size_eq, nP, nA]) (by simp [Nd.size_eq, nA]) (by simp [bareN, Nd.size_eq, nP, nA]) (by simp [bareN, Nd.size_eq, nA]) _) ?_).mono ?_
  · simp [nP, nA, nB]
    repeat' (first | exact Wk.refl _ | rw [enc_eq] | apply Wks.nil | apply Wks.cons | apply Wk.aggs | apply Wk.elemsL)
  rintro _ _ ⟨rfl, b, rfl, hb⟩
  have : b = true := by rw [hb]; simp [bareN, Nd.size_eq, nP, nA]
  subst this
  clear hb
  simp
  refine (PCalls.wk (alike_leaf_c nA nB (by simp [Nd.size_eq, nA]) (by simp [Nd.size_eq, nB]) (by simp [bareN, Nd.size_eq, nA]) (by simp [bareN, Nd.size_eq, nB]) _) ?_).mono ?_
  · simp [nP, nA, nB]
    repeat' (first | exact Wk.refl _ | rw [enc_eq] | apply Wks.nil | apply Wks.cons | apply Wk.aggs | apply Wk.elemsL)
  rintro _ _ ⟨rfl, b, rfl, hb⟩
  have : b = false := by
    cases b
    · rfl
    · have := hb.1 rfl; simp [bareN, Nd.size_eq, nA, nB] at this
  subst this
  clear hb
  simp
  refine (PCalls.wk (size_c nA (by simp [Nd.size_eq, nA]) _) ?_).mono ?_
  · simp [nP, nA, nB]
    repeat' (first | exact Wk.refl _ | rw [enc_eq] | apply Wks.nil | apply Wks.cons | apply Wk.aggs | apply Wk.elemsL)
  rintro _ _ ⟨rfl, rfl⟩
  simp [Nd.size_eq, nA]
  exact sub_refl.upd h1
end Go.Pv
