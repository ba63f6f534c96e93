/- tree.Sight, the reference's Ascending, cmp.Less. -/
import Derived.Test.YteajbghklmkoeaaF31
namespace Go.Pv
open Go.Proofs
set_option linter.unusedVariables false
set_option linter.unusedSimpArgs false
set_option maxRecDepth 100000
set_option maxHeartbeats 1000000
/-- Numbers that ascend, all above p and below n. -/
def ascF (n : Int) : Int → List Int → Bool
  | _, [] => true
  | p, a :: r => decide (p < a) && decide (a < n) && ascF n a r
theorem ascF_drop {n p : Int} {v : List Int} {j : Nat} (h : j < v.length) : ascF n p (v.drop j) = (decide (p < v[j]) && decide (v[j] < n) && ascF n v[j] (v.drop (j + 1))) := by
  rw [List.drop_eq_getElem_cons h]; rfl
theorem sight_c (kl kv : VK) (l : List PV) (v : List Int) (hv : v.length ≤ 1000000) (s : St) : PCalls Try.prog 62 [.vec kl l, ints kv v] s (fun r s' => s' = s ∧ r = .ret (.lit (.bool (ascF l.length (-1) v)))) := by
  refine PCalls.of Try.func62 rfl (by rfl) (by simp [Try.ntmps62]) ?_
  refine pwC_sound _ _ _ _ ?_
  simp [Try.ntmps62]
  refine PW.loop (fun n e s' => ∃ (j : Nat) (p : Int), j + n = v.length ∧ e 0 = .vec kl l ∧ e 8 = ints kv v ∧ e 9 = .lit (.int .i64 v.length) ∧ e 10 = .lit (.int .i64 j) ∧ e 5 = .lit (.int .i64 p) ∧ ascF l.length p (v.drop j) = ascF l.length (-1) v ∧ s' = s) v.length ⟨0, -1, by simp, by simp, by simp, by simp, by simp, by simp, by simp, rfl⟩ ?_
  rintro n e s' ⟨j, p, hj, e0, e8, e9, e10, e5, ha, rfl⟩
  refine pwC_sound _ _ _ _ ?_
  by_cases hlt : j < v.length
  · have hg : v[j]? = some v[j] := List.getElem?_eq_getElem hlt
    have w1 : IntKind.i64.wrap ((j : Int) + 1) = ((j + 1 : Nat) : Int) := by rw [wrap_i64 (by omega) (by omega)]; omega
    rw [ascF_drop hlt] at ha
    by_cases h1 : v[j] ≤ p
    · have h1' : ¬ p < v[j] := by omega
      simp [h1'] at ha
      simp [e0, e8, e9, e10, e5, hlt, hg, h1, ha]
    · have h1' : p < v[j] := by omega
      by_cases h2 : (l.length : Int) ≤ v[j]
      · have h2' : ¬ v[j] < (l.length : Int) := by omega
        simp [h1', h2'] at ha
        simp [e0, e8, e9, e10, e5, hlt, hg, h1, h2, ha]
      · have h2' : v[j] < (l.length : Int) := by omega
        simp [h1', h2'] at ha
        simp [e0, e8, e9, e10, e5, hlt, hg, h1, h2, w1]
        exact ⟨n - 1, by omega, j + 1, by omega, by omega, ha⟩
  · have hjc : j = v.length := by omega
    subst hjc
    simp [ascF] at ha
    simp [e0, e8, e9, e10, e5, ha]
theorem ascends_c (kl kv : VK) (l : List PV) (v : List Int) (hv : v.length ≤ 1000000) (s : St) : PCalls Try.prog 65 [.vec kl l, ints kv v] s (fun r s' => s' = s ∧ r = .ret (.lit (.bool (ascF l.length (-1) v)))) := by
  refine PCalls.of Try.func65 rfl (by rfl) (by simp [Try.ntmps65]) ?_
  refine pwC_sound _ _ _ _ ?_
  simp [Try.ntmps65]
  refine PW.loop (fun n e s' => ∃ (j : Nat) (p : Int), j + n = v.length ∧ e 0 = .vec kl l ∧ e 1 = ints kv v ∧ e 5 = .lit (.int .i64 j) ∧ (j = 0 → p = -1) ∧ (∀ i, j = i + 1 → ∃ h : i < v.length, p = v[i]'h) ∧ -1 ≤ p ∧ ascF l.length p (v.drop j) = ascF l.length (-1) v ∧ s' = s) v.length ⟨0, -1, by simp, by simp, by simp, by simp, by simp, by simp, by simp, by simp, rfl⟩ ?_
  rintro n e s' ⟨j, p, hj, e0, e1, e5, hp0, hp1, hpm, ha, rfl⟩
  refine pwC_sound _ _ _ _ ?_
  by_cases hlt : j < v.length
  · have hg : v[j]? = some v[j] := List.getElem?_eq_getElem hlt
    have w1 : IntKind.i64.wrap ((j : Int) + 1) = ((j + 1 : Nat) : Int) := by rw [wrap_i64 (by omega) (by omega)]; omega
    rw [ascF_drop hlt] at ha
    have hl1 : (j : Int) < v.length := by omega
    simp [e0, e1, e5, hlt, hl1]
    refine PW.drawn (fun i => 0) [0, 1, 2, 3, 4, 5, 6, 7, 8, 9, 10, 11, 12, 13, 14, 15, 16, 17, 18, 19, 20, 21, 22, 23, 24, 25, 26, 27, 28, 29] mixed_ (fun _ _ _ _ h => h) (by kernel_rfl) ?_
    have hn1 : ∀ i, j + 1 = i + 1 → ∃ h : i < v.length, v[j] = v[i]'h := by intro i hi; have hij : i = j := (by omega); subst hij; exact ⟨hlt, rfl⟩
    generalize v[j] = a at *
    by_cases h1 : a < 0
    · have h1' : ¬ p < a := by omega
      simp [h1'] at ha
      simp (maxSteps := 1000000) [e0, e1, e5, hg, h1, ha]
    · by_cases h2 : (l.length : Int) ≤ a
      · have h2' : ¬ a < (l.length : Int) := by omega
        simp [h2'] at ha
        simp (maxSteps := 1000000) [e0, e1, e5, hg, h1, h2, ha]
      · have h2' : a < (l.length : Int) := by omega
        by_cases hz : j = 0
        · have hp := hp0 hz
          have h1' : p < a := by omega
          have h3 : ¬ (0 : Int) < (j : Int) := by omega
          have h3' : ¬ 0 < j := by omega
          simp [h1', h2'] at ha
          clear hz
          simp [e0, e1, e5, hg, h1, h2, w1, h3, h3']
          exact ⟨n - 1, by omega, j + 1, by omega, by omega, a, by simp, hn1, by omega, ha⟩
        · obtain ⟨i, hji⟩ : ∃ i, j = i + 1 := ⟨j - 1, by omega⟩
          obtain ⟨hi, hp⟩ := hp1 i hji
          have hgi : v[i]? = some p := by rw [List.getElem?_eq_getElem hi, hp]
          have w2 : IntKind.i64.wrap ((j : Int) - 1) = (i : Int) := by rw [wrap_i64 (by omega) (by omega)]; omega
          have h3 : (0 : Int) < (j : Int) := by omega
          have h3' : 0 < j := by omega
          clear hp0 hp1 hp hji
          by_cases h4 : a ≤ p
          · have h4' : ¬ p < a := by omega
            simp [h4'] at ha
            simp (maxSteps := 1000000) [e0, e1, e5, hg, hgi, h1, h2, w2, h3, h3', h4, ha]
          · have h4' : p < a := by omega
            simp [h4', h2'] at ha
            simp (maxSteps := 1000000) [e0, e1, e5, hg, hgi, h1, h2, w1, w2, h3, h3', h4]
            exact ⟨n - 1, by omega, j + 1, by omega, by omega, a, by simp, hn1, by omega, ha⟩
  · have hjc : j = v.length := by omega
    subst hjc
    simp [ascF] at ha
    simp [e0, e1, e5, ha]
theorem nan_c (a : Int) (s : St) : PCalls Try.prog 86 [.lit (.int .i64 a)] s (fun r s' => s' = s ∧ r = .ret (.lit (.bool false))) := by
  refine PCalls.of Try.func86 rfl (by rfl) (by simp [Try.ntmps86]) ?_
  refine pwC_sound _ _ _ _ ?_
  simp [Try.ntmps86]
theorem nan2_c (a : Int) (s : St) : PCalls Try.prog 79 [.lit (.int .i64 a)] s (fun r s' => s' = s ∧ r = .ret (.lit (.bool false))) := by
  refine PCalls.of Try.func79 rfl (by rfl) (by simp [Try.ntmps79]) ?_
  refine pwC_sound _ _ _ _ ?_
  simp [Try.ntmps79]
theorem less_c (a b : Int) (s : St) : PCalls Try.prog 78 [.lit (.int .i64 a), .lit (.int .i64 b)] s (fun r s' => s' = s ∧ r = .ret (.lit (.bool (decide (a < b))))) := by
  refine PCalls.of Try.func78 rfl (by rfl) (by simp [Try.ntmps78]) ?_
  refine pwC_sound _ _ _ _ ?_
  simp [Try.ntmps78]
  refine (nan_c a _).mono ?_
  rintro _ _ ⟨rfl, rfl⟩
  simp
end Go.Pv
