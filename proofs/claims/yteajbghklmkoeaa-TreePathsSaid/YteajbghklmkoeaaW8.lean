/- Lists of lists of numbers, compared. -/
import Derived.Test.YteajbghklmkoeaaW7
namespace Go.Pv
open Go.Proofs
set_option linter.unusedVariables false
set_option linter.unusedSimpArgs false
set_option maxRecDepth 100000
set_option maxHeartbeats 1000000
theorem eqints_c (k k' : VK) (l l' : List Int) (hl : l.length ≤ 1000000000) (hl' : l'.length ≤ 1000000000) (s : St) : PCalls Try.prog 20 [ints k l, ints k' l'] s (fun r s' => s' = s ∧ r = .ret (.lit (.bool (decide (l = l'))))) := by
  refine PCalls.of Try.func20 rfl (by rfl) (by simp [Try.ntmps20]) ?_
  refine pwC_sound _ _ _ _ ?_
  simp [Try.ntmps20]
  by_cases hn : l.length = l'.length
  · have hn' : ((l.length : Nat) : Int) = (l'.length : Nat) := by omega
    simp [hn, hn']
    refine PW.loop (fun n e s' => ∃ j : Nat, j + n = l.length ∧ l.take j = l'.take j ∧ e 0 = ints k l ∧ e 1 = ints k' l' ∧ e 5 = .lit (.int .i64 j) ∧ s' = s) l.length ⟨0, by omega, by simp, by simp, by simp, by simp, rfl⟩ ?_
    rintro n e s' ⟨j, hj, ht, e0, e1, e5, rfl⟩
    refine pwC_sound _ _ _ _ ?_
    by_cases hlt : j < l.length
    · have hlt2 : j < l'.length := by omega
      have hlt' : (j : Int) < l.length := by omega
      have hg : l[j]? = some l[j] := List.getElem?_eq_getElem hlt
      have hg' : l'[j]? = some l'[j] := List.getElem?_eq_getElem hlt2
      have w1 : IntKind.i64.wrap ((j : Int) + 1) = ((j + 1 : Nat) : Int) := by rw [wrap_i64 (by omega) (by omega)]; omega
      simp [e0, e1, e5, hlt, hlt']
      refine PW.drawn (fun i => 0) [0, 1, 2, 3, 4, 5, 6, 7, 8] mixed_ (fun _ _ _ _ h => h) (by kernel_rfl) ?_
      by_cases hq : l[j] = l'[j]
      · simp [e0, e1, e5, hlt, hlt2, hg, hg', hq, w1]
        refine ⟨n - 1, by omega, j + 1, by omega, ?_, by omega⟩
        rw [List.take_succ_eq_append_getElem hlt, List.take_succ_eq_append_getElem hlt2, ht, hq]
      · have hne : ¬ l = l' := fun h => hq (by subst h; rfl)
        simp [e0, e1, e5, hlt, hlt2, hg, hg', hq, hne]
    · have hjl : j = l.length := by omega
      have : l = l' := by
        rw [List.take_of_length_le (by omega), List.take_of_length_le (by omega)] at ht
        exact ht
      have hlt' : ¬ (j : Int) < l.length := by omega
      have hge : l.length ≤ j := by omega
      simp [e0, e1, e5, hlt, hlt', this]
      rw [← this]
      simp [hjl]
  · have hn' : ¬ ((l.length : Nat) : Int) = (l'.length : Nat) := by omega
    have hne : ¬ l = l' := fun h => hn (by rw [h])
    simp [hn, hn', hne]
theorem eqlists_c (l : List (List Int)) (hl : l.length ≤ 1000000000) (hx : ∀ x ∈ l, x.length ≤ 1000000000) (s : St) : PCalls Try.prog 28 [lists .any l, lists .any l] s (fun r s' => s' = s ∧ r = .ret (.lit (.bool true))) := by
  refine PCalls.of Try.func28 rfl (by rfl) (by simp [Try.ntmps28]) ?_
  refine pwC_sound _ _ _ _ ?_
  simp [Try.ntmps28]
  refine PW.loop (fun n e s' => ∃ j : Nat, j + n = l.length ∧ e 0 = lists .any l ∧ e 1 = lists .any l ∧ e 5 = .lit (.int .i64 j) ∧ s' = s) l.length ⟨0, by omega, by simp, by simp, by simp, rfl⟩ ?_
  rintro n e s' ⟨j, hj, e0, e1, e5, rfl⟩
  refine pwC_sound _ _ _ _ ?_
  by_cases hlt : j < l.length
  · have hlt' : (j : Int) < l.length := by omega
    have hg : l[j]? = some l[j] := List.getElem?_eq_getElem hlt
    have w1 : IntKind.i64.wrap ((j : Int) + 1) = ((j + 1 : Nat) : Int) := by rw [wrap_i64 (by omega) (by omega)]; omega
    have hxj := hx _ (List.getElem_mem hlt)
    simp [e0, e1, e5, hlt, hlt']
    refine PW.drawn (fun i => match i with | 8 => 4 | _ => 0) [0, 1, 2, 3, 4, 5, 6, 7, 8, 9] mixed_ (fun _ _ _ _ h => h) (by kernel_rfl) ?_
    simp [e0, e1, e5, hlt, hg]
    refine steady_of (fun s => eqints_c .any .any _ _ hxj hxj s) ?_
    simp [e0, e1, e5, hlt, hg, w1]
    exact ⟨n - 1, by omega, j + 1, by omega, by omega⟩
  · have hjl : j = l.length := by omega
    have hlt' : ¬ (j : Int) < l.length := by omega
    simp [e0, e1, e5, hlt, hlt']
end Go.Pv
