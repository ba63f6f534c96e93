import Derived.Test.YteajbghklmkoeaaNd
import Derived.Test.YteajbghklmkoeaaTy
/-! tree.Size. -/
namespace Go.Pv
open Go.Proofs
set_option linter.unusedVariables false
set_option linter.unusedSimpArgs false
set_option maxRecDepth 100000
set_option maxHeartbeats 1000000
theorem size_c (x : Nd) (hx : x.size ≤ 1000000) (s : St) : PCalls Try.prog 25 [encU x] s (fun r s' => s' = s ∧ r = .ret (.lit (.int .i64 x.size))) := by
  refine PCalls.of Try.func25 rfl (by rfl) (by simp [Try.ntmps25]) ?_
  refine pwC_sound _ _ _ _ ?_
  simp [Try.ntmps25]
  intro i hi
  refine PW.loop (fun n e s' => ∃ k : Nat, k + n = x.l.length ∧ e 3 = .lit (.int .i64 ((1 + ((x.l.map Nd.size).take k).sum : Nat) : Int)) ∧ e 7 = .vec .any (x.l.map enc) ∧ e 8 = .lit (.int .i64 x.l.length) ∧ e 9 = .lit (.int .i64 k) ∧ ∃ t, s' = t ∧ s.sub t) x.l.length ⟨0, by simp, by simp, by simp, by simp, by simp, _, rfl, by simp [hi]⟩ ?_
  rintro n e s' ⟨k, hk, h3, h7, h8, h9, t, rfl, hsub⟩
  refine pwC_sound _ _ _ _ ?_
  have hsz := x.size_eq
  by_cases hlt : k < x.l.length
  · have hget : x.l[k]? = some x.l[k] := List.getElem?_eq_getElem hlt
    have hs := sum_take_succ (l := x.l.map Nd.size) (k := k) (by simpa using hlt)
    have hle := sum_take_le (x.l.map Nd.size) (k + 1)
    rw [List.getElem_map] at hs
    simp [h3, h7, h8, h9, hlt, hget]
    intro j hj
    have hmm := Nd.mem_lt (List.getElem_mem hlt)
    refine (size_c x.l[k] (by omega) _).mono ?_
    rintro _ _ ⟨rfl, rfl⟩
    have hn := x.len_lt
    simp [h3, h7, h8, h9]
    rw [wrap_i64 (by omega) (by omega), wrap_i64 (by omega) (by omega)]
    exact ⟨n - 1, by omega, k + 1, by omega, by rw [hs]; push_cast; omega, rfl, hsub.upd hj⟩
  · have hkl : k = x.l.length := by omega
    subst hkl
    simp [h3, h7, h8, h9, hlt]
    refine ⟨_, hsub, rfl, ?_⟩
    rw [hsz, List.take_of_length_le (by simp)]; push_cast; rfl
termination_by x.size
decreasing_by exact Nd.mem_lt (List.getElem_mem _)
end Go.Pv
