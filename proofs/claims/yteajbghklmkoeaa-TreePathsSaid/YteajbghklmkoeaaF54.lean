/- tree.find goes down a path. -/
import Derived.Test.YteajbghklmkoeaaTy
import Derived.Test.YteajbghklmkoeaaNd
namespace Go.Pv
open Go.Proofs
set_option linter.unusedVariables false
set_option linter.unusedSimpArgs false
set_option maxRecDepth 100000
set_option maxHeartbeats 1000000
theorem find_c (x : Nd) (hx : x.size ≤ 1000000) (k : VK) (path : List Int) (hp : path.length ≤ 1000000) (s : St) : PCalls Try.prog 54 [encU x, ints k path] s fun r s' => s' = s ∧
    ((∃ y, atN x path = some y ∧ r = .ret (.tup [encU y, .lit (.bool true)])) ∨ (atN x path = none ∧ r = .ret (.tup [zeroN, .lit (.bool false)]))) := by
  refine PCalls.of Try.func54 rfl (by rfl) (by simp [Try.ntmps54]) ?_
  refine pwC_sound _ _ _ _ ?_
  simp [Try.ntmps54]
  intro i2 h2 i4 h42 h24 h4
  refine PW.loop (fun n e s' => ∃ (j : Nat) (c : Nd), j + n = path.length ∧ c.size ≤ 1000000 ∧ atN c (path.drop j) = atN x path ∧ e 2 = .pt i2 0 0 ∧ e 4 = .pt i4 0 0 ∧ e 8 = ints k path ∧ e 9 = .lit (.int .i64 path.length) ∧ e 10 = .lit (.int .i64 j) ∧
    s.sub s' ∧ s' i2 = some (.row 24 6 [encC c]) ∧ s' i4 = some (.row 24 6 [[.lit (.int .i64 0), .lit (.string ⟨#[]⟩), .lit (.int .i64 0), .lit (.int .i64 0), .lit (.int .i64 0), .vec .nil []]])) path.length
    ⟨0, x, by simp, hx, by simp, by simp, by simp, by simp, by simp, by simp, by simp [h2, h4], by simp [h24], by simp⟩ ?_
  rintro n e s' ⟨j, c, hj, hc, hat, e2, e4, e8, e9, e10, hsub, b2, b4⟩
  refine pwC_sound _ _ _ _ ?_
  by_cases hlt : j < path.length
  · have hget : path[j]? = some path[j] := List.getElem?_eq_getElem hlt
    rw [List.drop_eq_getElem_cons hlt, atN] at hat
    by_cases h0 : path[j] < 0
    · rw [if_neg (by omega)] at hat
      simp [e2, e4, e8, e9, e10, b2, b4, hlt, hget, h0]
      exact ⟨_, hsub.set h4, rfl, hat.symm, rfl⟩
    · rw [if_pos (by omega)] at hat
      obtain ⟨m, hm⟩ := Int.eq_ofNat_of_zero_le (show 0 ≤ path[j] by omega)
      have hcl := c.len_lt
      have h0' : (0 : Int) ≤ path[j] := by omega
      by_cases hin : m < c.l.length
      · have hg : c.l[m]? = some c.l[m] := List.getElem?_eq_getElem hin
        have hge : ¬ c.l.length ≤ m := by omega
        have hms := Nd.mem_lt (List.getElem_mem hin)
        rw [hm, Int.toNat_natCast, hg] at hat
        simp [e2, e4, e8, e9, e10, b2, b4, hlt, hget, hm, hin, hg, hge, h42, h24]
        rw [wrap_i64 (by omega) (by omega)]
        refine ⟨n - 1, by omega, j + 1, by omega, c.l[m], by omega, hat, rfl, hsub.set h2, rfl, rfl, rfl, rfl, rfl, rfl⟩
      · have hg : c.l[m]? = none := List.getElem?_eq_none (by omega)
        rw [hm, Int.toNat_natCast, hg] at hat
        have hge : c.l.length ≤ m := by omega
        simp [e2, e4, e8, e9, e10, b2, b4, hlt, hget, hm, hin, hg, hge]
        exact ⟨_, hsub.set h4, rfl, hat.symm, rfl⟩
  · have hjl : j = path.length := by omega
    subst hjl
    rw [List.drop_length, atN] at hat
    simp [e2, e4, e8, e9, e10, b2, b4]
    exact ⟨_, hsub.set h4, rfl, c, hat.symm, rfl, rfl, rfl, rfl, rfl, rfl⟩
end Go.Pv
