/- The reference's Paths, At. -/
import Derived.Test.YteajbghklmkoeaaW5
import Derived.Test.YteajbghklmkoeaaF23
namespace Go.Pv
open Go.Proofs
set_option linter.unusedVariables false
set_option linter.unusedSimpArgs false
set_option maxRecDepth 100000
set_option maxHeartbeats 1000000
theorem rpaths_c (x : Nd) (op : Int) (hsz : x.size ≤ 1000000) (s : St) : PCalls Try.prog 30 [encU x, .lit (.int .i64 op)] s (fun r s' => s' = s ∧ r = .ret (lists .any (opPaths op (walkN x [])))) := by
  refine PCalls.conv (R := fun r s' => ∃ v, r = .ret v ∧ OwnL 31 1 s (rowL (opPaths op (walkN x []))) v s') ?_ ?_ ?_
  · refine PCalls.of Try.func30 rfl (by rfl) (by simp [Try.ntmps30]) ?_
    refine pwC_sound _ _ _ _ ?_
    simp +contextual [Try.ntmps30]
    intro i2 h2
    refine (gath_c x op .nil [] [] _ _ (.vec .nil []) (OwnL.nil _ _ _) (by simpa using hsz) (by simp; omega)).mono ?_
    rintro _ s' ⟨v, rfl, hO⟩
    simp
    obtain ⟨s2, q1, q2⟩ := hO.shrink (sub_refl.upd_of h2)
    exact ⟨s2, q1, by simpa using q2⟩
  · rintro p s' ⟨v, hv, hO⟩
    cases hv
    exact ⟨_, _, Conv.own hO (by simp) [], rfl, rfl⟩
  · rintro c s' ⟨v, hv, _⟩
    cases hv
theorem rat_c (x : Nd) (hx : x.size ≤ 1000000) (k : VK) (path : List Int) (hp : path.length ≤ 1000000) (s : St) : PCalls Try.prog 26 [encU x, ints k path] s fun r s' => s' = s ∧
    ((∃ y, atN x path = some y ∧ r = .ret (.tup [encU y, .lit (.int .i64 0)])) ∨ (atN x path = none ∧ r = .ret (.tup [zeroN, .lit (.int .i64 4)]))) := by
  refine PCalls.of Try.func26 rfl (by rfl) (by simp [Try.ntmps26]) ?_
  refine PW.cutR fun R hR hC => ?_
  simp +contextual [Try.ntmps26]
  intro i2 h2 i4 h42 h24 h4
  refine hR _ _ ?_
  clear hR hC R
  refine PW.cutR fun R hR hC => ?_
  simp
  refine PW.loop (fun n e s' => ∃ (j : Nat) (c : Nd), j + n = path.length ∧ c.size ≤ 1000000 ∧ atN c (path.drop j) = atN x path ∧ e 1 = ints k path ∧ e 2 = .pt i2 0 0 ∧ e 4 = .pt i4 0 0 ∧ e 6 = .lit (.int .i64 j) ∧
    s.sub s' ∧ s' i2 = some (.row 24 6 [encC c]) ∧ s' i4 = some (.row 24 6 [[.lit (.int .i64 0), .lit (.string ⟨#[]⟩), .lit (.int .i64 0), .lit (.int .i64 0), .lit (.int .i64 0), .vec .nil []]])) path.length
    ⟨0, x, by simp, hx, by simp, by simp, by simp, by simp, by simp, by simp [h2, h4], by simp [h24], by simp⟩ ?_
  rintro n e s' ⟨j, c, hj, hc, hat, e1, e2, e4, e6, hsub, b2, b4⟩
  refine pwC_sound _ _ _ _ ?_
  by_cases hlt : j < path.length
  · have hget : path[j]? = some path[j] := List.getElem?_eq_getElem hlt
    have w1 : IntKind.i64.wrap ((j : Int) + 1) = ((j + 1 : Nat) : Int) := by rw [wrap_i64 (by omega) (by omega)]; omega
    rw [List.drop_eq_getElem_cons hlt, atN] at hat
    simp [e1, e6, hlt]
    refine PW.drawn (fun i => 0) [0, 1, 2, 3, 4, 5, 6, 7, 8, 9, 10, 11, 12, 13, 14] mixed_ (fun _ _ _ _ h => h) (by kernel_rfl) ?_
    by_cases h0 : path[j] < 0
    · rw [if_neg (by omega)] at hat
      simp [e1, e2, e4, e6, b2, b4, hlt, hget, h0]
      exact ⟨_, hsub.set h4, rfl, hat.symm, rfl⟩
    · rw [if_pos (by omega)] at hat
      obtain ⟨m, hm⟩ := Int.eq_ofNat_of_zero_le (show 0 ≤ path[j] by omega)
      have hcl := c.len_lt
      by_cases hin : m < c.l.length
      · have hg : c.l[m]? = some c.l[m] := List.getElem?_eq_getElem hin
        have hge : ¬ c.l.length ≤ m := by omega
        have hms := Nd.mem_lt (List.getElem_mem hin)
        rw [hm, Int.toNat_natCast, hg] at hat
        simp [e1, e2, e4, e6, b2, b4, hlt, hget, hm, hin, hg, hge]
        refine PW.drawn (fun i => 0) [0, 1, 2, 3, 4, 5, 6, 7, 8] mixed_ (fun _ _ _ _ h => h) (by kernel_rfl) ?_
        simp [e1, e2, e4, e6, b2, b4, hlt, hget, hm, hin, hg, hge, w1, h42, h24]
        refine ⟨n - 1, by omega, j + 1, by omega, c.l[m], by omega, hat, by omega, hsub.set h2, rfl, rfl, rfl, rfl, rfl, rfl⟩
      · have hg : c.l[m]? = none := List.getElem?_eq_none (by omega)
        rw [hm, Int.toNat_natCast, hg] at hat
        have hge : c.l.length ≤ m := by omega
        simp [e1, e2, e4, e6, b2, b4, hlt, hget, hm, hin, hg, hge]
        exact ⟨_, hsub.set h4, rfl, hat.symm, rfl⟩
  · have hjl : j = path.length := by omega
    subst hjl
    rw [List.drop_length, atN] at hat
    simp [e1, e2, e4, e6, b2, b4]
    refine hR _ _ ?_
    refine pwC_sound _ _ _ _ ?_
    simp [e1, e2, e4, e6, b2, b4]
    exact ⟨_, hsub.set h4, rfl, c, hat.symm, rfl, rfl, rfl, rfl, rfl, rfl⟩
end Go.Pv
