/- The reference's EqNode and EqNodes: a tree equals itself. -/
import Derived.Test.YteajbghklmkoeaaTy
import Derived.Test.YteajbghklmkoeaaNd
namespace Go.Pv
open Go.Proofs
set_option linter.unusedVariables false
set_option linter.unusedSimpArgs false
set_option maxRecDepth 100000
set_option maxHeartbeats 1000000
theorem eqnodes_of (l : List Nd) (hl : l.length ≤ 1000000) (b : Bool) (h : ∀ y ∈ l, ∀ s : St, PCalls Try.prog 15 [encU y, encU y, .lit (.bool b)] s (fun r s' => s' = s ∧ r = .ret (.lit (.bool true)))) (s : St) :
    PCalls Try.prog 47 [.vec .any (l.map enc), .vec .any (l.map enc), .lit (.bool b)] s (fun r s' => s' = s ∧ r = .ret (.lit (.bool true))) := by
  refine PCalls.of Try.func47 rfl (by rfl) (by simp [Try.ntmps47]) ?_
  refine pwC_sound _ _ _ _ ?_
  simp [Try.ntmps47]
  refine PW.loop (fun n e s' => ∃ j : Nat, j + n = l.length ∧ e 0 = .vec .any (l.map enc) ∧ e 1 = .vec .any (l.map enc) ∧ e 2 = .lit (.bool b) ∧ e 7 = .lit (.int .i64 j) ∧ s = s') l.length ⟨0, by simp, by simp, by simp, by simp, by simp, rfl⟩ ?_
  rintro n e s' ⟨j, hj, e0, e1, e2, e7, rfl⟩
  refine pwC_sound _ _ _ _ ?_
  by_cases hlt : j < l.length
  · have hg : l[j]? = some l[j] := List.getElem?_eq_getElem hlt
    simp [e0, e1, e2, e7, hlt, hg]
    refine PW.drawn (fun i => if i = 9 then 1 else 0) [0, 1, 2, 3, 4, 5, 6, 7, 8, 9, 10] mixed_ (fun _ _ _ _ h => h) (by kernel_rfl) ?_
    simp [e0, e1, e2, e7, hlt, hg]
    refine quiet_of (h l[j] (List.getElem_mem hlt) s) ?_
    simp [e0, e1, e2, e7, hlt, hg]
    rw [wrap_i64 (by omega) (by omega)]
    exact ⟨n - 1, by omega, j + 1, by omega, rfl⟩
  · have hjl : j = l.length := by omega
    subst hjl
    simp [e0, e1, e2, e7]
theorem eqnode_c (x : Nd) (hx : x.size ≤ 1000000) (b : Bool) (s : St) : PCalls Try.prog 15 [encU x, encU x, .lit (.bool b)] s (fun r s' => s' = s ∧ r = .ret (.lit (.bool true))) := by
  have hll := x.len_lt
  have hN := eqnodes_of x.l (by omega) b (fun y hy s => eqnode_c y (by have := Nd.mem_lt hy; omega) b s)
  cases b
  all_goals
    refine PCalls.of Try.func15 rfl (by rfl) (by simp [Try.ntmps15]) ?_
    refine pwC_sound _ _ _ _ ?_
    simp +contextual (maxSteps := 1000000) [Try.ntmps15]
    intro i3 h3 i4 h43 h34 h4
    refine (hN _).mono ?_
    rintro _ _ ⟨rfl, rfl⟩
    simp [h3, h4, h43, h34]
termination_by x.size
decreasing_by exact Nd.mem_lt hy
end Go.Pv
