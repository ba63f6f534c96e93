/- tree.bare, and tree.Alike at trees whose bare forms have no parts. -/
import Derived.Test.YteajbghklmkoeaaTy
import Derived.Test.YteajbghklmkoeaaNd
namespace Go.Pv
open Go.Proofs
set_option linter.unusedVariables false
set_option linter.unusedSimpArgs false
set_option maxRecDepth 100000
set_option maxHeartbeats 1000000
/-- A node without the parentheses around it, m levels deep at most. -/
def bareN : Nat → Nd → Nd
  | 0, x => x
  | m + 1, x => if x.op = 54 then (match x.l with | [y] => bareN m y | _ => x) else x
theorem bareN_size (m : Nat) (x : Nd) : (bareN m x).size ≤ x.size := by
  induction m generalizing x with
  | zero => exact Nat.le_refl _
  | succ m ih =>
    unfold bareN
    split
    · split
      · rename_i y hy
        exact Nat.le_trans (ih y) (Nat.le_of_lt (Nd.mem_lt (by rw [hy]; simp)))
      · exact Nat.le_refl _
    · exact Nat.le_refl _
theorem bare_c (x : Nd) (hx : x.size ≤ 1000000) (s : St) : PCalls Try.prog 44 [encU x] s (fun r s' => s' = s ∧ r = .ret (encU (bareN x.size x))) := by
  refine PCalls.of Try.func44 rfl (by rfl) (by simp [Try.ntmps44]) ?_
  refine pwC_sound _ _ _ _ ?_
  simp [Try.ntmps44]
  intro i1 h1 i2 h21 h12 h2
  refine PW.loop (fun n e s' => ∃ (c : Nd) (m : Nat), c.size ≤ m ∧ c.size ≤ 1000000 ∧ m = n ∧ bareN m c = bareN x.size x ∧ e 1 = .pt i1 0 0 ∧ e 2 = .pt i2 0 0 ∧ s.sub s' ∧ s' i1 = some (.row 24 6 [encC c]) ∧ s' i2 = some (.row 24 6 [[.lit (.int .i64 0), .lit (.string ⟨#[]⟩), .lit (.int .i64 0), .lit (.int .i64 0), .lit (.int .i64 0), .vec .nil []]])) x.size
    ⟨x, x.size, by omega, hx, rfl, rfl, by simp, by simp, by simp [h1, h2], by simp [h12], by simp⟩ ?_
  rintro n e s' ⟨c, m, hm, hc, rfl, hb, e1, e2, hsub, b1, b2⟩
  refine pwC_sound _ _ _ _ ?_
  have hcl := c.len_lt
  have hpos := c.size_pos
  obtain ⟨m', rfl⟩ : ∃ m', m = m' + 1 := ⟨m - 1, by omega⟩
  by_cases hop : c.op = 54
  · by_cases hl : c.l.length = 1
    · obtain ⟨y, hy⟩ := List.length_eq_one_iff.1 hl
      have hms := Nd.mem_lt (x := c) (y := y) (by rw [hy]; simp)
      have : bareN (m' + 1) c = bareN m' y := by simp [bareN, hop, hy]
      simp [e1, e2, b1, b2, hop, hl, hy]
      exact ⟨m', by omega, y, m', by omega, by omega, rfl, by rw [← this, hb], hsub.set h1, by simp [h21]⟩
    · have hl' : ¬ (c.l.length : Int) = 1 := by omega
      have : bareN (m' + 1) c = c := by
        unfold bareN
        rw [if_pos hop]
        split
        · rename_i y hy; rw [hy] at hl; exact absurd rfl hl
        · rfl
      rw [this] at hb
      simp [e1, e2, b1, b2, hop, hl, hl', h12, h21]
      rw [← hb]
      exact ⟨_, hsub.set h2, rfl, by simp [hop]⟩
  · have : bareN (m' + 1) c = c := by unfold bareN; rw [if_neg hop]
    rw [this] at hb
    simp [e1, e2, b1, b2, hop, h12, h21]
    rw [← hb]
    exact ⟨_, hsub.set h2, rfl, by simp⟩
theorem eqf_nil_c (k k2 : VK) (s : St) : PCalls Try.prog 45 [.vec k [], .vec k2 [], .fn 13 [] []] s (fun r s' => s' = s ∧ r = .ret (.lit (.bool true))) := by
  refine PCalls.of Try.func45 rfl (by rfl) (by simp [Try.ntmps45]) ?_
  refine pwC_sound _ _ _ _ ?_
  simp [Try.ntmps45]
  refine PW.loop (fun n e s' => e 16 = .lit (.int .i64 0) ∧ e 17 = .lit (.int .i64 0) ∧ s' = s) 0 (by simp) ?_
  rintro n e s' ⟨h1, h2, rfl⟩
  refine pwC_sound _ _ _ _ ?_
  simp [h1, h2]
theorem alike_leaf_c (x y : Nd) (hx : x.size ≤ 1000000) (hy : y.size ≤ 1000000) (hxl : (bareN x.size x).l = []) (hyl : (bareN y.size y).l = []) (s : St) :
    PCalls Try.prog 13 [encU x, encU y] s (fun r s' => s' = s ∧ ∃ b, r = .ret (.lit (.bool b)) ∧ (b = true ↔ (bareN x.size x).op = (bareN y.size y).op ∧ (bareN x.size x).n = (bareN y.size y).n ∧ (bareN x.size x).s = (bareN y.size y).s)) := by
  refine PCalls.of Try.func13 rfl (by rfl) (by simp [Try.ntmps13]) ?_
  refine pwC_sound _ _ _ _ ?_
  simp [Try.ntmps13]
  intro i2 h2 i3 h32 h23 h3
  refine PW.drawn (fun i => if i = 1 ∨ i = 3 then 1 else 0) [0, 1, 2, 3, 4, 5] mixed_ (fun _ _ _ _ h => h) (by kernel_rfl) ?_
  simp [h32, h23]
  refine quiet_of (bare_c x hx _) ?_
  simp [h32, h23]
  refine quiet_of (bare_c y hy _) ?_
  simp [h32, h23]
  generalize hσ : St.upd (St.upd (St.upd (St.upd s i2 _) i3 _) i2 _) i3 _ = σ
  have b2 : σ i2 = some (.row 24 6 [encC (bareN x.size x)]) := by rw [← hσ]; simp [h32, h23]
  have b3 : σ i3 = some (.row 24 6 [encC (bareN y.size y)]) := by rw [← hσ]; simp [h32, h23]
  have hs : s.sub σ := by rw [← hσ]; simp [h32, h23, h2, h3]
  clear hσ
  refine PW.drawnA σ (fun i => 3) [0, 1, 2, 3, 4, 5, 6, 7, 8, 9, 10, 11, 12, 13, 14, 15, 16, 17, 18, 19, 20, 21, 22, 23] mixed_ (fun _ _ _ _ h => h) (by kernel_rfl) sub_refl ?_
  simp [b2, b3, h32, h23, hxl, hyl]
  intro i5 h5 i6 h56 h65 h6
  simp [b2, b3, h32, h23, hxl, hyl, h56, h65, h5, h6, fresh_ne h5 b2, fresh_ne h5 b3, fresh_ne h6 b2, fresh_ne h6 b3, Ne.symm (fresh_ne h5 b2), Ne.symm (fresh_ne h5 b3), Ne.symm (fresh_ne h6 b2), Ne.symm (fresh_ne h6 b3)]
  have f5 := hs.fresh h5
  have f6 := hs.fresh h6
  by_cases hc : (bareN x.size x).op = (bareN y.size y).op ∧ (bareN x.size x).n = (bareN y.size y).n ∧ (bareN x.size x).s = (bareN y.size y).s
  · obtain ⟨c1, c2, c3⟩ := hc
    simp [c1, c2, c3]
    refine (eqf_nil_c _ _ _).mono ?_
    rintro _ _ ⟨rfl, rfl⟩
    simp [c1, c2, c3, h56, h65, h5, h6]
    exact (((hs.set f5).set f6).set f5).set f6
  · simp [hc]
    exact ⟨fun a b c => hc ⟨a, b, c⟩, s, (((hs.set f5).set f6).set f5).set f6, rfl, fun a b c => hc ⟨a, b, c⟩⟩
end Go.Pv
