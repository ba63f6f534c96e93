/- A walk through a tree: the function that is ranged over. -/
import Derived.Test.YteajbghklmkoeaaW2
namespace Go.Pv
open Go.Proofs
set_option linter.unusedVariables false
set_option linter.unusedSimpArgs false
set_option maxRecDepth 100000
set_option maxHeartbeats 1000000
theorem walk1_c {i b1 M : Nat} {B0 : St} {I : List (List Int × Nd) → St → Prop} (hR : Rounds Try.prog i B0 I M) (x : Nd) (hsz : x.size ≤ 1000000) (base own : St) (hM : x.size ≤ M)
    (hI : I [] own) (hd : Disj base own) (hB : B0.sub base) (hb1 : base b1 = some (.row 24 6 [encC x])) :
    PCalls Try.prog 74 [.yld i, .pt b1 0 0] (join base own) (fun r s' => r = .ret (.tup []) ∧ ∃ own', I (walkN x []) own' ∧ Disj base own' ∧ s' = join base own') := by
  refine PCalls.of Try.func74 rfl (by rfl) (by simp [Try.ntmps74]) ?_
  refine pwC_sound _ _ _ _ ?_
  have j1 := join_base (o := own) hb1
  simp +contextual [Try.ntmps74, j1]
  intro i2 h2 i3 h32 h23 h3
  obtain ⟨h2b, h2o⟩ := join_none h2
  obtain ⟨h3b, h3o⟩ := join_none h3
  have hn1 : b1 ≠ i2 := fun e => by subst e; rw [show base b1 = none from h2b] at hb1; cases hb1
  have hn2 : b1 ≠ i3 := fun e => by subst e; rw [show base b1 = none from h3b] at hb1; cases hb1
  simp [j1, hn1, hn2, h32, h23]
  rw [join_upd _ h2o, join_upd _ h3o]
  have hs : base.sub ((base.upd i2 (some (.row 92 1 [[.yld i]]))).upd i3 (some (.row 92 1 [[.fn 75 [] [.pt i2 0 0, .pt i3 0 0]]]))) := (sub_refl.upd_of h2b).upd_of h3b
  have hdd := (hd.upd (x := some (.row 92 1 [[.yld i]])) h2o).upd (x := some (.row 92 1 [[.fn 75 [] [.pt i2 0 0, .pt i3 0 0]]])) h3o
  refine (down_c hR x .nil [] (by simp) (by simpa using hsz) [] _ own (by simpa using hM) hI hdd (hB.trans hs) (b2 := i2) (b3 := i3) (by simp [h23, h32]) (by simp [h23, h32])).mono ?_
  rintro _ _ ⟨rfl, own', hI', hd', rfl⟩
  simp
  exact ⟨_, join_mono hs hd', own', by simpa using hI', hd'.sub hs, rfl⟩
theorem walk_c (x : Nd) (s : St) : PCalls Try.prog 57 [encU x] s (fun r s' => ∃ b, Fresh s b ∧ r = .ret (.fn 74 [] [.pt b 0 0]) ∧ s' = s.upd b (some (.row 24 6 [encC x]))) := by
  refine PCalls.of Try.func57 rfl (by rfl) (by simp [Try.ntmps57]) ?_
  refine pwC_sound _ _ _ _ ?_
  simp +contextual [Try.ntmps57]
  intro b hb
  exact ⟨_, sub_refl, b, hb, rfl, rfl⟩
end Go.Pv
