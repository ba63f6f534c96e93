/- The plain statement of TreeAlikes. -/
import Derived.Test.YteajbghklmkoeaaPc
import Derived.Test.YteajbghklmkoeaaTrf3
namespace Go.Proofs.Yteajbghklmkoeaa.Tr
open Go.RowKit Go.Proofs.YteajbghklmkoeaaW.PrintWords
set_option linter.unusedVariables false
theorem awake_ev : Ev (fun k => smockinglaw06_awake.f k) true := Ev.of (fun k => smockinglaw06_awake.mono k) (k := 20) (by kernel_rfl)
theorem awake_to : To (fun k => (smockinglaw06_awake.f k).bind fun t => some t) (· = true) := To.ev (Ev.bind awake_ev (Ev.now true))
theorem good_plain : ∀ (n : Nat) (x : S24), LightN n x → GoodN n (plainN n x)
  | 0, _, h => h.1.elim
  | n + 1, x, h => by
    have hb := bareN_light h
    unfold plainN
    generalize bareN (n + 1) x = b at hb
    refine ⟨hb.1.1, hb.1.2.1, hb.1.2.2.1, (by show (Lit.int .i64 0).wf = true; decide), (by show (Lit.int .i64 0).wf = true; decide), by simpa using hb.1.2.2.2.2.2.1, fun y hy => ?_⟩
    obtain ⟨z, hz, rfl⟩ := List.mem_map.1 hy
    exact good_plain n z (hb.kids z hz)
theorem TreeAlikes_pure (x : S24) (hx : Good x) (y : S24) (hy : Good y) : ∃ k, smockinglaw06_TreeAlikes.f k x.f0 x.f1 x.f2 x.f3 x.f4 x.f5 y.f0 y.f1 y.f2 y.f3 y.f4 y.f5 = some true := by
  refine Ev.rounds (g := fun k => smockinglaw06_TreeAlikes.f k x.f0 x.f1 x.f2 x.f3 x.f4 x.f5 y.f0 y.f1 y.f2 y.f3 y.f4 y.f5) (To.is ?_)
  unfold smockinglaw06_TreeAlikes.f
  have hj : ∀ q, (q = false → Light x ∧ Light y) → To (fun k => smockinglaw06_TreeAlikes.j0 k q x.f0 x.f1 x.f2 x.f3 x.f4 x.f5 y.f0 y.f1 y.f2 y.f3 y.f4 y.f5) (· = true) := by
    intro q hq
    refine To.step (f := fun k => if q = true then (smockinglaw06_awake.f k).bind fun t => some t else (tree_Alike.f k x.f0 x.f1 x.f2 x.f3 x.f4 x.f5 y.f0 y.f1 y.f2 y.f3 y.f4 y.f5).bind fun t106 => (smockingref06_Alike.f k x.f0 x.f1 x.f2 x.f3 x.f4 x.f5 y.f0 y.f1 y.f2 y.f3 y.f4 y.f5).bind fun t107 => if (t106 == t107) = true then (tree_Plain.f k x.f0 x.f1 x.f2 x.f3 x.f4 x.f5).bind fun p => (smockingref06_Plain.f k x.f0 x.f1 x.f2 x.f3 x.f4 x.f5).bind fun q => (smockingref00_EqNode.f k p.1 p.2.1 p.2.2.1 p.2.2.2.1 p.2.2.2.2.1 p.2.2.2.2.2 q.1 q.2.1 q.2.2.1 q.2.2.2.1 q.2.2.2.2.1 q.2.2.2.2.2 true).bind fun t124 => if t124 = true then (smockinglaw06_awake.f k).bind fun t => some t else none else none)
      (fun k => by simp only [smockinglaw06_TreeAlikes.j0]) (To.ite (fun _ => awake_to) (fun h => ?_))
    obtain ⟨⟨gx, sx⟩, ⟨gy, sy⟩⟩ := hq (by simpa using h)
    refine To.bind (alike_to 300 x y gx gy) (fun a ha => To.bind (ralike_to 300 x y gx gy) (fun b hb => ?_))
    have hab : a = b := by rw [Bool.eq_iff_iff, ha, hb]
    refine To.ite (fun _ => ?_) (fun h => absurd (by rw [hab]; simp) h)
    refine To.bind (To.ev (plain_ev 300 x ⟨gx, sx⟩)) (fun p hp => To.bind (To.ev (rplain_ev 300 x ⟨gx, sx⟩)) (fun q hq => ?_))
    subst hp hq
    have hg := good_plain 300 x ⟨gx, sx⟩
    refine To.bind ((eq_to 300).1 _ _ hg hg) (fun t ht => To.ite (fun _ => awake_to) (fun h => absurd (ht.2 rfl) h))
  refine To.bind (heavy_to [] [] hx) (fun a ha => To.ite (fun _ => hj true (fun h => by cases h)) (fun h1 => To.bind (heavy_to [] [] hy) (fun b hb => hj b (fun h2 => ⟨(ha (by simpa using h1)).1, (hb h2).1⟩))))
end Go.Proofs.Yteajbghklmkoeaa.Tr
