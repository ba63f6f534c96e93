/- The plain statement of TreeChecks. -/
import Derived.Test.YteajbghklmkoeaaPa
import Derived.Test.YteajbghklmkoeaaTrf6
namespace Go.Proofs.Yteajbghklmkoeaa.Tr
open Go.RowKit Go.Proofs.YteajbghklmkoeaaW.PrintWords
set_option linter.unusedVariables false
theorem awake_ev : Ev (fun k => smockinglaw06_awake.f k) true := Ev.of (fun k => smockinglaw06_awake.mono k) (k := 20) (by kernel_rfl)
theorem awake_ev' : Ev (fun k => (smockinglaw06_awake.f k).bind fun t => some t) true := Ev.bind awake_ev (Ev.now true)
theorem Ev.ite' {α : Type} {c : Prop} [Decidable c] {g f : Nat → Option α} {r : α} (h : c → Ev g r) (k : ¬ c → Ev f r) : Ev (fun n => if c then g n else f n) r := by
  by_cases hc : c
  · simp only [if_pos hc]; exact h hc
  · simp only [if_neg hc]; exact k hc
theorem TreeChecks_pure (ts : List S78) (_ : ts.length ≤ maxLen) (_ : ∀ y ∈ ts, GoodT y) (x : S24) (hx : Good x) : ∃ k, smockinglaw06_TreeChecks.f k ts x.f0 x.f1 x.f2 x.f3 x.f4 x.f5 = some true := by
  obtain ⟨b, hb⟩ := heavy_ends ts [] hx
  obtain ⟨c, hc⟩ := check_ends ts hx
  have hc' : Ev (fun k => smockingref06_Check.f k ts x.f0 x.f1 x.f2 x.f3 x.f4 x.f5) c := Ev.congr (fun k => (check_same k ts _ _ _ _ _ _).symm) hc
  refine Ev.rounds (g := fun k => smockinglaw06_TreeChecks.f k ts x.f0 x.f1 x.f2 x.f3 x.f4 x.f5) ?_
  unfold smockinglaw06_TreeChecks.f
  refine Ev.bind hb (Ev.ite' (fun _ => awake_ev') (fun _ => Ev.bind hc (Ev.bind hc' ?_)))
  simp only [if_true]
  exact awake_ev'
end Go.Proofs.Yteajbghklmkoeaa.Tr
