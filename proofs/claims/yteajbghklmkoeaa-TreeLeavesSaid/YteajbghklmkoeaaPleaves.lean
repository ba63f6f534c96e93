/- The plain statement of TreeLeaves. -/
import Derived.Test.YteajbghklmkoeaaPb
import Derived.Test.YteajbghklmkoeaaTrf5
namespace Go.Proofs.Yteajbghklmkoeaa.Tr
open Go.RowKit Go.Proofs.YteajbghklmkoeaaW.PrintWords
set_option linter.unusedVariables false
set_option linter.unusedSimpArgs false
theorem awake_ev : Ev (fun k => smockinglaw06_awake.f k) true := Ev.of (fun k => smockinglaw06_awake.mono k) (k := 20) (by kernel_rfl)
theorem awake_to : To (fun k => (smockinglaw06_awake.f k).bind fun t => some t) (· = true) := To.ev (Ev.bind awake_ev (Ev.now true))
def leafS : Nat → List S24 → Int → List Int
  | 0, _, _ => []
  | n + 1, l, tok => if idxOf tok l < 0 then [] else idxOf tok l :: leafS n (rd_T24 l (idxOf tok l)).f5 tok
theorem leafS_len : ∀ n l tok, (leafS n l tok).length ≤ n
  | 0, _, _ => Nat.le_refl _
  | n + 1, l, tok => by
    unfold leafS
    split
    · simp
    · have := leafS_len n (rd_T24 l (idxOf tok l)).f5 tok
      simp; omega
theorem idx_mem {tok : Int} {l : List S24} (h : ¬ idxOf tok l < 0) : ∃ i : Nat, idxOf tok l = (i : Int) ∧ i < l.length := by
  refine ⟨(idxOf tok l).toNat, by omega, ?_⟩
  rcases idxOf_lt tok l with h1 | ⟨_, h1⟩ <;> omega
theorem g_ev : ∀ (n : Nat), n ≤ 300 → ∀ (l : List S24) (tok : Int) (acc : List Int), (∀ y ∈ l, GoodN n y) → acc.length + n ≤ 400 → Ev (fun k => tree_Leaf.g k l tok acc) (acc ++ leafS (n + 1) l tok)
  | n, hn, l, tok, acc, hl, ha => by
    by_cases h0 : idxOf tok l < 0
    · have e : leafS (n + 1) l tok = [] := by simp only [leafS, if_pos h0]
      rw [e, List.append_nil]
      exact Ev.step (f := fun _ => some acc) (fun k => by simp only [tree_Leaf.g, if_pos h0]) (Ev.now _)
    · have e : leafS (n + 1) l tok = idxOf tok l :: leafS n (rd_T24 l (idxOf tok l)).f5 tok := by simp only [leafS, if_neg h0]
      obtain ⟨i, hi, hil⟩ := idx_mem h0
      have hg := good_rd hl hil
      rw [← hi] at hg
      cases n with
      | zero => exact hg.elim
      | succ n =>
        have ih := g_ev n (by omega) (rd_T24 l (idxOf tok l)).f5 tok (acc ++ [idxOf tok l]) hg.2.2.2.2.2.2 (by simp; omega)
        rw [e, show acc ++ (idxOf tok l :: leafS (n + 1) (rd_T24 l (idxOf tok l)).f5 tok) = (acc ++ [idxOf tok l]) ++ leafS (n + 1) (rd_T24 l (idxOf tok l)).f5 tok by simp]
        exact Ev.step (fun k => by simp only [tree_Leaf.g, if_neg h0, if_pos (show acc.length < 17592186044416 by omega)]) ih
theorem hits_iff {tok : Int} {x : S24} : hits tok x = true ↔ tok ≥ x.f3 ∧ tok < x.f4 := by simp [hits]
theorem ref_ev : ∀ (n : Nat), n ≤ 300 → ∀ (x : S24) (tok : Int), GoodN n x → Ev (fun k => smockingref06_Leaf.f k x.f0 x.f1 x.f2 x.f3 x.f4 x.f5 tok) (if tok < x.f3 ∨ tok ≥ x.f4 then ([], 4) else (leafS n x.f5 tok, 0))
  | 0, _, x, tok, h => h.elim
  | n + 1, hn, x, tok, h => by
    have hm := h.2.2.2.2.2.1
    have hl := h.2.2.2.2.2.2
    have hyes : Ev (fun k => smockingref06_Leaf.j0 k tok true x.f0 x.f1 x.f2 x.f3 x.f4 x.f5) ([], 4) := Ev.step (f := fun _ => some ([], 4)) (fun k => by simp only [smockingref06_Leaf.j0, if_true]) (Ev.now _)
    by_cases h1 : tok < x.f3
    · rw [if_pos (.inl h1)]
      exact Ev.step (fun k => by simp only [smockingref06_Leaf.f, if_pos h1]) hyes
    · by_cases h2 : tok ≥ x.f4
      · rw [if_pos (.inr h2)]
        exact Ev.step (fun k => by simp only [smockingref06_Leaf.f, if_neg h1, decide_eq_true h2]) hyes
      · rw [if_neg (by omega)]
        refine Ev.step (f := fun k => smockingref06_Leaf.j0 k tok false x.f0 x.f1 x.f2 x.f3 x.f4 x.f5) (fun k => by simp only [smockingref06_Leaf.f, if_neg h1, decide_eq_false h2]) ?_
        refine Ev.step (f := fun k => smockingref06_Leaf.l0 k tok 0 x.f0 x.f1 x.f2 x.f3 x.f4 x.f5) (fun k => by simp only [smockingref06_Leaf.j0, Bool.false_eq_true, if_false]) ?_
        have key := to_loop (g := fun k (_ : Unit) i => smockingref06_Leaf.l0 k tok i x.f0 x.f1 x.f2 x.f3 x.f4 x.f5) x.f5.length (fun i _ => idxOf tok x.f5 = idxFrom tok x.f5 (x.f5.length - i) i) (fun i _ r => r = (leafS (n + 1) x.f5 tok, 0))
          (fun _ hj => by
            have h0 : idxOf tok x.f5 = -1 := by rw [hj]; simp [idxFrom]
            refine To.step (f := fun _ => some ([], 0)) (fun k => by simp only [smockingref06_Leaf.l0, if_neg (Int.lt_irrefl _)]) (To.now _ ?_)
            simp only [leafS, h0]
            rfl)
          (fun _ i hi hj hk => by
            have hg := good_rd hl hi
            rw [show x.f5.length - i = (x.f5.length - (i + 1)) + 1 by omega] at hj
            by_cases hh : hits tok (rd_T24 x.f5 (i : Int)) = true
            · have h0 : idxOf tok x.f5 = (i : Int) := by rw [hj]; simp only [idxFrom, hh, if_true]
              have hh' := hits_iff.1 hh
              have ih := ref_ev n (by omega) _ tok hg
              rw [if_neg (by omega)] at ih
              have e : leafS (n + 1) x.f5 tok = (i : Int) :: leafS n (rd_T24 x.f5 (i : Int)).f5 tok := by
                simp only [leafS, h0]
                rw [if_neg (by omega)]
              have hln := leafS_len n (rd_T24 x.f5 (i : Int)).f5 tok
              refine To.step (f := fun k => (smockingref06_Leaf.f k (rd_T24 x.f5 i).f0 (rd_T24 x.f5 i).f1 (rd_T24 x.f5 i).f2 (rd_T24 x.f5 i).f3 (rd_T24 x.f5 i).f4 (rd_T24 x.f5 i).f5 tok).bind fun b => if ([(i : Int)] : List Int).length + b.1.length < 17592186044416 then some ([(i : Int)] ++ b.1, 0) else none) (fun k => ?_) (To.bind (To.ev ih) (fun b hb => ?_))
              · simp only [smockingref06_Leaf.l0, if_pos (show (i : Int) < (x.f5.length : Int) by omega), if_pos (show (0 : Int) ≤ (i : Int) by omega), if_pos hh'.1, if_pos hh'.2, Option.bind_some]
              · subst hb
                refine To.ite (fun _ => To.now _ (by rw [e]; rfl)) (fun hno => absurd (by simp; omega) hno)
            · have h0 : idxOf tok x.f5 = idxFrom tok x.f5 (x.f5.length - (i + 1)) (i + 1) := by rw [hj]; simp only [idxFrom, hh]; rfl
              refine To.step (f := fun k => smockingref06_Leaf.l0 k tok ((i : Int) + 1) x.f0 x.f1 x.f2 x.f3 x.f4 x.f5) (fun k => ?_) (hk () h0)
              simp only [smockingref06_Leaf.l0, if_pos (show (i : Int) < (x.f5.length : Int) by omega), if_pos (show (0 : Int) ≤ (i : Int) by omega), wrap_nat hi hm]
              by_cases h3 : tok ≥ (rd_T24 x.f5 (i : Int)).f3
              · have h4 : ¬ tok < (rd_T24 x.f5 (i : Int)).f4 := fun h4 => hh (hits_iff.2 ⟨h3, h4⟩)
                rw [if_pos h3, if_neg h4]
              · rw [if_neg h3])
          x.f5.length 0 (by omega) () rfl
        exact To.is key
theorem eqints_ev (l : List Int) (hm : l.length ≤ maxLen) : Ev (fun k => smockingref00_EqInts.f k l l) true := by
  unfold smockingref00_EqInts.f
  simp only [if_true]
  have key := to_loop (g := fun k (_ : Unit) i => smockingref00_EqInts.l0 k l l i) l.length (fun _ _ => True) (fun _ _ r => r = true)
    (fun _ _ => To.step (f := fun _ => some true) (fun k => by simp only [smockingref00_EqInts.l0, if_neg (Int.lt_irrefl _)]) (To.now _ rfl))
    (fun _ i hi _ hk => To.step (f := fun k => smockingref00_EqInts.l0 k l l ((i : Int) + 1)) (fun k => by simp only [smockingref00_EqInts.l0, if_pos (show (i : Int) < (l.length : Int) by omega), if_pos (show (0 : Int) ≤ (i : Int) by omega), if_true, wrap_nat hi hm]) (hk () trivial))
    l.length 0 (by omega) () trivial
  exact To.is key
theorem TreeLeaves_pure (x : S24) (hx : Good x) (tok : Int) (ht : (Lit.int .i64 tok).wf = true) : ∃ k, smockinglaw06_TreeLeaves.f k x.f0 x.f1 x.f2 x.f3 x.f4 x.f5 tok = some true := by
  refine Ev.rounds (g := fun k => smockinglaw06_TreeLeaves.f k x.f0 x.f1 x.f2 x.f3 x.f4 x.f5 tok) (To.is ?_)
  unfold smockinglaw06_TreeLeaves.f
  refine To.bind (heavy_to [] [] hx) (fun a ha => To.ite (fun _ => awake_to) (fun h => ?_))
  obtain ⟨⟨gx, sx⟩, _⟩ := ha (by simpa using h)
  have hr := ref_ev 300 (by omega) x tok gx
  have hp : Ev (fun k => tree_Leaf.f k x.f0 x.f1 x.f2 x.f3 x.f4 x.f5 tok) (if tok < x.f3 ∨ tok ≥ x.f4 then ([], 4) else (leafS 300 x.f5 tok, 0)) := by
    unfold tree_Leaf.f
    by_cases h1 : tok < x.f3
    · simp only [if_pos h1, if_pos (show tok < x.f3 ∨ tok ≥ x.f4 from .inl h1)]
      exact Ev.now _
    · by_cases h2 : tok ≥ x.f4
      · simp only [if_neg h1, if_pos h2, if_pos (show tok < x.f3 ∨ tok ≥ x.f4 from .inr h2)]
        exact Ev.now _
      · simp only [if_neg h1, if_neg h2, if_neg (show ¬ (tok < x.f3 ∨ tok ≥ x.f4) by omega)]
        have := g_ev 299 (by omega) x.f5 tok [] gx.2.2.2.2.2.2 (by simp)
        exact Ev.bind this (Ev.now _)
  refine To.bind (To.ev hp) (fun p hp => To.bind (To.ev hr) (fun q hq => ?_))
  have hpq : p = q := by rw [hp, hq]
  have hlen : p.1.length ≤ maxLen := by
    rw [hp]
    split
    · simp
    · have := leafS_len 300 x.f5 tok
      unfold maxLen
      show (leafS 300 x.f5 tok).length ≤ _
      omega
  subst hpq
  refine To.bind (To.ev (eqints_ev p.1 hlen)) (fun t ht => ?_)
  subst ht
  simp only [if_true]
  exact awake_to
end Go.Proofs.Yteajbghklmkoeaa.Tr
