/- tree.Paths: the paths of a walk that lead to nodes of an Op. -/
import Derived.Test.YteajbghklmkoeaaW3
namespace Go.Pv
open Go.Proofs
set_option linter.unusedVariables false
set_option linter.unusedSimpArgs false
set_option maxRecDepth 100000
set_option maxHeartbeats 1000000
@[reducible] def lists (k : VK) (l : List (List Int)) : PV := .vec k (l.map fun p => ints .any p)
@[reducible] def rowL (l : List (List Int)) : List (List PV) := l.map fun p => [ints .any p]
/-- The paths, among these nodes, of an Op. -/
def opPaths (op : Int) (l : List (List Int × Nd)) : List (List Int) := (l.filter fun q => decide (op = 0) || decide (q.2.op = op)).map (·.1)
theorem opPaths_snoc (op : Int) (l : List (List Int × Nd)) (p : List Int) (x : Nd) : opPaths op (l ++ [(p, x)]) = opPaths op l ++ (if op = 0 ∨ x.op = op then [p] else []) := by
  unfold opPaths
  rw [List.filter_append, List.map_append]
  congr 1
  by_cases h : op = 0 ∨ x.op = op
  · rw [if_pos h, List.filter_cons, if_pos (by simpa using h)]; rfl
  · rw [if_neg h, List.filter_cons, if_neg (by simpa using h)]; rfl
/-- What the loop has of its own: its record, the list's variable, the list. -/
def OwnP (i i5 : Nat) (L : LoopR) (v : PV) : St := (St.empty.upd i (some (.loop L))).upd i5 (some (.row 46 1 [[v]]))
def InvP (i i5 : Nat) (L : LoopR) (op : Int) (pre : List (List Int × Nd)) (own : St) : Prop := ∃ v, OwnL 31 1 (OwnP i i5 L v) (rowL (opPaths op pre)) v own
theorem paths_c (x : Nd) (op : Int) (hsz : x.size ≤ 1000000) (s : St) : PCalls Try.prog 29 [encU x, .lit (.int .i64 op)] s (fun r s' => s' = s ∧ r = .ret (lists .any (opPaths op (walkN x [])))) := by
  refine PCalls.conv (R := fun r s' => ∃ v, r = .ret v ∧ OwnL 31 1 s (rowL (opPaths op (walkN x []))) v s') ?_ ?_ ?_
  · refine PCalls.of Try.func29 rfl (by rfl) (by simp [Try.ntmps29]) ?_
    refine pwC_sound _ _ _ _ ?_
    refine pwC_cut fun K hK => ?_
    simp +contextual [Try.ntmps29]
    intro i2 h2 i3 h32 h23 h3
    refine hK _ _ ?_
    clear hK K
    refine pwC_cut fun K hK => ?_
    simp
    intro i5 h53 h52 h5 h35 h25
    refine hK _ _ ?_
    clear hK K
    refine pwC_cut fun K hK => ?_
    simp [h32, h23, h35, h25, h52, h53]
    refine (walk_c x _).mono ?_
    rintro _ _ ⟨b, hb, rfl, rfl⟩
    simp at hb
    obtain ⟨hb5, h5b, hb3, h3b, hb2, h2b, hbs⟩ := hb
    simp
    generalize hE : Env.put _ _ _ = E
    have g3 : E 3 = .pt i3 0 0 := by rw [← hE]; simp
    have g5 : E 5 = .pt i5 0 0 := by rw [← hE]; simp
    have g9 : E 9 = .fn 74 [] [.pt b 0 0] := by rw [← hE]; simp
    clear hE
    refine PW.rangeL (show E.ev (.tmp 9) = _ from g9) (by kernel_rfl) ?_
    intro i L hi hst hN hLe hps hasg hbody
    have hi' : Fresh _ i := hi
    simp at hi'
    clear hi
    obtain ⟨hib, hbi, hi5, h5i, hi3, h3i, hi2, h2i, his⟩ := hi'
    obtain ⟨base, hbase⟩ : ∃ base : St, base = ((s.upd i2 (some (.row 24 6 [encC x]))).upd i3 (some (.row 3 1 [[.lit (.int .i64 op)]]))).upd b (some (.row 24 6 [encC x])) := ⟨_, rfl⟩
    have hst0 : (((((s.upd i2 (some (.row 24 6 [encC x]))).upd i3 (some (.row 3 1 [[.lit (.int .i64 op)]]))).upd i5 (some (.row 46 1 [[.vec .nil []]]))).upd b (some (.row 24 6 [encC x]))).upd i (some (.loop L))) = join base (OwnP i i5 L (.vec .nil [])) := by
      rw [hbase]
      funext j
      simp only [join, OwnP, St.upd, St.empty]
      by_cases q1 : j = i
      · subst q1; simp [h5i, hi5, hib, hi3, hi2, show s j = none from his]
      · by_cases q2 : j = i5
        · subst q2; simp [q1, h5b, h53, h5, show s j = none from h25]
        · simp only [if_neg q1, if_neg q2]
          cases hq : (if j = b then some (Blk.row 24 6 [encC x]) else if j = i3 then some (Blk.row 3 1 [[PV.lit (.int .i64 op)]]) else if j = i2 then some (Blk.row 24 6 [encC x]) else s j) <;> rfl
    have hdj : Disj base (OwnP i i5 L (.vec .nil [])) := by
      intro j hj
      rw [hbase] at hj
      simp only [OwnP, St.upd, St.empty] at hj ⊢
      by_cases q1 : j = i
      · subst q1; simp [hib, hi3, hi2, show s j = none from his] at hj
      · by_cases q2 : j = i5
        · subst q2; simp [h5b, h53, h5, show s j = none from h25] at hj
        · simp [q1, q2]
    have b3 : base i3 = some (.row 3 1 [[.lit (.int .i64 op)]]) := by rw [hbase]; simp [h3b]
    have bb : base b = some (.row 24 6 [encC x]) := by rw [hbase]; simp
    have bs : s.sub base := by rw [hbase]; exact ((sub_refl.upd_of h2).upd_of h3).upd_of hbs
    refine PCalls.mono (R := fun r s' => r = .ret (.tup []) ∧ ∃ own', InvP i i5 L op (walkN x []) own' ∧ Disj base own' ∧ s' = join base own') ?_ ?_
    · rw [hst0]
      refine walk1_c (B0 := base) (M := x.size) (I := InvP i i5 L op) ?_ x hsz base _ (Nat.le_refl _) ⟨_, OwnL.nil _ _ _⟩ hdj sub_refl bb
      intro pre p y base' own hlen ⟨v, hO⟩ hdj' hsub
      have oi : own i = some (.loop L) := hO.at (by simp [OwnP, hi5])
      have o5 : own i5 = some (.row 46 1 [[v]]) := hO.at (by simp [OwnP])
      have ni : base' i = none := hdj'.off oi
      have n5 : base' i5 = none := hdj'.off o5
      have ji := join_own hdj' oi
      have j5 := join_own hdj' o5
      have j3 := join_base (o := own) (hsub _ _ b3)
      have hdO : Disj base' (OwnP i i5 L v) := fun k hk => by
        have q1 : k ≠ i := fun e => hk (e ▸ ni)
        have q2 : k ≠ i5 := fun e => hk (e ▸ n5)
        simp [OwnP, St.empty, St.upd, q1, q2]
      have hOj := hO.join hdj'
      have hlen2 : (opPaths op pre).length ≤ pre.length := by unfold opPaths; rw [List.length_map]; exact List.length_filter_le _ _
      refine PYld.ofL ji hst hN hLe hps hasg hbody rfl (by simp) rfl rfl ?_
      clear hst hN hLe hps hasg hbody hst0 hbase
      intro B
      refine pwC_sound _ _ _ _ ?_
      simp +contextual [putL, ji]
      intro i7 h7
      obtain ⟨h7b, h7o⟩ := join_none h7
      have n7i : i ≠ i7 := fun e => by subst e; rw [show own i = none from h7o] at oi; cases oi
      have n75 : i5 ≠ i7 := fun e => by subst e; rw [show own i5 = none from h7o] at o5; cases o5
      have n73 : i3 ≠ i7 := fun e => by subst e; rw [show join base' own i3 = none from h7] at j3; cases j3
      refine ⟨n7i, ?_⟩
      refine pwC_sound _ _ _ _ ?_
      have hOb := (hOj.upd (k := i7) (x := some (.row 24 6 [encC y])) (.inl h7)).upd (k := i) (x := some (.loop B)) (.inr (by rw [St.upd_ne _ _ n7i, join_own (o := OwnP i i5 L v) (x := .loop L) hdO (by simp [OwnP, hi5])]; simp))
      have B5 : (((join base' (OwnP i i5 L v)).upd i7 (some (.row 24 6 [encC y]))).upd i (some (.loop B))) i5 = some (.row 46 1 [[v]]) := by
        rw [St.upd_ne _ _ h5i, St.upd_ne _ _ n75]
        exact join_own hdO (by simp [OwnP])
      by_cases hop : op = 0 ∨ y.op = op
      · have fin : ∀ (j : Nat) (E' : Env), Fresh (((join base' (OwnP i i5 L v)).upd i7 (some (.row 24 6 [encC y]))).upd i (some (.loop B))) j →
            QZ i B L (fun v s' => v = .lit (.bool true) ∧ ∃ own', InvP i i5 L op (pre ++ [(p, y)]) own' ∧ Disj base' own' ∧ s' = join base' own') .normal E'
              (((((join base' (OwnP i i5 L v)).upd i7 (some (.row 24 6 [encC y]))).upd i (some (.loop B))).upd j (some (.row 31 1 (rowL (opPaths op pre) ++ [[ints .any p]])))).upd i5 (some (.row 46 1 [[.sl j 1 0 (rowL (opPaths op pre) ++ [[ints .any p]]).length]]))) := by
          intro j E' hj
          have hj5 : j ≠ i5 := fun e => by subst e; rw [show _ = none from hj] at B5; cases B5
          simp at hj
          obtain ⟨hji, hij, hj7, h7j, hj⟩ := hj
          obtain ⟨hjb, hjo⟩ := join_none hj
          have hj5' : ¬ i5 = j := fun e => hj5 e.symm
          have nb : ∀ k, base' k ≠ none → k ≠ i ∧ k ≠ i5 ∧ k ≠ j := fun k hk => ⟨fun e => hk (e ▸ ni), fun e => hk (e ▸ n5), fun e => hk (e ▸ hjb)⟩
          obtain ⟨own2, ho2⟩ : ∃ o : St, o = (OwnP i i5 L (.sl j 1 0 (rowL (opPaths op pre) ++ [[ints .any p]]).length)).upd j (some (.row 31 1 (rowL (opPaths op pre) ++ [[ints .any p]]))) := ⟨_, rfl⟩
          have hd2 : Disj base' own2 := fun k hk => by
            obtain ⟨q1, q2, q3⟩ := nb k hk
            rw [ho2]; simp [OwnP, St.empty, St.upd, q1, q2, q3]
          have o2i : own2 i = some (.loop L) := by rw [ho2]; simp [OwnP, hi5, hij]
          have e1 : (join base' own2).upd i (some (.loop B)) = join base' (own2.upd i (some (.loop B))) := join_updO _ ni
          have hels : rowL (opPaths op (pre ++ [(p, y)])) = rowL (opPaths op pre) ++ [[ints .any p]] := by rw [opPaths_snoc, if_pos hop]; simp
          refine ⟨join base' (own2.upd i (some (.loop B))), ?_, ?_, rfl, own2, ⟨.sl j 1 0 (rowL (opPaths op pre) ++ [[ints .any p]]).length, ?_⟩, hd2, ?_⟩
          · intro k bl hk
            by_cases k1 : k = i5
            · subst k1
              simp [join, n5, ho2, OwnP, h5i, hj5'] at hk ⊢
              exact hk
            · by_cases k2 : k = j
              · subst k2
                simp [join, show base' k = none from hjb, ho2, OwnP, hji, k1] at hk ⊢
                exact hk
              · by_cases k3 : k = i
                · subst k3
                  simp [join, ni, hi5, hij] at hk ⊢
                  exact hk
                · have ho : own2 k = none := by rw [ho2]; simp [OwnP, St.empty, St.upd, k1, k2, k3]
                  have hbk : base' k = some bl := by
                    unfold join at hk
                    rw [St.upd_ne _ _ k3, ho] at hk
                    cases hb : base' k with
                    | none => rw [hb] at hk; cases hk
                    | some z => rw [hb] at hk; exact hk
                  have k4 : k ≠ i7 := fun e => by rw [e, show base' i7 = none from h7b] at hbk; cases hbk
                  rw [St.upd_ne _ _ k1, St.upd_ne _ _ k2, St.upd_ne _ _ k3, St.upd_ne _ _ k4]
                  exact join_base hbk
          · rw [← e1, St.upd_same]
          · rw [hels]
            refine .inr ⟨by simp, j, ?_, rfl, ho2⟩
            simp [Fresh, OwnP, St.empty, St.upd, hji, hj5]
          · rw [← e1, St.upd_upd, St.upd_self (join_own hd2 o2i)]
        have app : ∀ (K' : PV → St → Prop), (∀ j, Fresh (((join base' (OwnP i i5 L v)).upd i7 (some (.row 24 6 [encC y]))).upd i (some (.loop B))) j → K' (.sl j 1 0 (rowL (opPaths op pre) ++ [[ints .any p]]).length) ((((join base' (OwnP i i5 L v)).upd i7 (some (.row 24 6 [encC y]))).upd i (some (.loop B))).upd j (some (.row 31 1 (rowL (opPaths op pre) ++ [[ints .any p]]))))) →
            appW Try.prog (((join base' own).upd i7 (some (.row 24 6 [encC y]))).upd i (some (.loop B))) 46 46 v (.vec .tight [ints .any p]) K' := by
          intro K' hK'
          refine appOwn (b := 24) (z := .slice none 0 0) (ys := [[ints .any p]]) hOb (by simp) (by simp) (by simp) (by simp) rfl (by omega) (by simp) (fun s => by simp [elemsOf]) (by simp; omega) (fun v1 s1 hO1 => ?_)
          rcases hO1 with ⟨hnil, _⟩ | ⟨_, j, hj, rfl, rfl⟩
          · simp at hnil
          · exact hK' j hj
        have n5j : ∀ j, Fresh (((join base' (OwnP i i5 L v)).upd i7 (some (.row 24 6 [encC y]))).upd i (some (.loop B))) j → ¬ i5 = j := fun j hj e => by subst e; rw [show _ = none from hj] at B5; cases B5
        by_cases q1 : op = 0
        · rw [q1] at app fin
          simp [g3, g5, ji, j3, j5, n7i, n75, n73, n7i.symm, n75.symm, n73.symm, h3i, hi3, h5i, hi5, q1]
          refine app _ fun j hj => ?_
          rw [St.upd_ne _ _ (n5j j hj), B5]
          exact ⟨rfl, rfl, Nat.le_refl _, fin j _ hj⟩
        · have q2 : (y.op = op) = True := eq_true (hop.resolve_left q1)
          simp [g3, g5, ji, j3, j5, n7i, n75, n73, n7i.symm, n75.symm, n73.symm, h3i, hi3, h5i, hi5, q1, q2]
          refine app _ fun j hj => ?_
          rw [St.upd_ne _ _ (n5j j hj), B5]
          exact ⟨rfl, rfl, Nat.le_refl _, fin j _ hj⟩
      · have q1 : ¬ op = 0 := fun h => hop (.inl h)
        have q2 : ¬ y.op = op := fun h => hop (.inr h)
        simp [g3, g5, ji, j3, j5, n7i, n75, n73, n7i.symm, n75.symm, n73.symm, h3i, hi3, q1, q2]
        have e1 : (join base' own).upd i (some (.loop B)) = join base' (own.upd i (some (.loop B))) := join_updO _ ni
        refine ⟨join base' (own.upd i (some (.loop B))), ?_, ?_, rfl, own, ⟨v, ?_⟩, hdj', ?_⟩
        · rw [← e1, St.upd_comm _ _ _ n7i.symm]
          exact sub_refl.upd_of (by rw [St.upd_ne _ _ n7i.symm]; exact h7)
        · rw [← e1, St.upd_same]
        · rw [opPaths_snoc, if_neg hop, List.append_nil]; exact hO
        · rw [← e1, St.upd_upd, St.upd_self ji]
    · rintro _ _ ⟨rfl, own', ⟨v, hO⟩, hd', rfl⟩
      have oi : own' i = some (.loop L) := hO.at (by simp [OwnP, hi5])
      have o5 : own' i5 = some (.row 46 1 [[v]]) := hO.at (by simp [OwnP])
      have j5 := join_own hd' o5
      refine .inl ⟨join_own hd' oi, ?_⟩
      simp
      refine hK _ _ ?_
      clear hK K
      simp [g5, j5, h5i]
      have hsi : s.sub ((join base own').upd i none) := (bs.trans (join_sub _ _)).upd_of his
      rcases hO with ⟨h1, h2, rfl⟩ | ⟨h0, j, hj, rfl, rfl⟩
      · exact ⟨s, hsi, by rw [h1, h2]; exact .nil _ _ _⟩
      · have oj : ((OwnP i i5 L (.sl j 1 0 (rowL (opPaths op (walkN x []))).length)).upd j (some (.row 31 1 (rowL (opPaths op (walkN x [])))))) j = some (.row 31 1 (rowL (opPaths op (walkN x [])))) := St.upd_same _ _ _
        have nj := hd'.off oj
        have sj : s j = none := by
          cases h : s j with
          | none => rfl
          | some z => rw [bs j z h] at nj; cases nj
        have hji : j ≠ i := fun e => by subst e; simp [Fresh, OwnP, St.upd] at hj; split at hj <;> cases hj
        refine ⟨s.upd j (some (.row 31 1 (rowL (opPaths op (walkN x []))))), ?_, .inr ⟨h0, j, sj, rfl, rfl⟩⟩
        intro k z hk
        by_cases k1 : k = j
        · subst k1
          rw [St.upd_same] at hk
          rw [St.upd_ne _ _ hji, ← hk]
          exact join_own hd' oj
        · rw [St.upd_ne _ _ k1] at hk
          exact hsi k z hk
  · rintro p s' ⟨v, hv, hO⟩
    cases hv
    exact ⟨_, _, Conv.own hO (by simp) [], rfl, rfl⟩
  · rintro c s' ⟨v, hv, _⟩
    cases hv
end Go.Pv
