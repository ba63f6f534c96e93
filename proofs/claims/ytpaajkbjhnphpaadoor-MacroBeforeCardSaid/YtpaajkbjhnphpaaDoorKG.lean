import Derived.Test.YtpaajkbjhnphpaaDoorKF
/- The law of what stands before. -/
namespace Go.Pv
open Go.Proofs
set_option linter.unusedVariables false
set_option linter.unusedSimpArgs false
set_option maxRecDepth 100000
set_option maxHeartbeats 1000000
theorem find_take (l : List Tk) (name : ByteArray) (m : Nat) : findR (l.take m) name m = findR l name m := by
  unfold findR
  rw [defsF_take, List.filter_filter]
  congr 2
  refine List.filter_congr fun d hd => ?_
  unfold okD
  rw [show ((0 + m : Nat) : Int) = (m : Int) by omega]
  cases decide (d.at_ < (m : Int)) <;> simp
theorem bin_nn (b : Bool) : bin Tryd.prog .neq 4 (.lit (.bool b)) (.lit (.bool b)) = some (.lit (.bool false)) := by
  cases b <;> simp [bin]
def BFI (D : List Df) (l : List Tk) (name : ByteArray) (a : Int) (E0 : Env) (base : St) (n : Nat) (e : Env) (s' : St) : Prop :=
  ∃ (j : Nat), j + n = D.length ∧ e 1 = .lit (.string name) ∧ e 2 = .lit (.int .i64 a) ∧ e 7 = E0 7 ∧ e 8 = E0 8 ∧ e 11 = defs .any D ∧ e 13 = .lit (.int .i64 j) ∧ s' = base ∧
    ((e 12 = .lit (.int .i64 (-1)) ∧ ((D.take j).filter (okD name a)).getLast? = none) ∨
     ∃ (q : Nat) (d : Df), q < j ∧ e 12 = .lit (.int .i64 q) ∧ D[q]? = some d ∧ ((D.take j).filter (okD name a)).getLast? = some d)
theorem macroBefore_c (l : List Tk) (name : ByteArray) (a : Int) (hl : l.length ≤ 9223372036854775807) (ha : -9223372036854775808 ≤ a ∧ a ≤ 9223372036854775807) (hs : l.length ≤ 600 → ∀ x ∈ l, x.text.size ≤ 140737488351232) (s : St) (hv : Vars s) : PCalls Tryd.prog 5 [toks .any l, .lit (.string name), .lit (.int .i64 a)] s (fun r s' => s' = s ∧ r = .ret (.lit (.bool true))) := by
  refine PCalls.of Tryd.func5 rfl (by rfl) (by simp [Tryd.ntmps5]) ?_
  refine pwC_sound _ _ _ _ ?_
  refine pwC_cut fun K hK => ?_
  simp [Tryd.ntmps5]
  refine hK _ _ ?_
  clear hK K
  have aw : ∀ s, Vars s → PCalls Tryd.prog 10 [] s (fun r s' => s' = s ∧ r = .ret (.lit (.bool true))) := awake_c
  refine pwC_cut fun K hK => ?_
  simp
  refine (heavy_c .any .nil l [] hl (by simp) hs _).mono ?_
  rintro _ s1 ⟨hs1, rfl⟩
  rw [hs1]
  clear hs1 s1
  cases hh : heavyB l ([] : List Int).length with
  | true =>
    clear hK
    simp
    refine (aw _ hv).mono ?_
    rintro _ s1 ⟨hs1, rfl⟩
    rw [hs1]
    simp
  | false =>
    obtain ⟨hl6, _, hs2⟩ := heavy_no hh
    by_cases ha0 : a < 0
    · clear hK
      simp [ha0]
      refine (aw _ hv).mono ?_
      rintro _ s1 ⟨hs1, rfl⟩
      rw [hs1]
      simp
    by_cases hal : (l.length : Int) < a
    · clear hK
      simp [ha0, hal]
      refine (aw _ hv).mono ?_
      rintro _ s1 ⟨hs1, rfl⟩
      rw [hs1]
      simp
    obtain ⟨m, rfl⟩ : ∃ m : Nat, a = m := ⟨a.toNat, by omega⟩
    have hml : m ≤ l.length := by omega
    simp [ha0, hal]
    refine hK _ _ ?_
    clear hK K
    obtain ⟨k2, hsl⟩ := slc_to .any l m hml
    refine pwC_cut fun K hK => ?_
    simp
    refine (pFind_c .any l name m (by omega) ha hs2 _ hv).mono ?_
    rintro _ s1 ⟨hs1, k1, rfl⟩
    rw [hs1]
    clear hs1 s1
    simp
    intro i7 h7
    refine hK _ _ ?_
    clear hK K
    generalize hE : Env.put _ _ _ = E
    have g0 : E 0 = toks .any l := by rw [← hE]; simp
    have g1 : E 1 = .lit (.string name) := by rw [← hE]; simp
    have g2 : E 2 = .lit (.int .i64 m) := by rw [← hE]; simp
    have g7 : E 7 = .pt i7 0 0 := by rw [← hE]; simp
    have g8 : E 8 = .lit (.bool (findR l name m).2) := by rw [← hE]; simp
    clear hE
    generalize hσ : St.upd s _ _ = σ
    have c7 : σ i7 = some (.row 27 6 [encDC k1 (findR l name m).1]) := by rw [← hσ]; simp
    have hsσ : s.sub σ := by rw [← hσ]; exact sub_refl.upd_of h7
    clear hσ
    refine pwC_cut fun K hK => ?_
    simp [g0, g1, g2, hsl]
    refine (pFind_c k2 (l.take m) name m (by rw [List.length_take]; omega) ha (fun x hx => hs2 x (List.mem_of_mem_take hx)) _ (hv.sub hsσ)).mono ?_
    rintro _ s1 ⟨hs1, k3, rfl⟩
    rw [hs1, find_take]
    clear hs1 s1
    simp
    intro i9 h9
    refine hK _ _ ?_
    clear hK K
    have n7 : ¬ i7 = i9 := fun e => by subst e; rw [show σ i7 = none from h9] at c7; cases c7
    generalize hE : Env.put _ _ _ = E1
    have f0 : E1 0 = toks .any l := by rw [← hE]; simp [g0]
    have f1 : E1 1 = .lit (.string name) := by rw [← hE]; simp [g1]
    have f2 : E1 2 = .lit (.int .i64 m) := by rw [← hE]; simp [g2]
    have f7 : E1 7 = .pt i7 0 0 := by rw [← hE]; simp [g7]
    have f8 : E1 8 = .lit (.bool (findR l name m).2) := by rw [← hE]; simp [g8]
    have f9 : E1 9 = .pt i9 0 0 := by rw [← hE]; simp
    have f10 : E1 10 = .lit (.bool (findR l name m).2) := by rw [← hE]; simp
    clear hE
    generalize hσ : St.upd σ _ _ = σ2
    have d7 : σ2 i7 = some (.row 27 6 [encDC k1 (findR l name m).1]) := by rw [← hσ, St.upd_ne _ _ n7]; exact c7
    have d9 : σ2 i9 = some (.row 27 6 [encDC k3 (findR l name m).1]) := by rw [← hσ]; simp
    have hs2' : s.sub σ2 := by rw [← hσ]; exact hsσ.upd_of (hsσ.fresh h9)
    clear hσ
    have hvσ := hv.sub hs2'
    refine pwC_cut fun K hK => ?_
    simp [f0]
    refine (pDefs_c .any l (by omega) hs2 _ hvσ).mono ?_
    rintro _ s1 ⟨hs1, rfl⟩
    rw [hs1]
    clear hs1 s1
    simp
    refine hK _ _ ?_
    clear hK K
    have hDl : (defsF 0 l).length ≤ 100000 := by
      have h1 := defsF_len l 0
      omega
    generalize hE : Env.put _ _ _ = E2
    have k1' : E2 1 = .lit (.string name) := by rw [← hE]; simp [f1]
    have k2' : E2 2 = .lit (.int .i64 m) := by rw [← hE]; simp [f2]
    have k7 : E2 7 = .pt i7 0 0 := by rw [← hE]; simp [f7]
    have k8 : E2 8 = .lit (.bool (findR l name m).2) := by rw [← hE]; simp [f8]
    have k9 : E2 9 = .pt i9 0 0 := by rw [← hE]; simp [f9]
    have k10 : E2 10 = .lit (.bool (findR l name m).2) := by rw [← hE]; simp [f10]
    have k11 : E2 11 = defs .any (defsF 0 l) := by rw [← hE]; simp
    clear hE
    obtain ⟨F, hF⟩ : ∃ F, findR l name m = F := ⟨_, rfl⟩
    rw [hF] at d7 d9 k8 k10
    unfold findR at hF
    generalize defsF 0 l = D at *
    -- what is found
    have hFt : F.2 = true → F.1.name = name ∧ F.1.gone = false ∧ F.1.at_ < (m : Int) := by
      intro h
      cases hg : (D.filter (okD name m)).getLast? with
      | none => rw [hg] at hF; subst hF; cases h
      | some d =>
        have hd := (List.mem_filter.1 (List.mem_of_getLast? hg)).2
        simp [okD] at hd
        rw [hg] at hF
        unfold endD at hF
        simp only at hF
        split at hF
        · subst hF; cases h
        · rename_i hgn; subst hF; exact ⟨hd.2, by simpa using hgn, hd.1⟩
    clear f0 f1 f2 f7 f8 f9 f10 g0 g1 g2 g7 g8 E E1
    refine pwC_cut fun K hK => ?_
    have rest : ∀ E : Env, E 1 = .lit (.string name) → E 2 = .lit (.int .i64 m) → E 7 = .pt i7 0 0 → E 8 = .lit (.bool F.2) → E 11 = defs .any D → K E σ2 := by
      intro E e1 e2 e7 e8 e11
      refine hK _ _ ?_
      clear hK K
      refine pwC_cut fun K hK => ?_
      simp
      refine hK _ _ ?_
      clear hK K
      refine pwC_cut fun K hK => ?_
      refine pwC_cut fun K2 hK2 => ?_
      simp
      refine hK2 _ _ ?_
      clear hK2 K2
      refine PW.loop (fun n e' s' => BFI D l name m E σ2 n e' s') D.length ⟨0, by omega, by simp [e1], by simp [e2], by simp, by simp, by simp [e11], by simp, rfl, .inl ⟨by simp, by simp⟩⟩ ?_
      rintro n e s' ⟨j, hj, p1, p2, p7, p8, p11, p13, rfl, hcase⟩
      refine pwC_sound _ _ _ _ ?_
      by_cases hlt : j < D.length
      · have hlt' : (j : Int) < D.length := by omega
        have hg : D[j]? = some D[j] := List.getElem?_eq_getElem hlt
        obtain ⟨d, hd⟩ : ∃ d, D[j] = d := ⟨_, rfl⟩
        rw [hd] at hg
        have w1 : IntKind.i64.wrap ((j : Int) + 1) = ((j + 1 : Nat) : Int) := by rw [wrap_i64 (by omega) (by omega)]; omega
        have htk : (D.take (j + 1)).filter (okD name m) = (D.take j).filter (okD name m) ++ [d].filter (okD name m) := by rw [List.take_add_one, hg]; simp
        clear hK
        by_cases hn : d.name = name
        · by_cases hat : d.at_ < (m : Int)
          · have hok : [d].filter (okD name m) = [d] := by simp [okD, hat, hn]
            simp [p1, p2, p11, p13, hlt, hlt', hg, hd, hn, hat, w1]
            exact ⟨n - 1, by omega, j + 1, by omega, by simp [p1], by simp [p2], by simp [p7], by simp [p8], by simp [p11], by simp, rfl, .inr ⟨j, d, by omega, by simp, hg, by rw [htk, hok, List.getLast?_concat]⟩⟩
          · have hok : [d].filter (okD name m) = [] := by simp [okD, hat]
            rw [hok, List.append_nil] at htk
            simp [p1, p2, p11, p13, hlt, hlt', hg, hd, hn, hat, w1]
            refine ⟨n - 1, by omega, j + 1, by omega, by simp [p1], by simp [p2], by simp [p7], by simp [p8], by simp [p11], by simp, rfl, ?_⟩
            rw [htk]
            rcases hcase with ⟨r1, r2⟩ | ⟨q, dd, r1, r2, r3, r4⟩
            · exact .inl ⟨by simp [r1], r2⟩
            · exact .inr ⟨q, dd, by omega, by simp [r2], r3, r4⟩
        · have hok : [d].filter (okD name m) = [] := by simp [okD, hn]
          rw [hok, List.append_nil] at htk
          simp [p1, p2, p11, p13, hlt, hlt', hg, hd, hn, w1]
          refine ⟨n - 1, by omega, j + 1, by omega, by simp [p1], by simp [p2], by simp [p7], by simp [p8], by simp [p11], by simp, rfl, ?_⟩
          rw [htk]
          rcases hcase with ⟨r1, r2⟩ | ⟨q, dd, r1, r2, r3, r4⟩
          · exact .inl ⟨by simp [r1], r2⟩
          · exact .inr ⟨q, dd, by omega, by simp [r2], r3, r4⟩
      · have hlt' : ¬ (j : Int) < D.length := by omega
        rw [List.take_of_length_le (by omega)] at hcase
        simp [p1, p2, p11, p13, hlt, hlt']
        refine hK _ _ ?_
        clear hK K
        rw [e7] at p7
        rw [e8] at p8
        rcases hcase with ⟨r1, r2⟩ | ⟨q, dd, r1, r2, r3, r4⟩
        · have hF2 : F.2 = false := by rw [← hF, r2]; rfl
          rw [hF2] at p8
          simp [p8, p11, r1]
          refine (aw _ hvσ).mono ?_
          rintro _ s1 ⟨hs1, rfl⟩
          rw [hs1]
          simp
          exact hs2'
        · have hq0 : ¬ (q : Int) < 0 := by omega
          have hqD : q < D.length := (List.getElem?_eq_some_iff.1 r3).1
          have hge : D[q] = dd := (List.getElem?_eq_some_iff.1 r3).2
          refine pwC_cut fun K hK => ?_
          by_cases hgn : dd.gone = true
          · have hF2 : F.2 = false := by rw [← hF, r4]; simp [endD, hgn]
            rw [hF2] at p8
            clear hK
            simp [p8, p11, r2, hq0, hqD, hge, r3, hgn]
            refine (aw _ hvσ).mono ?_
            rintro _ s1 ⟨hs1, rfl⟩
            rw [hs1]
            simp
            exact hs2'
          · have hFd : F = (dd, true) := by rw [← hF, r4]; simp [endD, hgn]
            subst hFd
            simp [p8, p11, r2, hq0, hqD, hge, r3, hgn]
            refine hK _ _ ?_
            clear hK K
            simp
            refine PW.drawn (fun i => match i with | 12 => 1 | _ => 0) [0, 1, 2, 3, 4, 5, 7, 6, 8, 9, 10, 11, 12, 13, 14] mixed_ (fun _ _ _ _ h => h) (by kernel_rfl) ?_
            simp [p7, p8, p11, r2, hq0, hqD, hge, r3, d7]
            refine quiet_of (aw _ hvσ) ?_
            simp
            exact hs2'
    clear hK
    cases hF2 : F.2 with
    | false =>
      rw [hF2] at k8 k10
      simp [k8, k10, bin_nn]
      exact rest _ (by simp [k1']) (by simp [k2']) (by simp [k7]) (by simp [k8, hF2]) (by simp [k11])
    | true =>
      obtain ⟨q1, q2, q3⟩ := hFt hF2
      have q3' : ¬ (m : Int) ≤ F.1.at_ := by omega
      rw [hF2] at k8 k10
      simp (maxSteps := 4000000) [k1', k2', k7, k8, k9, k10, d7, d9, q1, q2, q3, q3', bin_nn]
      exact rest _ (by simp [k1']) (by simp [k2']) (by simp [k7]) (by simp [k8, hF2]) (by simp [k11])
theorem macroBefore_l {A : Prop} (l : List Tk) (hl : l.length ≤ 2 ^ 63 - 1) (hs : ∀ t ∈ l, t.text.size ≤ 140737488351232 ∧ t.before.size ≤ 140737488351232) (name : ByteArray) (_ : A) (a : Int) (ha : -9223372036854775808 ≤ a ∧ a ≤ 9223372036854775807) (s : St) (hv : Vars s) : PCalls Tryd.prog 5 [toks .any l, .lit (.string name), .lit (.int .i64 a)] s (fun r s' => s' = s ∧ r = .ret (.lit (.bool true))) :=
  macroBefore_c l name a (by omega) ha (fun _ x hx => (hs x hx).1) s hv
end Go.Pv
