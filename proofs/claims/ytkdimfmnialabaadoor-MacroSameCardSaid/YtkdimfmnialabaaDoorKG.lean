/- Several texts, one behind the other. -/
import Derived.Test.YtkdimfmnialabaaDoorKC
import Derived.Test.YtkdimfmnialabaaDoorKD
import Derived.Test.YtkdimfmnialabaaDoorKF
/- Uses of macros: small functions. -/
namespace Go.Pv
open Go.Proofs
set_option linter.unusedVariables false
set_option linter.unusedSimpArgs false
set_option maxRecDepth 100000
set_option maxHeartbeats 1000000
theorem gindex_c (k : VK) (l : List ByteArray) (x : ByteArray) (hl : l.length ≤ 1000000) (s : St) : PCalls Tryd.prog 66 [strs k l, .lit (.string x)] s (fun r s' => s' = s ∧ r = .ret (.lit (.int .i64 (hasI l x)))) := by
  refine PCalls.of Tryd.func66 rfl (by rfl) (by simp [Tryd.ntmps66]) ?_
  refine pwC_sound _ _ _ _ ?_
  simp [Tryd.ntmps66]
  refine PW.loop (fun n e s' => ∃ j : Nat, j + n = l.length ∧ e 0 = strs k l ∧ e 1 = .lit (.string x) ∧ e 7 = .lit (.int .i64 (l.length : Nat)) ∧ e 8 = .lit (.int .i64 j) ∧ hasF (l.drop j) x j = hasI l x ∧ s' = s) l.length ⟨0, by omega, by simp, by simp, by simp, by simp, rfl, rfl⟩ ?_
  rintro n e s' ⟨j, hj, e0, e1, e7, e8, hs, rfl⟩
  refine pwC_sound _ _ _ _ ?_
  by_cases hlt : j < l.length
  · have hlt' : (j : Int) < l.length := by omega
    have hg : l[j]? = some l[j] := List.getElem?_eq_getElem hlt
    have w1 : IntKind.i64.wrap ((j : Int) + 1) = ((j + 1 : Nat) : Int) := by rw [wrap_i64 (by omega) (by omega)]; omega
    rw [List.drop_eq_getElem_cons hlt, hasF] at hs
    by_cases hc : l[j] = x
    · rw [if_pos hc] at hs
      simp [e0, e1, e7, e8, hlt, hlt', hg, hc, ← hs]
    · have hc' : ¬ x = l[j] := fun h => hc h.symm
      rw [if_neg hc] at hs
      simp [e0, e1, e7, e8, hlt, hlt', hg, hc, hc', w1]
      exact ⟨n - 1, by omega, j + 1, by omega, by omega, hs⟩
  · have hlt' : ¬ (j : Int) < l.length := by omega
    rw [List.drop_eq_nil_of_le (by omega)] at hs
    simp [e0, e1, e7, e8, hlt, hlt', ← hs, hasF]
theorem gcontains_c (k : VK) (l : List ByteArray) (x : ByteArray) (hl : l.length ≤ 1000000) (s : St) : PCalls Tryd.prog 55 [strs k l, .lit (.string x)] s (fun r s' => s' = s ∧ r = .ret (.lit (.bool (decide (0 ≤ hasI l x))))) := by
  refine PCalls.of Tryd.func55 rfl (by rfl) (by simp [Tryd.ntmps55]) ?_
  refine pwC_sound _ _ _ _ ?_
  simp [Tryd.ntmps55]
  refine (gindex_c k l x hl _).mono ?_
  rintro _ s1 ⟨hs1, rfl⟩
  rw [hs1]
  simp
theorem gsign_c (x : Tk) (u : ByteArray) (s : St) : PCalls Tryd.prog 29 [encT x, .lit (.string u)] s (fun r s' => s' = s ∧ r = .ret (.lit (.bool (decide (x.kind = 6 ∧ x.text = u))))) := by
  refine PCalls.of Tryd.func29 rfl (by rfl) (by simp [Tryd.ntmps29]) ?_
  refine pwC_sound _ _ _ _ ?_
  by_cases h6 : x.kind = 6
  · simp [Tryd.ntmps29, h6]
    intro i1 h1
    exact sub_refl.upd_of h1
  · simp [Tryd.ntmps29, h6]
    intro i1 h1
    exact sub_refl.upd_of h1
end Go.Pv

/- Uses of macros: what is seen at a place. -/
namespace Go.Pv
open Go.Proofs
set_option linter.unusedVariables false
set_option linter.unusedSimpArgs false
set_option maxRecDepth 100000
set_option maxHeartbeats 1000000
/-- What is seen at each place of a view. -/
def seenAt (l : List Tk) (v : List Int) (i : Int) : Option Tk :=
  if i < 0 ∨ (v.length : Int) ≤ i then none else match l[(v.getD i.toNat 0).toNat]? with
  | some t => if t.kind = 0 then none else some t
  | none => none
@[reducible] def zeroT : Tk := ⟨0, ⟨#[]⟩, ⟨#[]⟩, 0⟩
def seenT (l : List Tk) (v : List Int) (i : Int) : Tk × Bool := match seenAt l v i with
  | some t => (t, true)
  | none => (zeroT, false)
@[reducible] def viewV (k kv : VK) (l : List Tk) (v : List Int) : PV := .agg [toks k l, ints kv v]
theorem vtoken_c (k kv : VK) (l : List Tk) (v : List Int) (i : Int) (hv : ∀ p ∈ v, 0 ≤ p ∧ p < l.length) (hl : v.length ≤ 1000000) (s : St) : PCalls Tryd.prog 27 [viewV k kv l v, .lit (.int .i64 i)] s (fun r s' => s' = s ∧ r = .ret (.tup [encT (seenT l v i).1, .lit (.bool (seenT l v i).2)])) := by
  refine PCalls.of Tryd.func27 rfl (by rfl) (by simp [Tryd.ntmps27]) ?_
  refine pwC_sound _ _ _ _ ?_
  refine pwC_cut fun K hK => ?_
  simp [Tryd.ntmps27]
  intro i2 h2 i4 h40 h41 h4
  refine hK _ _ ?_
  clear hK K
  generalize hE : Env.put _ _ _ = E
  have g1 : E 1 = .lit (.int .i64 i) := by rw [← hE]; simp
  have g2 : E 2 = .pt i2 0 0 := by rw [← hE]; simp
  have g4 : E 4 = .pt i4 0 0 := by rw [← hE]; simp
  clear hE
  generalize hσ : St.upd (St.upd _ _ _) _ _ = σ
  have b2 : σ i2 = some (.row 53 2 [[toks k l, ints kv v]]) := by rw [← hσ, St.upd_ne _ _ h41]; simp
  have b4 : σ i4 = some (.row 31 4 [encTC zeroT]) := by rw [← hσ]; simp
  have hs : s.sub σ := by rw [← hσ]; exact (sub_refl.upd_of h2).upd_of h4
  clear hσ
  have s4 := h4
  by_cases hi0 : i < 0
  · have hR : seenT l v i = (zeroT, false) := by unfold seenT seenAt; rw [if_pos (.inl hi0)]
    rw [hR]
    refine pwC_cut fun K hK => ?_
    clear hK
    simp
    refine PW.drawn (fun i => 0) [0, 1, 2, 3, 4, 5, 6, 7, 8, 9, 10, 12, 14, 11, 13, 15, 16, 17, 18, 19, 20, 21] mixed_ (fun _ _ _ _ h => h) (by kernel_rfl) ?_
    simp [g1, g2, g4, b2, b4, hi0]
    exact hs.upd_of s4
  by_cases hil : (v.length : Int) ≤ i
  · have hR : seenT l v i = (zeroT, false) := by unfold seenT seenAt; rw [if_pos (.inr hil)]
    rw [hR]
    refine pwC_cut fun K hK => ?_
    clear hK
    simp
    refine PW.drawn (fun i => 0) [0, 1, 2, 3, 4, 5, 6, 7, 8, 9, 10, 12, 14, 11, 13, 15, 16, 17, 18, 19, 20, 21] mixed_ (fun _ _ _ _ h => h) (by kernel_rfl) ?_
    simp [g1, g2, g4, b2, b4, hi0, hil]
    exact hs.upd_of s4
  obtain ⟨j, rfl⟩ : ∃ j : Nat, i = j := ⟨i.toNat, by omega⟩
  have hj : j < v.length := by omega
  have hgv : v[j]? = some v[j] := List.getElem?_eq_getElem hj
  obtain ⟨p, hp⟩ : ∃ p, v[j] = p := ⟨_, rfl⟩
  have hpv := hv p (hp ▸ List.getElem_mem _)
  rw [hp] at hgv
  obtain ⟨q, rfl⟩ : ∃ q : Nat, p = q := ⟨p.toNat, by omega⟩
  have hq : q < l.length := by omega
  have hgl : l[q]? = some l[q] := List.getElem?_eq_getElem hq
  obtain ⟨t, ht⟩ : ∃ t, l[q] = t := ⟨_, rfl⟩
  rw [ht] at hgl
  have hS : seenAt l v j = if t.kind = 0 then none else some t := by
    unfold seenAt
    rw [if_neg (by omega)]
    simp [List.getD, hgv, hgl]
  have hvn : ¬ v.length ≤ j := by omega
  refine pwC_cut fun K hK => ?_
  simp
  refine PW.drawn (fun i => 0) [0, 1, 2, 3, 4, 5, 6, 7, 8, 9, 10, 12, 14, 11, 13, 15, 16, 17, 18, 19, 20, 21] mixed_ (fun _ _ _ _ h => h) (by kernel_rfl) ?_
  by_cases hk : t.kind = 0
  · have hR : seenT l v j = (zeroT, false) := by unfold seenT; rw [hS, if_pos hk]
    rw [hR]
    clear hK
    simp [g1, g2, g4, b2, b4, hi0, hvn, hj, hp, hq, ht, hgv, hgl, hk]
    exact hs.upd_of s4
  · have hR : seenT l v j = (t, true) := by unfold seenT; rw [hS, if_neg hk]
    simp [g1, g2, g4, b2, b4, hi0, hvn, hj, hp, hq, ht, hgv, hgl, hk]
    refine hK _ _ ?_
    clear hK K
    rw [hR]
    simp
    refine PW.drawn (fun i => 0) [0, 2, 4, 1, 3, 5, 6, 7, 8, 9, 10] mixed_ (fun _ _ _ _ h => h) (by kernel_rfl) ?_
    simp [g1, g2, g4, b2, b4, hj, hp, hq, ht, hgv, hgl, h40, h41]
    exact hs.upd_of s4
end Go.Pv

/- Uses of macros: where a call ends. -/
namespace Go.Pv
open Go.Proofs
set_option linter.unusedVariables false
set_option linter.unusedSimpArgs false
set_option maxRecDepth 100000
set_option maxHeartbeats 1000000
def isS (t : Tk) (u : ByteArray) : Bool := decide (t.kind = 6 ∧ t.text = u)
def deepT (t : Tk) (d : Int) : Int := if isS t ⟨#[40]⟩ = true then d + 1 else if isS t ⟨#[41]⟩ = true then d - 1 else d
def callF (l : List Tk) (v : List Int) (k : Nat) : Nat → Nat → Int → Int × Bool
  | 0, _, _ => ((k : Int) + 1, false)
  | n + 1, i, d => if deepT (seenT l v i).1 d = 0 then ((i : Int) + 1, true) else callF l v k n (i + 1) (deepT (seenT l v i).1 d)
def callT (l : List Tk) (v : List Int) (k : Nat) : Int × Bool :=
  if (seenT l v ((k : Int) + 1)).2 = true ∧ isS (seenT l v ((k : Int) + 1)).1 ⟨#[40]⟩ = true then callF l v k (v.length - (k + 1)) (k + 1) 0 else ((k : Int) + 1, false)
def CLI (l : List Tk) (v : List Int) (k0 kv : VK) (k i2 : Nat) (base : St) (n : Nat) (e : Env) (s' : St) : Prop :=
  ∃ (i : Nat) (d : Int), i + n = v.length ∧ e 1 = .lit (.int .i64 k) ∧ e 2 = .pt i2 0 0 ∧ e 8 = .lit (.int .i64 d) ∧ e 9 = .lit (.int .i64 i) ∧ -(i : Int) ≤ d ∧ d ≤ i ∧ callF l v k n i d = callF l v k (v.length - (k + 1)) (k + 1) 0 ∧ base.sub s' ∧ s' i2 = some (.row 53 2 [[toks k0 l, ints kv v]])
theorem vcall_c (k0 kv : VK) (l : List Tk) (v : List Int) (k : Nat) (hv : ∀ p ∈ v, 0 ≤ p ∧ p < l.length) (hl : v.length ≤ 1000000) (hk : k < v.length) (s : St) : PCalls Tryd.prog 28 [viewV k0 kv l v, .lit (.int .i64 k)] s (fun r s' => s' = s ∧ r = .ret (.tup [.lit (.int .i64 (callT l v k).1), .lit (.bool (callT l v k).2)])) := by
  obtain ⟨C, hC⟩ : ∃ C, callT l v k = C := ⟨_, rfl⟩
  rw [hC]
  unfold callT at hC
  have w0 : IntKind.i64.wrap ((k : Int) + 1) = (k : Int) + 1 := wrap_i64 (by omega) (by omega)
  refine PCalls.of Tryd.func28 rfl (by rfl) (by simp [Tryd.ntmps28]) ?_
  refine pwC_sound _ _ _ _ ?_
  refine pwC_cut fun K hK => ?_
  simp [Tryd.ntmps28]
  intro i2 h2
  refine hK _ _ ?_
  clear hK K
  have b2 : (s.upd i2 (some (.row 53 2 [[toks k0 l, ints kv v]]))) i2 = some (.row 53 2 [[toks k0 l, ints kv v]]) := by simp
  generalize hσ : St.upd s i2 _ = σ at b2 ⊢
  have hs : s.sub σ := by rw [← hσ]; exact sub_refl.upd_of h2
  clear hσ
  refine pwC_cut fun K hK => ?_
  simp [b2, w0]
  refine (vtoken_c k0 kv l v ((k : Int) + 1) hv hl _).mono ?_
  rintro _ s1 ⟨hs1, rfl⟩
  rw [hs1]
  clear hs1 s1
  obtain ⟨T, hT⟩ : ∃ T, seenT l v ((k : Int) + 1) = T := ⟨_, rfl⟩
  rw [hT] at hC ⊢
  simp
  intro i6 h6
  have n2 : ¬ i2 = i6 := fun e => by subst e; rw [show σ i2 = none from h6] at b2; cases b2
  generalize hσ : St.upd σ _ _ = σ1
  have c2 : σ1 i2 = some (.row 53 2 [[toks k0 l, ints kv v]]) := by rw [← hσ, St.upd_ne _ _ n2]; exact b2
  have hs1 : s.sub σ1 := by rw [← hσ]; exact hs.upd_of (hs.fresh h6)
  clear hσ b2 hs
  cases hT2 : T.2 with
  | false =>
    rw [hT2] at hC
    rw [if_neg (by simp)] at hC
    subst hC
    clear hK
    simp [w0]
    exact hs1
  | true =>
    rw [hT2] at hC
    simp
    refine (gsign_c T.1 _ _).mono ?_
    rintro _ s1 ⟨hs1', rfl⟩
    rw [hs1']
    clear hs1' s1
    rw [show decide (T.1.kind = 6 ∧ T.1.text = ⟨#[40]⟩) = isS T.1 ⟨#[40]⟩ from rfl]
    cases hTs : isS T.1 ⟨#[40]⟩ with
    | false =>
      rw [hTs, if_neg (by simp)] at hC
      subst hC
      clear hK
      simp [w0]
      exact hs1
    | true =>
      rw [hTs, if_pos (by simp)] at hC
      simp
      refine hK _ _ ?_
      clear hK K
      generalize hE : Env.put _ _ _ = E
      have g1 : E 1 = .lit (.int .i64 k) := by rw [← hE]; simp
      have g2 : E 2 = .pt i2 0 0 := by rw [← hE]; simp
      clear hE
      refine pwC_cut fun K hK => ?_
      simp
      refine hK _ _ ?_
      clear hK K
      refine pwC_cut fun K hK => ?_
      refine pwC_cut fun K2 hK2 => ?_
      simp [g1, w0]
      refine hK2 _ _ ?_
      clear hK2 K2
      refine PW.loop (fun n e s' => CLI l v k0 kv k i2 s n e s') (v.length - (k + 1)) ⟨k + 1, 0, by omega, by simp [g1], by simp [g2], by simp, by simp, by omega, by omega, rfl, hs1, c2⟩ ?_
      rintro n e s' ⟨i, d, hi, e1, e2, e8, e9, hd1, hd2, hgo, hBs, d2⟩
      refine pwC_sound _ _ _ _ ?_
      by_cases hlt : i < v.length
      · have hlt' : (i : Int) < v.length := by omega
        obtain ⟨n, rfl⟩ : ∃ m, n = m + 1 := ⟨n - 1, by omega⟩
        rw [callF] at hgo
        have w1 : IntKind.i64.wrap ((i : Int) + 1) = ((i + 1 : Nat) : Int) := by rw [wrap_i64 (by omega) (by omega)]; omega
        have wp : IntKind.i64.wrap (d + 1) = d + 1 := wrap_i64 (by omega) (by omega)
        have wm : IntKind.i64.wrap (d - 1) = d - 1 := wrap_i64 (by omega) (by omega)
        clear hK
        refine pwC_cut fun K hK => ?_
        simp [e9, e2, d2, hlt, hlt']
        refine hK _ _ ?_
        clear hK K
        refine pwC_cut fun K hK => ?_
        refine pwC_cut fun K2 hK2 => ?_
        simp [e9, e2, d2]
        refine (vtoken_c k0 kv l v (i : Int) hv hl _).mono ?_
        rintro _ s1 ⟨hs1', rfl⟩
        rw [hs1']
        clear hs1' s1
        obtain ⟨U, hU⟩ : ∃ U, seenT l v (i : Int) = U := ⟨_, rfl⟩
        rw [hU] at hgo ⊢
        simp
        intro i10 h10
        refine hK2 _ _ ?_
        clear hK2 K2
        have n10 : ¬ i2 = i10 := fun e => by subst e; rw [show s' i2 = none from h10] at d2; cases d2
        generalize hE : Env.put _ _ _ = F
        have f1 : F 1 = .lit (.int .i64 k) := by rw [← hE]; simp [e1]
        have f2 : F 2 = .pt i2 0 0 := by rw [← hE]; simp [e2]
        have f8 : F 8 = .lit (.int .i64 d) := by rw [← hE]; simp [e8]
        have f9 : F 9 = .lit (.int .i64 i) := by rw [← hE]; simp [e9]
        have f10 : F 10 = .pt i10 0 0 := by rw [← hE]; simp
        clear hE
        generalize hσ : St.upd s' _ _ = σ2
        have q2 : σ2 i2 = some (.row 53 2 [[toks k0 l, ints kv v]]) := by rw [← hσ, St.upd_ne _ _ n10]; exact d2
        have q10 : σ2 i10 = some (.row 31 4 [encTC U.1]) := by rw [← hσ]; simp
        have hBs2 : s.sub σ2 := by rw [← hσ]; exact hBs.upd_of (hBs.fresh h10)
        clear hσ
        refine pwC_cut fun K2 hK2 => ?_
        have tail : ∀ F : Env, F 1 = .lit (.int .i64 k) → F 2 = .pt i2 0 0 → F 8 = .lit (.int .i64 (deepT U.1 d)) → F 9 = .lit (.int .i64 i) → K2 F σ2 := by
          intro F f1 f2 f8 f9
          refine hK2 _ _ ?_
          clear hK2 K2
          have hdd : -(i : Int) - 1 ≤ deepT U.1 d ∧ deepT U.1 d ≤ i + 1 := by unfold deepT; split <;> (try split) <;> omega
          by_cases h0 : deepT U.1 d = 0
          · rw [if_pos h0] at hgo
            have hC' : C = ((i : Int) + 1, true) := by rw [← hC, ← hgo]
            rw [hC']
            rw [h0] at f8
            clear hK
            simp [f8, f9, w1]
            exact hBs2
          · rw [if_neg h0] at hgo
            simp [f8, f9, h0]
            refine hK _ _ ?_
            clear hK K
            simp [f9, w1]
            exact ⟨n, by omega, i + 1, deepT U.1 d, by omega, by simp [f1], by simp [f2], by simp [f8], by simp, by omega, by omega, hgo, hBs2, q2⟩
        clear hK2
        simp [f10, q10]
        refine (gsign_c U.1 _ _).mono ?_
        rintro _ s1 ⟨hs1', rfl⟩
        rw [hs1']
        clear hs1' s1
        rw [show decide (U.1.kind = 6 ∧ U.1.text = ⟨#[40]⟩) = isS U.1 ⟨#[40]⟩ from rfl]
        cases hU1 : isS U.1 ⟨#[40]⟩ with
        | true =>
          simp [f8, wp]
          exact tail _ (by simp [f1]) (by simp [f2]) (by simp [deepT, hU1]) (by simp [f9])
        | false =>
          simp [f10, q10]
          refine (gsign_c U.1 _ _).mono ?_
          rintro _ s1 ⟨hs1', rfl⟩
          rw [hs1']
          clear hs1' s1
          rw [show decide (U.1.kind = 6 ∧ U.1.text = ⟨#[41]⟩) = isS U.1 ⟨#[41]⟩ from rfl]
          cases hU2 : isS U.1 ⟨#[41]⟩ with
          | true =>
            simp [f8, wm]
            exact tail _ (by simp [f1]) (by simp [f2]) (by simp [deepT, hU1, hU2]) (by simp [f9])
          | false =>
            simp
            exact tail _ (by simp [f1]) (by simp [f2]) (by simp [deepT, hU1, hU2, f8]) (by simp [f9])
      · have hlt' : ¬ (i : Int) < v.length := by omega
        have hn0 : n = 0 := by omega
        subst hn0
        have hC' : C = ((k : Int) + 1, false) := by rw [← hC, ← hgo]; rfl
        simp [e9, e2, d2, hlt, hlt']
        refine hK _ _ ?_
        clear hK K
        rw [hC']
        simp [e1, w0]
        exact hBs
end Go.Pv

/- Uses of macros: one of some signs and keys. -/
namespace Go.Pv
open Go.Proofs
set_option linter.unusedVariables false
set_option linter.unusedSimpArgs false
set_option maxRecDepth 100000
set_option maxHeartbeats 1000000
def amongB (t : Tk) (ws : List ByteArray) : Bool := (decide (t.kind = 6) || decide (t.kind = 2)) && decide (0 ≤ hasI ws t.text)
theorem among_c (k : VK) (t : Tk) (ws : List ByteArray) (hl : ws.length ≤ 1000000) (s : St) : PCalls Tryd.prog 52 [encT t, strs k ws] s (fun r s' => s' = s ∧ r = .ret (.lit (.bool (amongB t ws)))) := by
  refine PCalls.of Tryd.func52 rfl (by rfl) (by simp [Tryd.ntmps52]) ?_
  refine pwC_sound _ _ _ _ ?_
  by_cases h6 : t.kind = 6
  · simp [Tryd.ntmps52, h6, amongB]
    intro i1 h1
    refine (gcontains_c k ws t.text hl _).mono ?_
    rintro _ s1 ⟨hs1, rfl⟩
    rw [hs1]
    clear hs1 s1
    simp
    exact ⟨_, sub_refl.upd_of h1, rfl, fun _ => .inl h6⟩
  · by_cases h2 : t.kind = 2
    · simp [Tryd.ntmps52, h6, h2, amongB]
      intro i1 h1
      refine (gcontains_c k ws t.text hl _).mono ?_
      rintro _ s1 ⟨hs1, rfl⟩
      rw [hs1]
      clear hs1 s1
      simp
      exact ⟨_, sub_refl.upd_of h1, rfl, fun _ => .inr h2⟩
    · simp [Tryd.ntmps52, h6, h2, amongB]
      intro i1 h1
      exact sub_refl.upd_of h1
def typesL : List ByteArray := [⟨#[99, 104, 97, 114]⟩, ⟨#[99, 111, 110, 115, 116]⟩, ⟨#[105, 110, 116]⟩, ⟨#[108, 111, 110, 103]⟩, ⟨#[115, 104, 111, 114, 116]⟩, ⟨#[115, 105, 103, 110, 101, 100]⟩, ⟨#[115, 116, 114, 117, 99, 116]⟩, ⟨#[117, 110, 105, 111, 110]⟩, ⟨#[117, 110, 115, 105, 103, 110, 101, 100]⟩, ⟨#[118, 111, 105, 100]⟩, ⟨#[118, 111, 108, 97, 116, 105, 108, 101]⟩, ⟨#[115, 116, 97, 116, 105, 99]⟩, ⟨#[101, 120, 116, 101, 114, 110]⟩, ⟨#[101, 110, 117, 109]⟩]
def typeB (t : Tk) : Bool := decide (t.kind = 2) && amongB t typesL
theorem typeKey_c (t : Tk) (s : St) : PCalls Tryd.prog 54 [encT t] s (fun r s' => s' = s ∧ r = .ret (.lit (.bool (typeB t)))) := by
  refine PCalls.of Tryd.func54 rfl (by rfl) (by simp [Tryd.ntmps54]) ?_
  refine pwC_sound _ _ _ _ ?_
  by_cases h2 : t.kind = 2
  · obtain ⟨tk, tb, tt, ta⟩ := t
    have h2' : tk = 2 := h2
    subst h2'
    simp [Tryd.ntmps54, typeB]
    intro i1 h1
    refine (among_c .tight ⟨2, tb, tt, ta⟩ typesL (by decide) _).mono ?_
    rintro _ s1 ⟨hs1, rfl⟩
    rw [hs1]
    clear hs1 s1
    simp
    exact sub_refl.upd_of h1
  · simp [Tryd.ntmps54, h2, typeB]
    intro i1 h1
    exact sub_refl.upd_of h1
def capBad (c : Int) (i : Nat) : Bool := (decide (c < 65) || decide (90 < c)) && decide (c ≠ 95) && (decide (c < 48) || decide (57 < c) || decide (i = 0))
def capF (s : ByteArray) : Nat → Nat → Bool → Bool
  | 0, _, b => b
  | n + 1, i, b => if capBad (bt s i) i = true then false else capF s n (i + 1) (b || (decide (65 ≤ bt s i) && decide (bt s i ≤ 90)))
def capB (s : ByteArray) : Bool := capF s s.size 0 false
def CPI (u : ByteArray) (base : St) (n : Nat) (e : Env) (s' : St) : Prop :=
  ∃ (j : Nat) (b : Bool), j + n = u.size ∧ e 0 = .lit (.string u) ∧ e 3 = .lit (.bool b) ∧ e 7 = .lit (.int .i64 (u.size : Nat)) ∧ e 8 = .lit (.int .i64 j) ∧ capF u n j b = capB u ∧ s' = base
theorem capital_c (u : ByteArray) (hu : u.size ≤ 1000000) (s : St) : PCalls Tryd.prog 53 [.lit (.string u)] s (fun r s' => s' = s ∧ r = .ret (.lit (.bool (capB u)))) := by
  refine PCalls.of Tryd.func53 rfl (by rfl) (by simp [Tryd.ntmps53]) ?_
  refine pwC_sound _ _ _ _ ?_
  refine pwC_cut fun K hK => ?_
  simp [Tryd.ntmps53]
  refine hK _ _ ?_
  clear hK K
  refine pwC_cut fun K hK => ?_
  simp
  refine hK _ _ ?_
  clear hK K
  refine pwC_cut fun K hK => ?_
  simp
  refine PW.loop (fun n e s' => CPI u s n e s') u.size ⟨0, false, by omega, by simp, by simp, by simp, by simp, rfl, rfl⟩ ?_
  rintro n e s' ⟨j, b, hj, e0, e3, e7, e8, hgo, rfl⟩
  refine pwC_sound _ _ _ _ ?_
  by_cases hlt : j < u.size
  · have hlt' : (j : Int) < u.size := by omega
    obtain ⟨n, rfl⟩ : ∃ m, n = m + 1 := ⟨n - 1, by omega⟩
    rw [capF] at hgo
    have w1 : IntKind.i64.wrap ((j : Int) + 1) = ((j + 1 : Nat) : Int) := by rw [wrap_i64 (by omega) (by omega)]; omega
    clear hK
    refine pwC_cut fun K hK => ?_
    simp [e7, e8, hlt, hlt']
    refine hK _ _ ?_
    clear hK K
    refine pwC_cut fun K hK => ?_
    simp
    refine hK _ _ ?_
    clear hK K
    refine pwC_cut fun K hK => ?_
    refine pwC_cut fun K2 hK2 => ?_
    simp [e8]
    refine hK2 _ _ ?_
    clear hK2 K2
    refine pwC_cut fun K2 hK2 => ?_
    simp [e0, hlt]
    refine hK2 _ _ ?_
    clear hK2 K2
    generalize hcc : bt u j = c at *
    generalize hE : Env.put _ _ _ = F
    have f0 : F 0 = .lit (.string u) := by rw [← hE]; simp [e0]
    have f3 : F 3 = .lit (.bool b) := by rw [← hE]; simp [e3]
    have f4 : F 4 = .lit (.int .i64 j) := by rw [← hE]; simp
    have f5 : F 5 = .lit (.int .u8 c) := by rw [← hE]; simp
    have f7 : F 7 = .lit (.int .i64 (u.size : Nat)) := by rw [← hE]; simp [e7]
    have f8 : F 8 = .lit (.int .i64 j) := by rw [← hE]; simp [e8]
    clear hE
    refine pwC_cut fun K2 hK2 => ?_
    have tail : ∀ F : Env, F 0 = .lit (.string u) → F 3 = .lit (.bool (b || (decide (65 ≤ c) && decide (c ≤ 90)))) → F 4 = .lit (.int .i64 j) → F 5 = .lit (.int .u8 c) → F 7 = .lit (.int .i64 (u.size : Nat)) → F 8 = .lit (.int .i64 j) → K2 F s' := by
      intro F f0 f3 f4 f5 f7 f8
      refine hK2 _ _ ?_
      clear hK2 K2
      cases hb : capBad c j with
      | true =>
        rw [hb, if_pos rfl] at hgo
        clear hK
        rw [← hgo]
        have hbb : (c < 65 ∨ 90 < c) ∧ c ≠ 95 ∧ (c < 48 ∨ 57 < c ∨ j = 0) := by simp [capBad] at hb; omega
        obtain ⟨q1, q2, q3⟩ := hbb
        by_cases h1 : c < 65
        · by_cases h4 : c < 48
          · simp [f4, f5, h1, h4, q2]
          · by_cases h5 : 57 < c
            · simp [f4, f5, h1, h4, h5, q2]
            · have h6 : j = 0 := by omega
              simp [f4, f5, h1, h4, h5, h6, q2]
        · have h2 : 90 < c := by omega
          have h4 : ¬ c < 48 := by omega
          have h5 : 57 < c := by omega
          simp [f4, f5, h1, h2, h4, h5, q2]
      | false =>
        rw [hb, if_neg (by simp)] at hgo
        have nxt : ∀ F : Env, F 0 = .lit (.string u) → F 3 = .lit (.bool (b || (decide (65 ≤ c) && decide (c ≤ 90)))) → F 7 = .lit (.int .i64 (u.size : Nat)) → F 8 = .lit (.int .i64 j) → K F s' := by
          intro F f0 f3 f7 f8
          refine hK _ _ ?_
          clear hK K
          simp [f8, w1]
          exact ⟨n, by omega, j + 1, _, by omega, by simp [f0], by simp [f3], by simp [f7], by simp, hgo, rfl⟩
        have hbb : ¬ ((c < 65 ∨ 90 < c) ∧ c ≠ 95 ∧ (c < 48 ∨ 57 < c ∨ j = 0)) := by simp [capBad] at hb; omega
        clear hK
        by_cases h1 : c < 65
        · by_cases h4 : c < 48
          · omega
          · have h5 : ¬ 57 < c := by omega
            have h6 : ¬ j = 0 := by omega
            have h3 : ¬ c = 95 := by omega
            simp [f4, f5, h1, h3, h4, h5, h6]
            exact nxt _ (by simp [f0]) (by simp [f3]) (by simp [f7]) (by simp [f8])
        · by_cases h2 : 90 < c
          · have h3 : c = 95 := by omega
            simp [f4, f5, h1, h2, h3]
            exact nxt _ (by simp [f0]) (by simp [f3]) (by simp [f7]) (by simp [f8])
          · simp [f4, f5, h1, h2]
            exact nxt _ (by simp [f0]) (by simp [f3]) (by simp [f7]) (by simp [f8])
    clear hK2
    cases b with
    | true =>
      simp [f3]
      exact tail _ (by simp [f0]) (by simp) (by simp [f4]) (by simp [f5]) (by simp [f7]) (by simp [f8])
    | false =>
      by_cases h1 : 65 ≤ c
      · by_cases h2 : c ≤ 90
        · simp [f3, f5, h1, h2]
          exact tail _ (by simp [f0]) (by simp [h1, h2]) (by simp [f4]) (by simp [f5]) (by simp [f7]) (by simp [f8])
        · simp [f3, f5, h1, h2]
          exact tail _ (by simp [f0]) (by simp [h1, h2]) (by simp [f4]) (by simp [f5]) (by simp [f7]) (by simp [f8])
      · simp [f3, f5, h1]
        exact tail _ (by simp [f0]) (by simp [h1]) (by simp [f4]) (by simp [f5]) (by simp [f7]) (by simp [f8])
  · have hlt' : ¬ (j : Int) < u.size := by omega
    have hn0 : n = 0 := by omega
    subst hn0
    simp [e7, e8, hlt, hlt']
    refine hK _ _ ?_
    clear hK K
    simp [e3]
    exact ⟨_, sub_refl, rfl, hgo⟩
end Go.Pv

/- Uses of macros: what is around a use; its rules. -/
namespace Go.Pv
open Go.Proofs
set_option linter.unusedVariables false
set_option linter.unusedSimpArgs false
set_option maxRecDepth 100000
set_option maxHeartbeats 1000000
theorem sc_bool {P : Program} {imp : List Nat} {f : FuncId} {args : List SV} {st : SS} {b : St} {K : SV → SS → St → Prop} {Kp : List PanicEntry → SS → St → Prop} {ps : List PV} {v : Bool} (h : ∀ s, b.sub s → PCalls P f ps s fun r s' => s' = s ∧ r = .ret (.lit (.bool v))) (ha : args = pvs ps) (hl : ps.all PV.live = true)
    (hT : v = true → K (.av (.pv (.lit (.bool true)))) st b) (hF : v = false → K (.av (.pv (.lit (.bool false)))) st b) : SC P imp f args st b K Kp := by
  refine sc_pure h ha hl ?_
  cases v with
  | true => exact hT rfl
  | false => exact hF rfl
structure Arnd where
  name : ByteArray
  call : Bool
  last : Tk
  next : Tk
  first : Bool
  outer : Bool
@[reducible] def encA (x : Arnd) : PV := .agg ([.lit (.string x.name), .lit (.bool x.call)] ++ encTC x.last ++ encTC x.next ++ [.lit (.bool x.first), .lit (.bool x.outer)])
@[reducible] def w_lastLoop : List ByteArray := [⟨#[59]⟩, ⟨#[123]⟩, ⟨#[125]⟩, ⟨#[41]⟩, ⟨#[101, 108, 115, 101]⟩, ⟨#[100, 111]⟩, ⟨#[58]⟩]
@[reducible] def w_open : List ByteArray := [⟨#[123]⟩]
@[reducible] def w_end : List ByteArray := [⟨#[59]⟩, ⟨#[125]⟩]
@[reducible] def w_lastSt : List ByteArray := [⟨#[59]⟩, ⟨#[123]⟩, ⟨#[125]⟩, ⟨#[101, 108, 115, 101]⟩, ⟨#[100, 111]⟩, ⟨#[58]⟩]
@[reducible] def w_ew : List ByteArray := [⟨#[101, 108, 115, 101]⟩, ⟨#[119, 104, 105, 108, 101]⟩]
@[reducible] def w_nx1 : List ByteArray := [⟨#[123]⟩, ⟨#[125]⟩, ⟨#[42]⟩, ⟨#[43, 43]⟩, ⟨#[45, 45]⟩]
@[reducible] def w_nx2 : List ByteArray := [⟨#[123]⟩, ⟨#[125]⟩, ⟨#[43, 43]⟩, ⟨#[45, 45]⟩]
@[reducible] def w_cl : List ByteArray := [⟨#[41]⟩, ⟨#[93]⟩]
@[reducible] def w_nx3 : List ByteArray := [⟨#[59]⟩, ⟨#[123]⟩, ⟨#[44]⟩, ⟨#[61]⟩]
def loopB (x : Arnd) : Bool := x.call && amongB x.next w_open && !x.first && amongB x.last w_lastLoop
def declB (x : Arnd) : Bool := x.call && x.outer && capB x.name && (x.first || amongB x.last w_end) && !amongB x.next w_open
def keyB (x : Arnd) : Bool := decide (x.next.kind = 2) && !amongB x.next w_ew
def stmtB (x : Arnd) : Bool := bif x.first || !amongB x.last w_lastSt || !capB x.name then false else bif x.call then keyB x || decide (x.next.kind = 1) || amongB x.next w_nx1 else keyB x && !typeB x.next || amongB x.next w_nx2
def attrB (x : Arnd) : Bool := bif !capB x.name then false else bif !x.first && (amongB x.last w_cl || decide (x.last.kind = 1)) && amongB x.next w_nx3 then true else !x.call && (decide (x.next.kind = 1) || typeB x.next) && (x.first || amongB x.last w_end)
theorem gloop_c (x : Arnd) (s : St) : PCalls Tryd.prog 30 [encA x] s (fun r s' => s' = s ∧ r = .ret (.lit (.bool (loopB x)))) := by
  obtain ⟨n, c, l, y, f, o⟩ := x
  refine PCalls.fun (D := []) ti_ok Tryd.func30 rfl (by kernel_rfl) ?_
  cases c with
  | false =>
    exact ⟨rfl, by (try dsimp only at *); first | (simp [loopB]; done) | omega⟩
  | true =>
    refine sc_bool (fun s _ => among_c .tight _ w_open (by decide) s) rfl rfl (fun h1 => ?_) (fun h1 => ?_)
    · cases f with
      | false =>
        refine sc_bool (fun s _ => among_c .tight _ w_lastLoop (by decide) s) rfl rfl (fun h2 => ?_) (fun h2 => ?_)
        · exact ⟨rfl, by (try dsimp only at *); first | (simp [loopB, h1, h2]; done) | omega⟩
        · exact ⟨rfl, by (try dsimp only at *); first | (simp [loopB, h1, h2]; done) | omega⟩
      | true =>
        exact ⟨rfl, by (try dsimp only at *); first | (simp [loopB, h1]; done) | omega⟩
    · exact ⟨rfl, by (try dsimp only at *); first | (simp [loopB, h1]; done) | omega⟩
theorem gdecl_c (x : Arnd) (hn : x.name.size ≤ 1000000) (s : St) : PCalls Tryd.prog 31 [encA x] s (fun r s' => s' = s ∧ r = .ret (.lit (.bool (declB x)))) := by
  obtain ⟨n, c, l, y, f, o⟩ := x
  refine PCalls.fun (D := []) ti_ok Tryd.func31 rfl (by kernel_rfl) ?_
  cases c with
  | false =>
    exact ⟨rfl, by (try dsimp only at *); first | (simp [declB]; done) | omega⟩
  | true =>
    cases o with
    | false =>
      exact ⟨rfl, by (try dsimp only at *); first | (simp [declB]; done) | omega⟩
    | true =>
      refine sc_bool (fun s _ => capital_c n hn s) rfl rfl (fun h1 => ?_) (fun h1 => ?_)
      · cases f with
        | false =>
          refine sc_bool (fun s _ => among_c .tight _ w_end (by decide) s) rfl rfl (fun h2 => ?_) (fun h2 => ?_)
          · refine sc_bool (fun s _ => among_c .tight _ w_open (by decide) s) rfl rfl (fun h3 => ?_) (fun h3 => ?_)
            · exact ⟨rfl, by (try dsimp only at *); first | (simp [declB, h1, h2, h3]; done) | omega⟩
            · exact ⟨rfl, by (try dsimp only at *); first | (simp [declB, h1, h2, h3]; done) | omega⟩
          · exact ⟨rfl, by (try dsimp only at *); first | (simp [declB, h1, h2]; done) | omega⟩
        | true =>
          refine sc_bool (fun s _ => among_c .tight _ w_open (by decide) s) rfl rfl (fun h3 => ?_) (fun h3 => ?_)
          · exact ⟨rfl, by (try dsimp only at *); first | (simp [declB, h1, h3]; done) | omega⟩
          · exact ⟨rfl, by (try dsimp only at *); first | (simp [declB, h1, h3]; done) | omega⟩
      · exact ⟨rfl, by (try dsimp only at *); first | (simp [declB, h1]; done) | omega⟩
theorem gstmt_c (x : Arnd) (hn : x.name.size ≤ 1000000) (s : St) : PCalls Tryd.prog 32 [encA x] s (fun r s' => s' = s ∧ r = .ret (.lit (.bool (stmtB x)))) := by
  obtain ⟨n, c, l, y, f, o⟩ := x
  refine PCalls.fun (D := []) ti_ok Tryd.func32 rfl (by kernel_rfl) ?_
  cases f with
  | false =>
    refine sc_bool (fun s _ => among_c .tight _ w_lastSt (by decide) s) rfl rfl (fun h1 => ?_) (fun h1 => ?_)
    · refine sc_bool (fun s _ => capital_c n hn s) rfl rfl (fun h2 => ?_) (fun h2 => ?_)
      · rintro (_ | _) h3
        · replace h3 := of_decide_eq_false h3
          cases c with
          | false =>
            refine sc_bool (fun s _ => among_c .tight _ w_nx2 (by decide) s) rfl rfl (fun h6 => ?_) (fun h6 => ?_)
            · exact ⟨rfl, by (try dsimp only at *); first | (simp [stmtB, keyB, h1, h2, h3, h6]; done) | omega⟩
            · exact ⟨rfl, by (try dsimp only at *); first | (simp [stmtB, keyB, h1, h2, h3, h6]; done) | omega⟩
          | true =>
            rintro (_ | _) h5
            · replace h5 := of_decide_eq_false h5
              refine sc_bool (fun s _ => among_c .tight _ w_nx1 (by decide) s) rfl rfl (fun h6 => ?_) (fun h6 => ?_)
              · exact ⟨rfl, by (try dsimp only at *); first | (simp [stmtB, keyB, h1, h2, h3, h5, h6]; done) | omega⟩
              · exact ⟨rfl, by (try dsimp only at *); first | (simp [stmtB, keyB, h1, h2, h3, h5, h6]; done) | omega⟩
            · replace h5 := of_decide_eq_true h5
              exact ⟨rfl, by (try dsimp only at *); first | (simp [stmtB, keyB, h1, h2, h3, h5]; done) | omega⟩
        · replace h3 := of_decide_eq_true h3
          refine sc_bool (fun s _ => among_c .tight _ w_ew (by decide) s) rfl rfl (fun h4 => ?_) (fun h4 => ?_)
          · cases c with
            | false =>
              refine sc_bool (fun s _ => among_c .tight _ w_nx2 (by decide) s) rfl rfl (fun h6 => ?_) (fun h6 => ?_)
              · exact ⟨rfl, by (try dsimp only at *); first | (simp [stmtB, keyB, h1, h2, h3, h4, h6]; done) | omega⟩
              · exact ⟨rfl, by (try dsimp only at *); first | (simp [stmtB, keyB, h1, h2, h3, h4, h6]; done) | omega⟩
            | true =>
              rintro (_ | _) h5
              · replace h5 := of_decide_eq_false h5
                refine sc_bool (fun s _ => among_c .tight _ w_nx1 (by decide) s) rfl rfl (fun h6 => ?_) (fun h6 => ?_)
                · exact ⟨rfl, by (try dsimp only at *); first | (simp [stmtB, keyB, h1, h2, h3, h4, h5, h6]; done) | omega⟩
                · exact ⟨rfl, by (try dsimp only at *); first | (simp [stmtB, keyB, h1, h2, h3, h4, h5, h6]; done) | omega⟩
              · replace h5 := of_decide_eq_true h5
                exact ⟨rfl, by (try dsimp only at *); first | (simp [stmtB, keyB, h1, h2, h3, h4, h5]; done) | omega⟩
          · cases c with
            | false =>
              refine sc_bool (fun s _ => typeKey_c _ s) rfl rfl (fun h7 => ?_) (fun h7 => ?_)
              · refine sc_bool (fun s _ => among_c .tight _ w_nx2 (by decide) s) rfl rfl (fun h6 => ?_) (fun h6 => ?_)
                · exact ⟨rfl, by (try dsimp only at *); first | (simp [stmtB, keyB, h1, h2, h3, h4, h7, h6]; done) | omega⟩
                · exact ⟨rfl, by (try dsimp only at *); first | (simp [stmtB, keyB, h1, h2, h3, h4, h7, h6]; done) | omega⟩
              · exact ⟨rfl, by (try dsimp only at *); first | (simp [stmtB, keyB, h1, h2, h3, h4, h7]; done) | omega⟩
            | true =>
              exact ⟨rfl, by (try dsimp only at *); first | (simp [stmtB, keyB, h1, h2, h3, h4]; done) | omega⟩
      · exact ⟨rfl, by (try dsimp only at *); first | (simp [stmtB, keyB, h1, h2]; done) | omega⟩
    · exact ⟨rfl, by (try dsimp only at *); first | (simp [stmtB, keyB, h1]; done) | omega⟩
  | true =>
    exact ⟨rfl, by (try dsimp only at *); first | (simp [stmtB, keyB]; done) | omega⟩
theorem gattr_c (x : Arnd) (hn : x.name.size ≤ 1000000) (s : St) : PCalls Tryd.prog 33 [encA x] s (fun r s' => s' = s ∧ r = .ret (.lit (.bool (attrB x)))) := by
  obtain ⟨n, c, l, y, f, o⟩ := x
  refine PCalls.fun (D := []) ti_ok Tryd.func33 rfl (by kernel_rfl) ?_
  refine sc_bool (fun s _ => capital_c n hn s) rfl rfl (fun h1 => ?_) (fun h1 => ?_)
  · cases f with
    | false =>
      refine sc_bool (fun s _ => among_c .tight _ w_cl (by decide) s) rfl rfl (fun h2 => ?_) (fun h2 => ?_)
      · refine sc_bool (fun s _ => among_c .tight _ w_nx3 (by decide) s) rfl rfl (fun h5 => ?_) (fun h5 => ?_)
        · exact ⟨rfl, by (try dsimp only at *); first | (simp [attrB, h1, h2, h5]; done) | omega⟩
        · cases c with
          | false =>
            rintro (_ | _) h6
            · replace h6 := of_decide_eq_false h6
              refine sc_bool (fun s _ => typeKey_c _ s) rfl rfl (fun h7 => ?_) (fun h7 => ?_)
              · refine sc_bool (fun s _ => among_c .tight _ w_end (by decide) s) rfl rfl (fun h8 => ?_) (fun h8 => ?_)
                · exact ⟨rfl, by (try dsimp only at *); first | (simp [attrB, h1, h2, h5, h6, h7, h8]; done) | omega⟩
                · exact ⟨rfl, by (try dsimp only at *); first | (simp [attrB, h1, h2, h5, h6, h7, h8]; done) | omega⟩
              · exact ⟨rfl, by (try dsimp only at *); first | (simp [attrB, h1, h2, h5, h6, h7]; done) | omega⟩
            · replace h6 := of_decide_eq_true h6
              refine sc_bool (fun s _ => among_c .tight _ w_end (by decide) s) rfl rfl (fun h8 => ?_) (fun h8 => ?_)
              · exact ⟨rfl, by (try dsimp only at *); first | (simp [attrB, h1, h2, h5, h6, h8]; done) | omega⟩
              · exact ⟨rfl, by (try dsimp only at *); first | (simp [attrB, h1, h2, h5, h6, h8]; done) | omega⟩
          | true =>
            exact ⟨rfl, by (try dsimp only at *); first | (simp [attrB, h1, h2, h5]; done) | omega⟩
      · rintro (_ | _) h3
        · replace h3 := of_decide_eq_false h3
          cases c with
          | false =>
            rintro (_ | _) h6
            · replace h6 := of_decide_eq_false h6
              refine sc_bool (fun s _ => typeKey_c _ s) rfl rfl (fun h7 => ?_) (fun h7 => ?_)
              · refine sc_bool (fun s _ => among_c .tight _ w_end (by decide) s) rfl rfl (fun h8 => ?_) (fun h8 => ?_)
                · exact ⟨rfl, by (try dsimp only at *); first | (simp [attrB, h1, h2, h3, h6, h7, h8]; done) | omega⟩
                · exact ⟨rfl, by (try dsimp only at *); first | (simp [attrB, h1, h2, h3, h6, h7, h8]; done) | omega⟩
              · exact ⟨rfl, by (try dsimp only at *); first | (simp [attrB, h1, h2, h3, h6, h7]; done) | omega⟩
            · replace h6 := of_decide_eq_true h6
              refine sc_bool (fun s _ => among_c .tight _ w_end (by decide) s) rfl rfl (fun h8 => ?_) (fun h8 => ?_)
              · exact ⟨rfl, by (try dsimp only at *); first | (simp [attrB, h1, h2, h3, h6, h8]; done) | omega⟩
              · exact ⟨rfl, by (try dsimp only at *); first | (simp [attrB, h1, h2, h3, h6, h8]; done) | omega⟩
          | true =>
            exact ⟨rfl, by (try dsimp only at *); first | (simp [attrB, h1, h2, h3]; done) | omega⟩
        · replace h3 := of_decide_eq_true h3
          refine sc_bool (fun s _ => among_c .tight _ w_nx3 (by decide) s) rfl rfl (fun h5 => ?_) (fun h5 => ?_)
          · exact ⟨rfl, by (try dsimp only at *); first | (simp [attrB, h1, h2, h3, h5]; done) | omega⟩
          · cases c with
            | false =>
              rintro (_ | _) h6
              · replace h6 := of_decide_eq_false h6
                refine sc_bool (fun s _ => typeKey_c _ s) rfl rfl (fun h7 => ?_) (fun h7 => ?_)
                · refine sc_bool (fun s _ => among_c .tight _ w_end (by decide) s) rfl rfl (fun h8 => ?_) (fun h8 => ?_)
                  · exact ⟨rfl, by (try dsimp only at *); first | (simp [attrB, h1, h2, h3, h5, h6, h7, h8]; done) | omega⟩
                  · exact ⟨rfl, by (try dsimp only at *); first | (simp [attrB, h1, h2, h3, h5, h6, h7, h8]; done) | omega⟩
                · exact ⟨rfl, by (try dsimp only at *); first | (simp [attrB, h1, h2, h3, h5, h6, h7]; done) | omega⟩
              · replace h6 := of_decide_eq_true h6
                refine sc_bool (fun s _ => among_c .tight _ w_end (by decide) s) rfl rfl (fun h8 => ?_) (fun h8 => ?_)
                · exact ⟨rfl, by (try dsimp only at *); first | (simp [attrB, h1, h2, h3, h5, h6, h8]; done) | omega⟩
                · exact ⟨rfl, by (try dsimp only at *); first | (simp [attrB, h1, h2, h3, h5, h6, h8]; done) | omega⟩
            | true =>
              exact ⟨rfl, by (try dsimp only at *); first | (simp [attrB, h1, h2, h3, h5]; done) | omega⟩
    | true =>
      cases c with
      | false =>
        rintro (_ | _) h6
        · replace h6 := of_decide_eq_false h6
          refine sc_bool (fun s _ => typeKey_c _ s) rfl rfl (fun h7 => ?_) (fun h7 => ?_)
          · exact ⟨rfl, by (try dsimp only at *); first | (simp [attrB, h1, h6, h7]; done) | omega⟩
          · exact ⟨rfl, by (try dsimp only at *); first | (simp [attrB, h1, h6, h7]; done) | omega⟩
        · replace h6 := of_decide_eq_true h6
          exact ⟨rfl, by (try dsimp only at *); first | (simp [attrB, h1, h6]; done) | omega⟩
      | true =>
        exact ⟨rfl, by (try dsimp only at *); first | (simp [attrB, h1]; done) | omega⟩
  · exact ⟨rfl, by (try dsimp only at *); first | (simp [attrB, h1]; done) | omega⟩
end Go.Pv

/- Uses of macros: what kind a use is of. -/
namespace Go.Pv
open Go.Proofs
set_option linter.unusedVariables false
set_option linter.unusedSimpArgs false
set_option maxRecDepth 100000
set_option maxHeartbeats 1000000
/-- Ascending places of tokens. -/
structure AscV (n : Nat) (v : List Int) : Prop where
  rng : ∀ p ∈ v, 0 ≤ p ∧ p < n
  up : ∀ (i : Nat) (p q : Int), v[i]? = some p → v[i + 1]? = some q → p < q
def openV (l : List Tk) (v : List Int) (kk kv : VK) (k : Nat) : PV := match seenAt l v k with
  | some t => if t.kind = 1 then .tup [viewV kk kv l v, .lit (.int .i64 0)] else .tup [.agg [.vec .nil [], .vec .nil []], .lit (.int .i64 4)]
  | none => .tup [.agg [.vec .nil [], .vec .nil []], .lit (.int .i64 4)]
theorem incN {i : Nat} (h : i ≤ 1000000000) : IntKind.i64.wrap ((i : Int) + 1) = ((i + 1 : Nat) : Int) := by rw [wrap_i64 (by omega) (by omega)]; omega
@[reducible] def oenv (kk kv : VK) (l : List Tk) (v : List Int) (k i : Nat) : SE := [(0, .av (.pv (toks kk l))), (1, .av (.pv (ints kv v))), (2, .av (.pv (.lit (.int .i64 k)))), (6, .av (.cell 0 0)), (10, .av (.pv (ints kv v))), (11, .av (.pv (.lit (.int .i64 ((v.map fun n => PV.lit (.int .i64 n)).length : Nat))))), (12, .av (.pv (.lit (.int .i64 (i : Nat)))))]
theorem gopen_c (kk kv : VK) (l : List Tk) (v : List Int) (k : Nat) (hv : AscV l.length v) (hl : v.length ≤ 1000000) (hk : k < v.length) (s : St) : PCalls Tryd.prog 14 [toks kk l, ints kv v, .lit (.int .i64 k)] s (fun r s' => s' = s ∧ r = .ret (openV l v kk kv k)) := by
  refine PCalls.fun (D := []) ti_ok Tryd.func14 rfl (by kernel_rfl) ?_
  refine sw_loop (D := []) ti_ok (by kernel_rfl) (fun n env st b => ∃ i : Nat, i + n = v.length ∧ b = s ∧ env = oenv kk kv l v k i ∧ st = [some (.cel 53 2 [.pv (.vec .nil []), .pv (.vec .nil [])])]) v.length ⟨[0], [0, 1, 2, 6, 10, 11, 12], rfl, 0, by omega, rfl, rfl, rfl⟩ ?_
  rintro n env st b ⟨i, hi, rfl, rfl, rfl⟩
  rintro (_ | _) ht
  · rw [List.length_map] at ht
    rintro (_ | _) h1
    rotate_left
    · have := of_decide_eq_true h1; omega
    rintro (_ | _) h2
    rotate_left
    · have := of_decide_eq_true h2; simp at this; omega
    have hg := List.getElem?_eq_getElem hk
    obtain ⟨p, hp⟩ : ∃ p, v[k] = p := ⟨_, rfl⟩
    rw [hp] at hg
    have hr := hv.rng p (List.mem_of_getElem? hg)
    obtain ⟨q, rfl⟩ : ∃ q : Nat, p = q := ⟨p.toNat, by omega⟩
    have hq : q < l.length := by omega
    have hgl := List.getElem?_eq_getElem hq
    obtain ⟨t, ht2⟩ : ∃ t, l[q] = t := ⟨_, rfl⟩
    rw [ht2] at hgl
    have hS : seenAt l v k = if t.kind = 0 then none else some t := by
      unfold seenAt
      rw [if_neg (by omega)]
      simp [List.getD, hg, hgl]
    refine ⟨.lit (.int .i64 (q : Nat)), ⟨by omega, by rw [Int.toNat_natCast, List.getElem?_map, hg]; rfl, rfl⟩, ?_⟩
    refine ⟨encT t, ⟨by omega, by rw [Int.toNat_natCast, List.getElem?_map, hgl]; rfl, rfl⟩, ?_⟩
    rintro (_ | _) h3
    · have h3 : ¬ t.kind = 1 := of_decide_eq_false h3
      exact ⟨rfl, by
        unfold openV
        rw [hS]
        by_cases h0 : t.kind = 0
        · rw [if_pos h0]; rfl
        · rw [if_neg h0]; simp only [h3, if_false]; rfl⟩
    · have h3 : t.kind = 1 := of_decide_eq_true h3
      exact ⟨rfl, by unfold openV; rw [hS, if_neg (by omega)]; simp only [h3, if_true]; rfl⟩
  rw [List.length_map] at ht
  have hlt : i < v.length := by have := of_decide_eq_true ht; omega
  have hg := List.getElem?_eq_getElem hlt
  obtain ⟨p, hp⟩ : ∃ p, v[i] = p := ⟨_, rfl⟩
  rw [hp] at hg
  have hr := hv.rng p (List.mem_of_getElem? hg)
  refine ⟨.lit (.int .i64 p), ⟨by omega, by rw [Int.toNat_natCast, List.getElem?_map, hg]; rfl, rfl⟩, ?_⟩
  rintro (_ | _) h1
  rotate_left
  · have := of_decide_eq_true h1; omega
  rintro (_ | _) h2
  rotate_left
  · have := of_decide_eq_true h2; simp at this; omega
  rintro (_ | _) h3
  · exact ⟨n - 1, by omega, [0], [0, 1, 2, 6, 10, 11, 12], rfl, i + 1, by omega, rfl, by unfold oenv; rw [← incN (show i ≤ 1000000000 by omega)]; rfl, rfl⟩
  have h3 : 0 < i := by have := of_decide_eq_true h3; omega
  obtain ⟨j, rfl⟩ : ∃ j, i = j + 1 := ⟨i - 1, by omega⟩
  have hj : j < v.length := by omega
  have hgj := List.getElem?_eq_getElem hj
  have hup := hv.up j _ p hgj hg
  refine ⟨.lit (.int .i64 v[j]), ⟨by rw [wrap_i64 (by omega) (by omega)]; omega, by rw [wrap_i64 (by omega) (by omega), show (((j + 1 : Nat) : Int) - 1).toNat = j by omega, List.getElem?_map, hgj]; rfl, rfl⟩, ?_⟩
  rintro (_ | _) h4
  rotate_left
  · have := of_decide_eq_true h4; omega
  exact ⟨n - 1, by omega, [0], [0, 1, 2, 6, 10, 11, 12], rfl, j + 1 + 1, by omega, rfl, by unfold oenv; rw [← incN (show j + 1 ≤ 1000000000 by omega)]; rfl, rfl⟩
def depthF (l : List Tk) (v : List Int) : Nat → Int
  | 0 => 0
  | i + 1 => if isS (seenT l v (i : Nat)).1 ⟨#[123]⟩ = true then depthF l v i + 1 else if isS (seenT l v (i : Nat)).1 ⟨#[125]⟩ = true then max 0 (depthF l v i - 1) else depthF l v i
def guessA (x : Arnd) : Int := if loopB x = true then 1 else if declB x = true then 4 else if stmtB x = true then 2 else if attrB x = true then 3 else 0
def arndT (l : List Tk) (v : List Int) (k : Nat) : Arnd := ⟨(seenT l v k).1.text, (callT l v k).2, (seenT l v ((k : Int) - 1)).1, (seenT l v (callT l v k).1).1, !(seenT l v ((k : Int) - 1)).2, decide (depthF l v k = 0)⟩
def guessT (l : List Tk) (v : List Int) (k : Nat) : Int := guessA (arndT l v k)
theorem depthF_rng (l : List Tk) (v : List Int) : ∀ i, 0 ≤ depthF l v i ∧ depthF l v i ≤ i
  | 0 => ⟨by show (0:Int) ≤ 0; omega, by show (0:Int) ≤ 0; omega⟩
  | i + 1 => by
    have := depthF_rng l v i
    unfold depthF
    split
    · omega
    · split <;> omega
theorem seenT_text {l : List Tk} {n : Nat} (h : ∀ t ∈ l, t.text.size ≤ n) (v : List Int) (i : Int) : (seenT l v i).1.text.size ≤ n := by
  unfold seenT
  split
  · rename_i t ht
    unfold seenAt at ht
    split at ht
    · cases ht
    · split at ht
      · rename_i u hu
        split at ht
        · cases ht
        · cases ht; exact h _ (List.mem_of_getElem? hu)
      · cases ht
  · exact Nat.zero_le _
@[reducible] def gvL (kk kv : VK) (l : List Tk) (v : List Int) : Option Loc := some (.cel 53 2 [.pv (toks kk l), .pv (ints kv v)])
@[reducible] def gaL (t : ByteArray) (c : Bool) (x y : Tk) (f : Bool) : Option Loc := some (.cel 74 12 (([PV.lit (.string t), PV.lit (.bool c)] ++ encTC x ++ encTC y ++ [PV.lit (.bool f), PV.lit (.bool false)]).map .pv))
@[reducible] def genv2 (k : Nat) (i d : Int) : SE := [(2, .av (.cell 0 0)), (9, .av (.cell 1 0)), (12, .av (.pv (.lit (.int .i64 d)))), (51, .av (.pv (.lit (.int .i64 (k : Nat))))), (52, .av (.pv (.lit (.int .i64 i))))]
theorem gguess_c (kk kv : VK) (l : List Tk) (v : List Int) (k : Nat) (hv : AscV l.length v) (hx : ∀ t ∈ l, t.text.size ≤ 1000000) (hl : v.length ≤ 1000000) (hk : k < v.length) (s : St) : PCalls Tryd.prog 15 [viewV kk kv l v, .lit (.int .i64 k)] s (fun r s' => s' = s ∧ r = .ret (.lit (.int .i64 (guessT l v k)))) := by
  obtain ⟨G, hG⟩ : ∃ G, guessT l v k = G := ⟨_, rfl⟩
  rw [hG]
  have w1 : IntKind.i64.wrap ((k : Int) - 1) = (k : Int) - 1 := wrap_i64 (by omega) (by omega)
  have hn := seenT_text hx v k
  unfold guessT arndT at hG
  obtain ⟨X, hX⟩ : ∃ X, seenT l v k = X := ⟨_, rfl⟩
  obtain ⟨C, hC⟩ : ∃ C, callT l v k = C := ⟨_, rfl⟩
  obtain ⟨Y, hY⟩ : ∃ Y, seenT l v ((k : Int) - 1) = Y := ⟨_, rfl⟩
  obtain ⟨Z, hZ⟩ : ∃ Z, seenT l v C.1 = Z := ⟨_, rfl⟩
  rw [hX, hC, hY, hZ] at hG
  rw [hX] at hn
  refine PCalls.fun (D := []) ti_ok Tryd.func15 rfl (by kernel_rfl) ?_
  refine sc_pure (ps := [viewV kk kv l v, .lit (.int .i64 k)]) (v := PV.tup [encT X.1, .lit (.bool X.2)]) (fun s _ => by rw [← hX]; exact vtoken_c kk kv l v k hv.rng hl s) rfl rfl ?_
  refine sc_pure (ps := [viewV kk kv l v, .lit (.int .i64 k)]) (v := PV.tup [.lit (.int .i64 C.1), .lit (.bool C.2)]) (fun s _ => by rw [← hC]; exact vcall_c kk kv l v k hv.rng hl hk s) rfl rfl ?_
  refine sc_pure (ps := [viewV kk kv l v, .lit (.int .i64 (IntKind.i64.wrap ((k : Int) - 1)))]) (v := PV.tup [encT Y.1, .lit (.bool Y.2)]) (fun s _ => by rw [w1, ← hY]; exact vtoken_c kk kv l v _ hv.rng hl s) rfl rfl ?_
  refine sc_pure (ps := [viewV kk kv l v, .lit (.int .i64 C.1)]) (v := PV.tup [encT Z.1, .lit (.bool Z.2)]) (fun s _ => by rw [← hZ]; exact vtoken_c kk kv l v _ hv.rng hl s) rfl rfl ?_
  refine sw_loop (D := []) ti_ok (by kernel_rfl) (fun n env st b => ∃ i : Nat, i + n = k ∧ b = s ∧ env = genv2 k (i : Nat) (depthF l v i) ∧ st = [gvL kk kv l v, gaL X.1.text C.2 Y.1 Z.1 (!Y.2)]) k ⟨[0, 2], [2, 9, 12, 51, 52], rfl, 0, by omega, rfl, rfl, rfl⟩ ?_
  rintro n env st b ⟨i, hi, rfl, rfl, rfl⟩
  rintro (_ | _) ht
  · have : i = k := by have := of_decide_eq_false ht; omega
    subst this
    intro o ho
    rw [ho] at hG
    refine sc_bool (ps := [encA ⟨X.1.text, C.2, Y.1, Z.1, !Y.2, o⟩]) (fun s _ => gloop_c _ s) rfl rfl (fun h1 => ?_) (fun h1 => ?_)
    · exact ⟨rfl, by rw [← hG]; simp [guessA, h1]⟩
    refine sc_bool (ps := [encA ⟨X.1.text, C.2, Y.1, Z.1, !Y.2, o⟩]) (fun s _ => gdecl_c _ hn s) rfl rfl (fun h2 => ?_) (fun h2 => ?_)
    · exact ⟨rfl, by rw [← hG]; simp [guessA, h1, h2]⟩
    refine sc_bool (ps := [encA ⟨X.1.text, C.2, Y.1, Z.1, !Y.2, o⟩]) (fun s _ => gstmt_c _ hn s) rfl rfl (fun h3 => ?_) (fun h3 => ?_)
    · exact ⟨rfl, by rw [← hG]; simp [guessA, h1, h2, h3]⟩
    refine sc_bool (ps := [encA ⟨X.1.text, C.2, Y.1, Z.1, !Y.2, o⟩]) (fun s _ => gattr_c _ hn s) rfl rfl (fun h4 => ?_) (fun h4 => ?_)
    · exact ⟨rfl, by rw [← hG]; simp [guessA, h1, h2, h3, h4]⟩
    · exact ⟨rfl, by rw [← hG]; simp [guessA, h1, h2, h3, h4]⟩
  have hlt : i < k := by have := of_decide_eq_true ht; omega
  obtain ⟨T, hT⟩ : ∃ T, seenT l v (i : Nat) = T := ⟨_, rfl⟩
  have hd := depthF_rng l v i
  obtain ⟨D, hD⟩ : ∃ D, depthF l v i = D := ⟨_, rfl⟩
  rw [hD] at hd ⊢
  refine sc_pure (ps := [viewV kk kv l v, .lit (.int .i64 i)]) (v := PV.tup [encT T.1, .lit (.bool T.2)]) (fun s _ => by rw [← hT]; exact vtoken_c kk kv l v i hv.rng hl s) rfl rfl ?_
  refine sc_bool (ps := [encT T.1, .lit (.string ⟨#[123]⟩)]) (v := isS T.1 ⟨#[123]⟩) (fun s _ => gsign_c T.1 _ s) rfl rfl (fun h1 => ?_) (fun h1 => ?_)
  · refine ⟨n - 1, by omega, [0, 1], [2, 9, 12, 51, 52], rfl, i + 1, by omega, rfl, ?_, rfl⟩
    have : depthF l v (i + 1) = D + 1 := by rw [depthF, hT, if_pos h1, hD]
    rw [this]
    have wD : IntKind.i64.wrap (D + 1) = D + 1 := wrap_i64 (by omega) (by omega)
    exact (show genv2 k (IntKind.i64.wrap ((i : Int) + 1)) (IntKind.i64.wrap (D + 1)) = genv2 k ((i + 1 : Nat) : Int) (D + 1) by rw [incN (by omega), wD])
  refine sc_bool (ps := [encT T.1, .lit (.string ⟨#[125]⟩)]) (v := isS T.1 ⟨#[125]⟩) (fun s _ => gsign_c T.1 _ s) rfl rfl (fun h2 => ?_) (fun h2 => ?_)
  · refine ⟨n - 1, by omega, [0, 1], [2, 9, 12, 51, 52], rfl, i + 1, by omega, rfl, ?_, rfl⟩
    have : depthF l v (i + 1) = max 0 (D - 1) := by rw [depthF, hT, if_neg (by simp [h1]), if_pos h2, hD]
    rw [this]
    have wD : IntKind.i64.wrap (D - 1) = D - 1 := wrap_i64 (by omega) (by omega)
    exact (show genv2 k (IntKind.i64.wrap ((i : Int) + 1)) (max 0 (IntKind.i64.wrap (D - 1))) = genv2 k ((i + 1 : Nat) : Int) (max 0 (D - 1)) by rw [incN (by omega), wD])
  · refine ⟨n - 1, by omega, [0, 1], [2, 9, 12, 51, 52], rfl, i + 1, by omega, rfl, ?_, rfl⟩
    have : depthF l v (i + 1) = D := by rw [depthF, hT, if_neg (by simp [h1]), if_neg (by simp [h2]), hD]
    rw [this]
    exact (show genv2 k (IntKind.i64.wrap ((i : Int) + 1)) D = genv2 k ((i + 1 : Nat) : Int) D by rw [incN (by omega)])
/-- What Guess answers. -/
def guessV (l : List Tk) (v : List Int) (k : Nat) : PV := match seenAt l v k with
  | some t => if t.kind = 1 then .tup [.lit (.int .i64 (guessT l v k)), .lit (.int .i64 0)] else .tup [.lit (.int .i64 0), .lit (.int .i64 4)]
  | none => .tup [.lit (.int .i64 0), .lit (.int .i64 4)]
theorem Guess_c (kk kv : VK) (l : List Tk) (v : List Int) (k : Nat) (hv : AscV l.length v) (hx : ∀ t ∈ l, t.text.size ≤ 1000000) (hl : v.length ≤ 1000000) (hk : k < v.length) (s : St) : PCalls Tryd.prog 7 [toks kk l, ints kv v, .lit (.int .i64 k)] s (fun r s' => s' = s ∧ r = .ret (guessV l v k)) := by
  refine PCalls.fun (D := []) ti_ok Tryd.func7 rfl (by kernel_rfl) ?_
  have bad : openV l v kk kv k = .tup [.agg [.vec .nil [], .vec .nil []], .lit (.int .i64 4)] → guessV l v k = .tup [.lit (.int .i64 0), .lit (.int .i64 4)] → Pv.sx Tryd.prog TI0 Tryd.f7.ntmps [] [] Tryd.f7.body.get! (argE 0 (pvs [toks kk l, ints kv v, .lit (.int .i64 k)])) [] s (endQ TI0 [] Tryd.f7.results.toList (fun r s' => s' = s ∧ r = .ret (guessV l v k))) := fun h1 h2 => by
    refine sc_pure (ps := [toks kk l, ints kv v, .lit (.int .i64 k)]) (v := PV.tup [.agg [.vec .nil [], .vec .nil []], .lit (.int .i64 4)]) (fun s _ => by rw [← h1]; exact gopen_c kk kv l v k hv hl hk s) rfl rfl ?_
    rintro (_ | _) h0
    · exact ⟨rfl, by rw [h2]; rfl⟩
    · exact absurd h0 (by decide)
  cases hS : seenAt l v k with
  | none => exact bad (by unfold openV; rw [hS]) (by unfold guessV; rw [hS])
  | some t =>
    by_cases h1 : t.kind = 1
    · refine sc_pure (ps := [toks kk l, ints kv v, .lit (.int .i64 k)]) (v := PV.tup [viewV kk kv l v, .lit (.int .i64 0)]) (fun s _ => by have := gopen_c kk kv l v k hv hl hk s; unfold openV at this; rw [hS] at this; simp only [h1, if_true] at this; exact this) rfl rfl ?_
      rintro (_ | _) h0
      · exact absurd h0 (by decide)
      refine sc_pure (ps := [viewV kk kv l v, .lit (.int .i64 k)]) (v := .lit (.int .i64 (guessT l v k))) (fun s _ => gguess_c kk kv l v k hv hx hl hk s) rfl rfl ?_
      exact ⟨rfl, by unfold guessV; rw [hS]; simp only [h1, if_true]; rfl⟩
    · exact bad (by unfold openV; rw [hS]; simp [h1]) (by unfold guessV; rw [hS]; simp [h1])
end Go.Pv

/- The groups of conditionals, on the reference's side: what holds of the blocks. -/
namespace Go.Pv
open Go.Proofs
set_option linter.unusedVariables false
set_option linter.unusedSimpArgs false
set_option maxRecDepth 100000
theorem qop_idx {P : Program} {T : TI} (hT : TIok P T) {t el n : Nat} {ag : Bool} (h1 : lk T.slc t = some el) (h2 : lk T.size el = some (n, ag)) {E : Env} {x i : Operand} {b off len : Nat} {k : IntKind} {m : Int} (hx : E.ev x = .sl b n off len) (hi : E.ev i = .lit (.int k m)) (h0 : 0 ≤ m) (hl : m.toNat < len) :
    qop P E St.empty (.indexAddr t x i) = some (.pt b (off + m.toNat) 0) := by
  simp only [qop, idxAddr, hi, hx, if_pos h0, hT.sl h1, (hT.sz h2).1, Option.bind_some]
  simp [hl]
theorem qop_cut {P : Program} {T : TI} (hT : TIok P T) {t el n : Nat} {ag : Bool} (h1 : lk T.slc t = some el) (h2 : lk T.size el = some (n, ag)) {E : Env} {x i : Operand} {b len : Nat} {k : IntKind} {m : Int} (hx : E.ev x = .sl b n 0 len) (hi : E.ev i = .lit (.int k m)) (h0 : 0 ≤ m) (hl : m.toNat ≤ len) :
    qop P E St.empty (.slice t x none (some i) none) = some (.sl b n 0 m.toNat) := by
  simp only [qop, slc, hi, hx, hT.sl h1, (hT.sz h2).1, Option.bind_some, Option.map_some, Option.map_none, bound, if_pos h0]
  simp [hl]
theorem cells_row {b : St} {i j f n ty sz : Nat} {els : List (List PV)} {cs : List PV} (h : b i = some (.row ty sz els)) (hj : els[j]? = some cs) (hf : f + n ≤ cs.length) : cellsAt b (.pt i j f) n = some ((cs.drop f).take n) := by
  simp only [cellsAt, h, hj]
  rw [if_pos hf]
/-- One block for another. -/
abbrev St.rep (b : St) (i j : Nat) (x : Blk) : St := (b.upd i none).upd j (some x)
theorem rep_at {b : St} {i j : Nat} {x : Blk} {k : Nat} {c : Blk} (hk : b k = some c) (hi : k ≠ i) (hj : b j = none) : (b.rep i j x) k = some c := by
  have hkj : k ≠ j := fun e => by subst e; rw [hk] at hj; cases hj
  show ((b.upd i none).upd j (some x)) k = some c
  rw [St.upd_ne _ _ hkj, St.upd_ne _ _ hi]; exact hk
theorem rep_sub {s b : St} {i j : Nat} {x : Blk} (h : s.sub b) (hi : s i = none) (hj : b j = none) : s.sub (b.rep i j x) := fun k c hk => rep_at (h k c hk) (fun e => by subst e; rw [hi] at hk; cases hk) hj
theorem sub_none {s b : St} (h : s.sub b) {j : Nat} (hj : b j = none) : s j = none := by
  cases hs : s j with
  | none => rfl
  | some x => rw [h j x hs] at hj; cases hj
structure Gr where
  pv : PV
  lines : List Int
  br : Int
  par : Int
  bch : Int
@[reducible] def Gr.cells (g : Gr) : List PV := [g.pv, .lit (.int .i64 g.br), .lit (.int .i64 g.par), .lit (.int .i64 g.bch)]
def iRow (l : List Int) : List (List PV) := l.map fun n => [.lit (.int .i64 n)]
def bRow (l : List Bool) : List (List PV) := l.map fun n => [.lit (.bool n)]
theorem iRow_len (l : List Int) : (iRow l).length = l.length := by simp [iRow]
theorem iRow_snoc (l : List Int) (n : Int) : iRow (l ++ [n]) = iRow l ++ [[.lit (.int .i64 n)]] := by simp [iRow]
theorem iRow_get {l : List Int} {j : Nat} {n : Int} (h : l[j]? = some n) : (iRow l)[j]? = some [.lit (.int .i64 n)] := by unfold iRow; rw [List.getElem?_map, h]; rfl
theorem elems_ints {l : List Int} : elemsS 1 (.vec .tight (l.map fun n => .lit (.int .i64 n))) = some (iRow l) := by
  have h : (l.map fun n => PV.lit (.int .i64 n)).all (fun y => Nat.beq y.width 1 && y.solid) = true := by
    rw [List.all_eq_true]
    intro x hx
    obtain ⟨n, _, rfl⟩ := List.mem_map.1 hx
    rfl
  unfold elemsS
  simp only [h]
  simp only [iRow, List.map_map]
  rfl
theorem bRow_len (l : List Bool) : (bRow l).length = l.length := by simp [bRow]
theorem bRow_snoc (l : List Bool) (n : Bool) : bRow (l ++ [n]) = bRow l ++ [[.lit (.bool n)]] := by simp [bRow]
theorem bRow_get {l : List Bool} {j : Nat} {n : Bool} (h : l[j]? = some n) : (bRow l)[j]? = some [.lit (.bool n)] := by unfold bRow; rw [List.getElem?_map, h]; rfl
def LnOk (s b : St) (g : Gr) : Prop := g.pv = .vec .tight (g.lines.map fun n => .lit (.int .i64 n)) ∨ ∃ id, g.pv = .sl id 1 0 (iRow g.lines).length ∧ b id = some (.row 3 1 (iRow g.lines)) ∧ s id = none
abbrev opI (op : List Nat) : List Int := List.map (fun n : Nat => (n : Int)) op
structure GI (s b : St) (gs : List Gr) (op : List Nat) (es : List Bool) (o p q i : Nat) : Prop where
  sub : s.sub b
  bo : b o = some (.row 50 4 (gs.map Gr.cells))
  bp : b p = some (.row 3 1 (iRow (opI op)))
  bq : b q = some (.row 4 1 (bRow es))
  so : s o = none
  sp : s p = none
  sq : s q = none
  len : es.length = op.length
  lt : ∀ k ∈ op, k < gs.length
  ln : ∀ g ∈ gs, LnOk s b g
  inj : ∀ (j j' : Nat) (g g' : Gr) (id z o n z' o' n' : Nat), gs[j]? = some g → gs[j']? = some g' → g.pv = .sl id z o n → g'.pv = .sl id z' o' n' → j = j'
  off : ∀ g ∈ gs, ∀ z o n, g.pv ≠ .sl p z o n
  sz1 : gs.length ≤ i
  sz2 : op.length ≤ i
  sz3 : ∀ g ∈ gs, 0 < g.lines.length ∧ g.lines.length ≤ i
theorem GI.next {s b : St} {gs : List Gr} {op : List Nat} {es : List Bool} {o p q i : Nat} (h : GI s b gs op es o p q i) : GI s b gs op es o p q (i + 1) :=
  ⟨h.sub, h.bo, h.bp, h.bq, h.so, h.sp, h.sq, h.len, h.lt, h.ln, h.inj, h.off, by have := h.sz1; omega, by have := h.sz2; omega, fun g hg => ⟨(h.sz3 g hg).1, by have := (h.sz3 g hg).2; omega⟩⟩
/-- The first group. -/
theorem GI.first {s : St} {g : Gr} {n : Int} {o p q i : Nat} (hp : s p = none) (hq : (s.upd p (some (.row 3 1 (iRow (opI [0]))))) q = none) (ho : ((s.upd p (some (.row 3 1 (iRow (opI [0]))))).upd q (some (.row 4 1 (bRow [false])))) o = none) (hg : g.pv = .vec .tight [.lit (.int .i64 n)]) (hl : g.lines = [n]) (hi : 1 ≤ i) :
    GI s (((s.upd p (some (.row 3 1 (iRow (opI [0]))))).upd q (some (.row 4 1 (bRow [false])))).upd o (some (.row 50 4 [g.cells]))) [g] [0] [false] o p q i := by
  have qp : q ≠ p := fun e => by subst e; rw [St.upd_same] at hq; cases hq
  have oq : o ≠ q := fun e => by subst e; rw [St.upd_same] at ho; cases ho
  rw [St.upd_ne _ _ oq] at ho
  have op : o ≠ p := fun e => by subst e; rw [St.upd_same] at ho; cases ho
  rw [St.upd_ne _ _ op] at ho
  rw [St.upd_ne _ _ qp] at hq
  refine ⟨((sub_refl.upd_of hp).upd_of hq).upd_of ho, St.upd_same _ _ _, ?_, ?_, ho, hp, hq, rfl, by simp, ?_, ?_, ?_, by simpa using hi, by simpa using hi, ?_⟩
  · rw [St.upd_ne _ _ (Ne.symm op), St.upd_ne _ _ (Ne.symm qp), St.upd_same]
  · rw [St.upd_ne _ _ (Ne.symm oq), St.upd_same]
  · intro g' hg'
    rw [List.mem_singleton] at hg'
    subst hg'
    exact .inl (by rw [hg, hl]; rfl)
  · intro j j' a a' id z o n z' o' n' h1 h2 h3 h4
    have e1 : a = g := by have := List.mem_of_getElem? h1; simpa using this
    subst e1
    rw [hg] at h3; cases h3
  · intro g' hg' z o n h3
    rw [List.mem_singleton] at hg'
    subst hg'
    rw [hg] at h3; cases h3
  · intro g' hg'
    rw [List.mem_singleton] at hg'
    subst hg'
    rw [hl]
    exact ⟨by simp, by simpa using hi⟩
section
variable {s b : St} {gs : List Gr} {op : List Nat} {es : List Bool} {o p q i : Nat}
/-- Other blocks than the three lists stay. -/
theorem LnOk.mono {b' : St} {g : Gr} (h : LnOk s b g) (hk : ∀ id z o n c, g.pv = .sl id z o n → b id = some c → b' id = some c) : LnOk s b' g := by
  rcases h with h | ⟨id, h1, h2, h3⟩
  · exact .inl h
  · exact .inr ⟨id, h1, hk id _ _ _ _ h1 h2, h3⟩
theorem GI.ne (h : GI s b gs op es o p q i) {g : Gr} (hg : g ∈ gs) {id z f n : Nat} (hp : g.pv = .sl id z f n) : id ≠ o ∧ id ≠ p ∧ id ≠ q := by
  rcases h.ln g hg with h1 | ⟨id', h1, h2, h3⟩
  · rw [h1] at hp; cases hp
  · rw [h1] at hp
    cases hp
    refine ⟨fun e => ?_, fun e => ?_, fun e => ?_⟩
    · subst e; rw [h.bo] at h2; cases h2
    · subst e; exact h.off g hg _ _ _ h1
    · subst e; rw [h.bq] at h2; cases h2
theorem GI.opq (h : GI s b gs op es o p q i) : o ≠ p ∧ o ≠ q ∧ p ≠ q := by
  refine ⟨fun e => ?_, fun e => ?_, fun e => ?_⟩
  · subst e; have := h.bo; rw [h.bp] at this; cases this
  · subst e; have := h.bo; rw [h.bq] at this; cases this
  · subst e; have := h.bp; rw [h.bq] at this; cases this
/-- A group is opened. -/
theorem GI.push (h : GI s b gs op es o p q i) {g : Gr} {n : Int} {o' p' q' : Nat} (hp : b p' = none) (hq : (b.rep p p' (.row 3 1 (iRow (opI (op ++ [gs.length]))))) q' = none) (ho : ((b.rep p p' (.row 3 1 (iRow (opI (op ++ [gs.length]))))).rep q q' (.row 4 1 (bRow (es ++ [false])))) o' = none) (hg : g.pv = .vec .tight [.lit (.int .i64 n)]) (hl : g.lines = [n]) :
    GI s (((b.rep p p' (.row 3 1 (iRow (opI (op ++ [gs.length]))))).rep q q' (.row 4 1 (bRow (es ++ [false])))).rep o o' (.row 50 4 ((gs ++ [g]).map Gr.cells))) (gs ++ [g]) (op ++ [gs.length]) (es ++ [false]) o' p' q' (i + 1) := by
  obtain ⟨n1, n2, n3⟩ := h.opq
  have s1 := rep_sub (x := .row 3 1 (iRow (opI (op ++ [gs.length])))) h.sub h.sp hp
  have s2 := rep_sub (x := .row 4 1 (bRow (es ++ [false]))) s1 h.sq hq
  have s3 := rep_sub (x := .row 50 4 ((gs ++ [g]).map Gr.cells)) s2 h.so ho
  have k1 : ∀ k c, b k = some c → k ≠ p → k ≠ q → k ≠ o → (((b.rep p p' (.row 3 1 (iRow (opI (op ++ [gs.length]))))).rep q q' (.row 4 1 (bRow (es ++ [false])))).rep o o' (.row 50 4 ((gs ++ [g]).map Gr.cells))) k = some c := fun k c hk a1 a2 a3 => rep_at (rep_at (rep_at hk a1 hp) a2 hq) a3 ho
  have hbo1 : (b.rep p p' (.row 3 1 (iRow (opI (op ++ [gs.length]))))) o = some (.row 50 4 (gs.map Gr.cells)) := rep_at h.bo n1 hp
  have p'o : p' ≠ o := fun e => by subst e; rw [h.bo] at hp; cases hp
  have p'q : p' ≠ q := fun e => by subst e; rw [h.bq] at hp; cases hp
  have e1 : (b.rep p p' (.row 3 1 (iRow (opI (op ++ [gs.length]))))) p' = some (.row 3 1 (iRow (opI (op ++ [gs.length])))) := St.upd_same _ _ _
  have e2 := rep_at (x := .row 4 1 (bRow (es ++ [false]))) e1 p'q hq
  have e3 := rep_at (x := .row 50 4 ((gs ++ [g]).map Gr.cells)) e2 p'o ho
  have f1 : ((b.rep p p' (.row 3 1 (iRow (opI (op ++ [gs.length]))))).rep q q' (.row 4 1 (bRow (es ++ [false])))) q' = some (.row 4 1 (bRow (es ++ [false]))) := St.upd_same _ _ _
  have q'o : q' ≠ o := fun e => by subst e; rw [hbo1] at hq; cases hq
  have f2 := rep_at (x := .row 50 4 ((gs ++ [g]).map Gr.cells)) f1 q'o ho
  refine ⟨s3, St.upd_same _ _ _, e3, f2, sub_none s2 ho, sub_none h.sub hp, sub_none s1 hq, by simp [h.len], fun k hk => ?_, fun g' hg' => ?_, ?_, ?_, by have := h.sz1; simp; omega, by have := h.sz2; simp; omega, fun g' hg' => ?_⟩
  · rw [List.length_append]
    rcases List.mem_append.1 hk with hk | hk
    · have := h.lt k hk; omega
    · rw [List.mem_singleton] at hk; subst hk; simp
  · rcases List.mem_append.1 hg' with hg' | hg'
    · exact (h.ln g' hg').mono fun id z f n c h1 h2 => by
        obtain ⟨a1, a2, a3⟩ := h.ne hg' h1
        exact k1 id c h2 a2 a3 a1
    · rw [List.mem_singleton] at hg'
      subst hg'
      exact .inl (by rw [hg, hl]; rfl)
  · intro j j' a a' id z f m z' f' m' h1 h2 h3 h4
    have old : ∀ (j : Nat) (a : Gr) (z f m : Nat), (gs ++ [g])[j]? = some a → a.pv = .sl id z f m → gs[j]? = some a := fun j a z f m h1 h3 => by
      rcases Nat.lt_or_ge j gs.length with hj | hj
      · rwa [List.getElem?_append_left hj] at h1
      · rw [List.getElem?_append_right hj] at h1
        have := List.mem_of_getElem? h1
        rw [List.mem_singleton] at this
        subst this
        rw [hg] at h3; cases h3
    exact h.inj j j' a a' id z f m z' f' m' (old j a z f m h1 h3) (old j' a' z' f' m' h2 h4) h3 h4
  · intro g' hg' z f m h3
    rcases List.mem_append.1 hg' with hg' | hg'
    · rcases h.ln g' hg' with h1 | ⟨id', h1, h2, _⟩
      · rw [h1] at h3; cases h3
      · rw [h1] at h3
        cases h3
        rw [h2] at hp; cases hp
    · rw [List.mem_singleton] at hg'
      subst hg'
      rw [hg] at h3; cases h3
  · rcases List.mem_append.1 hg' with hg' | hg'
    · exact ⟨(h.sz3 g' hg').1, by have := (h.sz3 g' hg').2; omega⟩
    · rw [List.mem_singleton] at hg'
      subst hg'
      rw [hl]
      exact ⟨by simp, by simp⟩
theorem GI.push2 (h : GI s b gs op es o p q i) {g : Gr} {n : Int} {o' p' q' : Nat} {P' Q' O' : List (List PV)} (eP : P' = iRow (opI (op ++ [gs.length]))) (eQ : Q' = bRow (es ++ [false])) (eO : O' = (gs ++ [g]).map Gr.cells) (hp : b p' = none) (hq : (b.rep p p' (.row 3 1 P')) q' = none) (ho : ((b.rep p p' (.row 3 1 P')).rep q q' (.row 4 1 Q')) o' = none) (hg : g.pv = .vec .tight [.lit (.int .i64 n)]) (hl : g.lines = [n]) :
    GI s (((b.rep p p' (.row 3 1 P')).rep q q' (.row 4 1 Q')).rep o o' (.row 50 4 O')) (gs ++ [g]) (op ++ [gs.length]) (es ++ [false]) o' p' q' (i + 1) := by
  subst eP; subst eQ; subst eO
  exact h.push hp hq ho hg hl
/-- A group changes at one place: its lines get a new block. -/
theorem GI.line (h : GI s b gs op es o p q i) {k : Nat} {g g' : Gr} (hk : gs[k]? = some g) {b1 : St} {id' : Nat} (h1 : b id' = none) (h2 : b1 id' = some (.row 3 1 (iRow g'.lines))) (h3 : ∀ x c, b x = some c → (∀ z f n, g.pv ≠ .sl x z f n) → b1 x = some c) (hg : g'.pv = .sl id' 1 0 (iRow g'.lines).length) (hl : g'.lines.length = g.lines.length + 1) :
    GI s (b1.upd o (some (.row 50 4 ((gs.set k g').map Gr.cells)))) (gs.set k g') op es o p q (i + 1) := by
  obtain ⟨n1, n2, n3⟩ := h.opq
  have hgm := List.mem_of_getElem? hk
  have keep : ∀ x c, b x = some c → x ≠ o → (∀ z f n, g.pv ≠ .sl x z f n) → (b1.upd o (some (.row 50 4 ((gs.set k g').map Gr.cells)))) x = some c := fun x c hx hxo hn => by rw [St.upd_ne _ _ hxo]; exact h3 x c hx hn
  have offp : ∀ z f n, g.pv ≠ .sl p z f n := h.off g hgm
  have offq : ∀ z f n, g.pv ≠ .sl q z f n := fun z f n e => (h.ne hgm e).2.2 rfl
  have ido : id' ≠ o := fun e => by subst e; rw [h.bo] at h1; cases h1
  have ls : k < gs.length := (List.getElem?_eq_some_iff.1 hk).1
  have mem : ∀ a ∈ gs.set k g', a = g' ∨ ∃ j, gs[j]? = some a ∧ j ≠ k := fun a ha => by
    obtain ⟨j, hj⟩ := List.getElem?_of_mem ha
    rw [List.getElem?_set] at hj
    by_cases e : k = j
    · rw [if_pos e, if_pos (by omega)] at hj
      cases hj; exact .inl rfl
    · rw [if_neg e] at hj
      exact .inr ⟨j, hj, fun e' => e e'.symm⟩
  have other : ∀ (j : Nat) (a : Gr) (id z f n : Nat), gs[j]? = some a → j ≠ k → a.pv = .sl id z f n → ∀ z f n, g.pv ≠ .sl id z f n := fun j a id z f n ha hj he z' f' n' e => hj (h.inj j k a g id z f n z' f' n' ha hk he e)
  refine ⟨fun x c hx => ?_, St.upd_same _ _ _, keep p _ h.bp (Ne.symm n1) offp, keep q _ h.bq (Ne.symm n2) offq, h.so, h.sp, h.sq, h.len, fun j hj => by rw [List.length_set]; exact h.lt j hj, fun a ha => ?_, ?_, ?_, by rw [List.length_set]; have := h.sz1; omega, by have := h.sz2; omega, fun a ha => ?_⟩
  · refine keep x c (h.sub x c hx) (fun e => by subst e; rw [h.so] at hx; cases hx) (fun z f n e => ?_)
    rcases h.ln g hgm with q1 | ⟨id, q1, q2, q3⟩
    · rw [q1] at e; cases e
    · rw [q1] at e; cases e; rw [q3] at hx; cases hx
  · rcases mem a ha with rfl | ⟨j, hj, hjk⟩
    · exact .inr ⟨id', hg, by rw [St.upd_ne _ _ ido]; exact h2, sub_none h.sub h1⟩
    · refine (h.ln a (List.mem_of_getElem? hj)).mono fun id z f n c e1 e2 => ?_
      exact keep id c e2 (h.ne (List.mem_of_getElem? hj) e1).1 (other j a id z f n hj hjk e1)
  · intro j j' a a' id z f n z' f' n' a1 a2 a3 a4
    rw [List.getElem?_set] at a1 a2
    have fresh : ∀ (j : Nat) (a : Gr) (z f n : Nat), gs[j]? = some a → a.pv ≠ .sl id' z f n := fun j a z f n ha he => by
      rcases h.ln a (List.mem_of_getElem? ha) with q1 | ⟨id2, q1, q2, q3⟩
      · rw [q1] at he; cases he
      · rw [q1] at he; cases he; rw [q2] at h1; cases h1
    by_cases e1 : k = j
    · rw [if_pos e1, if_pos (by omega)] at a1
      cases a1
      rw [hg] at a3
      cases a3
      by_cases e2 : k = j'
      · omega
      · rw [if_neg e2] at a2
        exact absurd a4 (fresh j' a' z' f' n' a2)
    · rw [if_neg e1] at a1
      by_cases e2 : k = j'
      · rw [if_pos e2, if_pos (by omega)] at a2
        cases a2
        rw [hg] at a4
        cases a4
        exact absurd a3 (fresh j a z f n a1)
      · rw [if_neg e2] at a2
        exact h.inj j j' a a' id z f n z' f' n' a1 a2 a3 a4
  · intro a ha z f n e
    rcases mem a ha with rfl | ⟨j, hj, hjk⟩
    · rw [hg] at e
      cases e
      rw [h.bp] at h1; cases h1
    · exact h.off a (List.mem_of_getElem? hj) z f n e
  · rcases mem a ha with rfl | ⟨j, hj, hjk⟩
    · have := (h.sz3 g hgm).2; rw [hl]; omega
    · have := h.sz3 a (List.mem_of_getElem? hj); omega
theorem set_cells {k j : Nat} {g' : Gr} {c : List PV} (hj : j = k) (hc : c = g'.cells) : (gs.map Gr.cells).set j c = (gs.set k g').map Gr.cells := by subst hj; subst hc; rw [List.map_set]
theorem GI.line2 (h : GI s b gs op es o p q i) {k : Nat} {g g' : Gr} (hk : gs[k]? = some g) {b1 : St} {id' : Nat} {L' O' : List (List PV)} (eL : L' = iRow g'.lines) (eO : O' = (gs.set k g').map Gr.cells) (h1 : b id' = none) (h2 : b1 id' = some (.row 3 1 L')) (h3 : ∀ x c, b x = some c → (∀ z f n, g.pv ≠ .sl x z f n) → b1 x = some c) (hg : g'.pv = .sl id' 1 0 L'.length) (hl : g'.lines.length = g.lines.length + 1) :
    GI s (b1.upd o (some (.row 50 4 O'))) (gs.set k g') op es o p q (i + 1) := by
  subst eL; subst eO
  exact h.line hk h1 h2 h3 hg hl
/-- A group changes in its numbers. -/
theorem GI.nums (h : GI s b gs op es o p q i) {k : Nat} {g g' : Gr} (hk : gs[k]? = some g) (h1 : g'.pv = g.pv) (h2 : g'.lines = g.lines) :
    GI s (b.upd o (some (.row 50 4 ((gs.set k g').map Gr.cells)))) (gs.set k g') op es o p q i := by
  obtain ⟨n1, n2, n3⟩ := h.opq
  have ls : k < gs.length := (List.getElem?_eq_some_iff.1 hk).1
  have get : ∀ (j : Nat) (a : Gr), (gs.set k g')[j]? = some a → ∃ a0, gs[j]? = some a0 ∧ a.pv = a0.pv ∧ a.lines = a0.lines := fun j a hj => by
    rw [List.getElem?_set] at hj
    by_cases e : k = j
    · rw [if_pos e, if_pos (by omega)] at hj
      cases hj; exact ⟨g, by rw [← e]; exact hk, h1, h2⟩
    · rw [if_neg e] at hj
      exact ⟨a, hj, rfl, rfl⟩
  have mem : ∀ a ∈ gs.set k g', ∃ a0 ∈ gs, a.pv = a0.pv ∧ a.lines = a0.lines := fun a ha => by
    obtain ⟨j, hj⟩ := List.getElem?_of_mem ha
    obtain ⟨a0, q1, q2⟩ := get j a hj
    exact ⟨a0, List.mem_of_getElem? q1, q2⟩
  refine ⟨fun x c hx => by rw [St.upd_ne _ _ (fun e => by subst e; rw [h.so] at hx; cases hx)]; exact h.sub x c hx, St.upd_same _ _ _, by rw [St.upd_ne _ _ (Ne.symm n1)]; exact h.bp, by rw [St.upd_ne _ _ (Ne.symm n2)]; exact h.bq, h.so, h.sp, h.sq, h.len, fun j hj => by rw [List.length_set]; exact h.lt j hj, fun a ha => ?_, ?_, ?_, by rw [List.length_set]; exact h.sz1, h.sz2, fun a ha => ?_⟩
  · obtain ⟨a0, q1, q2, q3⟩ := mem a ha
    have := h.ln a0 q1
    unfold LnOk
    rw [q2, q3]
    rcases this with r | ⟨id, r1, r2, r3⟩
    · exact .inl r
    · exact .inr ⟨id, r1, by rw [St.upd_ne _ _ (h.ne q1 r1).1]; exact r2, r3⟩
  · intro j j' a a' id z f n z' f' n' a1 a2 a3 a4
    obtain ⟨b1, q1, q2, _⟩ := get j a a1
    obtain ⟨b2, r1, r2, _⟩ := get j' a' a2
    exact h.inj j j' b1 b2 id z f n z' f' n' q1 r1 (q2 ▸ a3) (r2 ▸ a4)
  · intro a ha z f n e
    obtain ⟨a0, q1, q2, q3⟩ := mem a ha
    exact h.off a0 q1 z f n (q2 ▸ e)
  · obtain ⟨a0, q1, q2, q3⟩ := mem a ha
    rw [q3]; exact h.sz3 a0 q1
theorem GI.nums2 (h : GI s b gs op es o p q i) {k : Nat} {g g' : Gr} (hk : gs[k]? = some g) {O' : List (List PV)} (eO : O' = (gs.set k g').map Gr.cells) (h1 : g'.pv = g.pv) (h2 : g'.lines = g.lines) :
    GI s (b.upd o (some (.row 50 4 O'))) (gs.set k g') op es o p q i := by
  subst eO
  exact h.nums hk h1 h2
/-- An else is noted. -/
theorem GI.mark (h : GI s b gs op es o p q i) {es' : List Bool} (hl : es'.length = es.length) : GI s (b.upd q (some (.row 4 1 (bRow es')))) gs op es' o p q i := by
  obtain ⟨n1, n2, n3⟩ := h.opq
  exact ⟨fun x c hx => by rw [St.upd_ne _ _ (fun e => by subst e; rw [h.sq] at hx; cases hx)]; exact h.sub x c hx, by rw [St.upd_ne _ _ n2]; exact h.bo, by rw [St.upd_ne _ _ n3]; exact h.bp, St.upd_same _ _ _, h.so, h.sp, h.sq, by rw [hl]; exact h.len, h.lt, fun a ha => (h.ln a ha).mono fun id z f n c e1 e2 => by rw [St.upd_ne _ _ (h.ne ha e1).2.2]; exact e2, h.inj, h.off, h.sz1, h.sz2, h.sz3⟩
theorem GI.mark2 (h : GI s b gs op es o p q i) {es' : List Bool} {E' : List (List PV)} (eE : E' = bRow es') (hl : es'.length = es.length) : GI s (b.upd q (some (.row 4 1 E'))) gs op es' o p q i := by
  subst eE
  exact h.mark hl
/-- A group is closed. -/
theorem GI.pop (h : GI s b gs op es o p q i) (n : Nat) (hn : n ≤ op.length) : GI s ((b.upd p (some (.row 3 1 ((iRow (opI op)).take n)))).upd q (some (.row 4 1 ((bRow es).take n)))) gs (op.take n) (es.take n) o p q i := by
  obtain ⟨n1, n2, n3⟩ := h.opq
  refine ⟨fun x c hx => by rw [St.upd_ne _ _ (fun e => by subst e; rw [h.sq] at hx; cases hx), St.upd_ne _ _ (fun e => by subst e; rw [h.sp] at hx; cases hx)]; exact h.sub x c hx, by rw [St.upd_ne _ _ n2, St.upd_ne _ _ n1]; exact h.bo, ?_, ?_, h.so, h.sp, h.sq, by simp [h.len], fun k hk => h.lt k (List.mem_of_mem_take hk), fun a ha => (h.ln a ha).mono fun id z f n c e1 e2 => by rw [St.upd_ne _ _ (h.ne ha e1).2.2, St.upd_ne _ _ (h.ne ha e1).2.1]; exact e2, h.inj, h.off, h.sz1, by have := h.sz2; rw [List.length_take]; omega, h.sz3⟩
  · rw [St.upd_ne _ _ n3, St.upd_same]; simp [iRow, opI, List.map_take]
  · rw [St.upd_same]; simp [bRow, List.map_take]
end
end Go.Pv

/- The groups of conditionals, on the reference's side: the branch that a token is in; what opens a group. -/
namespace Go.Pv
open Go.Proofs
set_option linter.unusedVariables false
set_option linter.unusedSimpArgs false
set_option maxRecDepth 100000
set_option maxHeartbeats 1000000
@[reducible] def grpC (k : VK) (l : List Int) (a b c : Int) : List PV := [ints k l, .lit (.int .i64 a), .lit (.int .i64 b), .lit (.int .i64 c)]
@[reducible] def wenv (i : Int) (k : Nat) : SE := [(1, .av (.pv (.lit (.int .i64 i)))), (2, .av (.cell 0 0)), (5, .av (.pv (.lit (.int .i64 (k : Nat)))))]
theorem rwithin_c (kk : VK) (l : List Int) (x y z : Int) (i : Int) (hl : l.length ≤ 1000000) (s : St) : PCalls Tryd.prog 13 [.agg (grpC kk l x y z), .lit (.int .i64 i)] s (fun r s' => s' = s ∧ ∃ v, (∃ n : Int, v = .lit (.int .i64 n)) ∧ r = .ret v) := by
  refine PCalls.fun (D := []) ti_ok Tryd.func13 rfl (by kernel_rfl) ?_
  refine sw_loop (D := []) ti_ok (by kernel_rfl) (fun n env st b => ∃ k : Nat, k + n = l.length + 1 ∧ b = s ∧ env = wenv i k ∧ st = [some (.cel 50 4 ((grpC kk l x y z).map .pv))]) (l.length + 1) ⟨[0], [1, 2, 5], rfl, 0, by omega, rfl, rfl, rfl⟩ ?_
  rintro n env st b ⟨k, hk, rfl, rfl, rfl⟩
  have w1 : k ≤ 1000000 → IntKind.i64.wrap ((k : Int) + 1) = ((k + 1 : Nat) : Int) := fun h => incN (by omega)
  have hk1 : k ≤ 1000001 := by omega
  rintro (_ | _) ht
  · exact ⟨rfl, _, ⟨_, rfl⟩, rfl⟩
  have ht := of_decide_eq_true ht
  rw [wrap_i64 (by omega) (by omega), List.length_map] at ht
  have hk2 : k < l.length := by omega
  have hg := List.getElem?_eq_getElem hk2
  have hk3 : k + 1 < l.length := by omega
  have hg3 := List.getElem?_eq_getElem hk3
  refine ⟨.lit (.int .i64 l[k]), ⟨by omega, by rw [Int.toNat_natCast, List.getElem?_map, hg]; rfl, rfl⟩, ?_⟩
  rintro (_ | _) h1
  · exact ⟨n - 1, by omega, [0], [1, 2, 5], rfl, k + 1, by omega, rfl, (show wenv i (k + 1) = wenv i (k + 1) from rfl) ▸ (by unfold wenv; rw [← w1 (by omega)]; rfl), rfl⟩
  refine ⟨.lit (.int .i64 l[k + 1]), ⟨by rw [w1 (by omega)]; omega, by rw [w1 (by omega), Int.toNat_natCast, List.getElem?_map, hg3]; rfl, rfl⟩, ?_⟩
  rintro (_ | _) h2
  · exact ⟨n - 1, by omega, [0], [1, 2, 5], rfl, k + 1, by omega, rfl, by unfold wenv; rw [← w1 (by omega)]; rfl, rfl⟩
  · exact ⟨rfl, _, ⟨_, rfl⟩, rfl⟩
@[reducible] def ifS : ByteArray := ⟨#[105, 102]⟩
@[reducible] def ifdefS : ByteArray := ⟨#[105, 102, 100, 101, 102]⟩
@[reducible] def ifndefS : ByteArray := ⟨#[105, 102, 110, 100, 101, 102]⟩
def opensB (u : ByteArray) : Bool := decide (u = ifS) || decide (u = ifdefS) || decide (u = ifndefS)
theorem ropens_c (u : ByteArray) (s : St) : PCalls Tryd.prog 25 [.lit (.string u)] s (fun r s' => s' = s ∧ r = .ret (.lit (.bool (opensB u)))) := by
  refine PCalls.fun (D := []) ti_ok Tryd.func25 rfl (by kernel_rfl) ?_
  rintro (_ | _) h1
  · have h1 := of_decide_eq_false h1
    rintro (_ | _) h2
    · have h2 := of_decide_eq_false h2
      rintro (_ | _) h3
      · have h3 := of_decide_eq_false h3
        exact ⟨rfl, by simp [opensB, h1, h2, h3]⟩
      · have h3 := of_decide_eq_true h3
        exact ⟨rfl, by simp [opensB, h1, h2, h3]⟩
    · have h2 := of_decide_eq_true h2
      exact ⟨rfl, by simp [opensB, h1, h2]⟩
  · have h1 := of_decide_eq_true h1
    exact ⟨rfl, by simp [opensB, h1]⟩
end Go.Pv

/- The groups of conditionals, on the reference's side: the blocks become lists. -/
namespace Go.Pv
open Go.Proofs
set_option linter.unusedVariables false
set_option linter.unusedSimpArgs false
set_option maxRecDepth 100000
set_option maxHeartbeats 1000000
def lnV (g : Gr) : PV := match g.pv with
  | .vec k xs => .vec k xs
  | _ => ints .any g.lines
@[reducible] def Gr.fzC (g : Gr) : List PV := [lnV g, .lit (.int .i64 g.br), .lit (.int .i64 g.par), .lit (.int .i64 g.bch)]
/-- What Groups hands out. -/
structure GOut where
  k : VK
  lines : List Int
  br : Int
  par : Int
  bch : Int
@[reducible] def GOut.enc (g : GOut) : PV := .agg (grpC g.k g.lines g.br g.par g.bch)
def Gr.out (g : Gr) : GOut := ⟨match g.pv with | .vec k _ => k | _ => .any, g.lines, g.br, g.par, g.bch⟩
structure FI (s b : St) (gs : List Gr) (o n : Nat) : Prop where
  sub : s.sub b
  bo : b o = some (.row 50 4 ((gs.take n).map Gr.fzC ++ (gs.drop n).map Gr.cells))
  so : s o = none
  ln : ∀ (j : Nat) (g : Gr), gs[j]? = some g → n ≤ j → LnOk s b g
theorem fz1_cells {id : Nat} {xs : List PV} {g : Gr} (h : ∀ z f n, g.pv ≠ .sl id z f n) : g.cells.map (fz1 id xs) = g.cells := by
  have : fz1 id xs g.pv = g.pv := by
    cases hp : g.pv with
    | sl i z f n => simp only [fz1]; rw [if_neg (fun e => h z f n (by rw [hp, e]))]
    | _ => rfl
  show [fz1 id xs g.pv, _, _, _] = _
  rw [this]; rfl
theorem fz1_fzC {id : Nat} {xs : List PV} {g : Gr} : g.fzC.map (fz1 id xs) = g.fzC := by
  have : fz1 id xs (lnV g) = lnV g := by unfold lnV; split <;> rfl
  show [fz1 id xs (lnV g), _, _, _] = _
  rw [this]; rfl
theorem gh_fz {K : SE → SS → St → Prop} {env : SE} {s : St} {gs : List Gr} {o : Nat} (inj : ∀ (j j' : Nat) (g g' : Gr) (id z f n z' f' n' : Nat), gs[j]? = some g → gs[j']? = some g' → g.pv = .sl id z f n → g'.pv = .sl id z' f' n' → j = j') (hK : ∀ b, FI s b gs o gs.length → Gh [] K env [] b) : ∀ (m n : Nat) (b : St), n + m = gs.length → FI s b gs o n → Gh [] K env [] b
  | 0, n, b, hn, h => by
    have : n = gs.length := by omega
    subst this
    exact hK b h
  | m + 1, n, b, hn, h => by
    have hlt : n < gs.length := by omega
    have hg := List.getElem?_eq_getElem hlt
    obtain ⟨g, hgg⟩ : ∃ g, gs[n] = g := ⟨_, rfl⟩
    rw [hgg] at hg
    have e1 : gs.drop n = g :: gs.drop (n + 1) := by rw [List.drop_eq_getElem_cons hlt, hgg]
    have e2 : gs.take (n + 1) = gs.take n ++ [g] := by rw [List.take_add_one, hg]; rfl
    rcases h.ln n g hg (Nat.le_refl _) with h1 | ⟨id, h1, h2, h3⟩
    · refine gh_fz inj hK m (n + 1) b (by omega) ⟨h.sub, ?_, h.so, fun j a ha hj => h.ln j a ha (by omega)⟩
      rw [h.bo, e1, e2]
      have : g.fzC = g.cells := by simp [Gr.fzC, Gr.cells, lnV, h1]
      simp [this]
    · have hio : o ≠ id := fun e => by subst e; rw [h.bo] at h2; cases h2
      refine Gh.fzIn (xs := g.lines.map fun n => .lit (.int .i64 n)) h2 (by rw [List.map_map]; rfl) h.bo hio ?_ ?_
      · intro cs hcs c hc z f len he
        rcases List.mem_append.1 hcs with hcs | hcs
        · obtain ⟨a, _, rfl⟩ := List.mem_map.1 hcs
          simp only [Gr.fzC, List.mem_cons, List.not_mem_nil, or_false] at hc
          rcases hc with rfl | rfl | rfl | rfl
          · unfold lnV at he; split at he <;> cases he
          · cases he
          · cases he
          · cases he
        · obtain ⟨a, ha, rfl⟩ := List.mem_map.1 hcs
          obtain ⟨j, hj⟩ := List.getElem?_of_mem ha
          rw [List.getElem?_drop] at hj
          simp only [Gr.cells, List.mem_cons, List.not_mem_nil, or_false] at hc
          rcases hc with rfl | rfl | rfl | rfl
          · have := inj (n + j) n a g id z f len _ _ _ hj hg he h1
            have : j = 0 := by omega
            subst this
            rw [Nat.add_zero, hg] at hj
            cases hj
            rw [h1] at he
            cases he
            omega
          · cases he
          · cases he
          · cases he
      · refine gh_fz inj hK m (n + 1) _ (by omega) ⟨fun x c hx => ?_, ?_, h.so, fun j a ha hj => ?_⟩
        · rw [St.upd_ne _ _ (fun e => by subst e; rw [h.so] at hx; cases hx), St.upd_ne _ _ (fun e => by subst e; rw [h3] at hx; cases hx)]
          exact h.sub x c hx
        · rw [St.upd_same, e1, e2]
          congr 2
          rw [List.map_append, List.map_map, List.map_append, List.append_assoc]
          congr 1
          · exact List.map_congr_left fun a _ => fz1_fzC
          · show (g.cells.map (fz1 id _)) :: _ = g.fzC :: _
            congr 1
            · have : fz1 id (g.lines.map fun n => PV.lit (.int .i64 n)) g.pv = lnV g := by
                rw [h1]
                simp only [fz1, if_true, lnV, h1]
                rw [List.take_of_length_le (by simp [iRow])]
                rfl
              show [fz1 id _ g.pv, _, _, _] = _
              rw [this]; rfl
            · rw [List.map_map]
              refine List.map_congr_left fun a ha => ?_
              obtain ⟨j, hj⟩ := List.getElem?_of_mem ha
              rw [List.getElem?_drop] at hj
              exact fz1_cells fun z f k e => by
                have := inj (n + 1 + j) n a g id z f k _ _ _ hj hg e h1
                omega
        · refine (h.ln j a ha (by omega)).mono fun id' z f k c q1 q2 => ?_
          have n1 : id' ≠ id := fun e => by
            subst e
            have := inj j n a g id' z f k _ _ _ ha hg q1 h1
            omega
          have n2 : id' ≠ o := fun e => by
            rcases h.ln j a ha (by omega) with r | ⟨id2, r1, r2, r3⟩
            · rw [r] at q1; cases q1
            · rw [r1] at q1; cases q1; subst e; rw [h.bo] at r2; cases r2
          rw [St.upd_ne _ _ n2, St.upd_ne _ _ n1]; exact q2
theorem lnV_ok {s b : St} {g : Gr} (h : LnOk s b g) : lnV g = ints g.out.k g.lines := by
  rcases h with h | ⟨id, h1, _⟩
  · simp [lnV, Gr.out, h]
  · simp [lnV, Gr.out, h1]
theorem GI.fin {s b : St} {gs : List Gr} {op : List Nat} {es : List Bool} {o p q i : Nat} (h : GI s b gs op es o p q i) {K : SE → SS → St → Prop} {env : SE} (hK : ∀ xs : List GOut, xs.length = gs.length → (∀ x ∈ xs, x.lines.length ≤ i) → K (env.map fun a => (a.1, fzO o 4 xs.length (xs.map GOut.enc) a.2)) [] s) : Gh [] K env [] b := by
  have hln := h.ln
  refine gh_fz (s := s) (o := o) h.inj (fun b2 hb => ?_) gs.length 0 b (by omega) ⟨h.sub, by simpa using h.bo, h.so, fun j g hg _ => h.ln g (List.mem_of_getElem? hg)⟩
  have hbo := hb.bo
  rw [List.take_length, List.drop_length, List.map_nil, List.append_nil] at hbo
  have he : (gs.map Gr.out).map GOut.enc = gs.map fun g => PV.agg g.fzC := by
    rw [List.map_map]
    refine List.map_congr_left fun g hg => ?_
    show PV.agg _ = PV.agg _
    rw [Gr.fzC, lnV_ok (hln g hg)]
    rfl
  refine Gh.fzOut (xs := (gs.map Gr.out).map GOut.enc) hbo (by rw [he, List.map_map]; rfl) ?_
  refine Gh.sub (b' := s) (fun x c hx => ?_) (Gh.ret ?_)
  · rw [St.upd_ne _ _ (fun e => by subst e; rw [hb.so] at hx; cases hx)]; exact hb.sub x c hx
  · have := hK (gs.map Gr.out) (by simp) (fun x hx => by obtain ⟨g, hg, rfl⟩ := List.mem_map.1 hx; exact (h.sz3 g hg).2)
    rw [List.length_map] at this
    rw [List.length_map]
    exact this
theorem GI.fin2 {s b : St} {gs : List Gr} {op : List Nat} {es : List Bool} {o p q i : Nat} (h : GI s b gs op es o p q i) {K : SE → SS → St → Prop} {x y : Int} (hK : ∀ xs : List GOut, xs.length ≤ i → (∀ x ∈ xs, x.lines.length ≤ i) → K [(2, .av (.pv (.vec .any (xs.map GOut.enc)))), (3, .av (.pv (.lit (.int .i64 x)))), (4, .av (.pv (.lit (.int .i64 y))))] [] s) :
    Gh [] K [(2, .av (.pv (.sl o 4 0 (gs.map Gr.cells).length))), (3, .av (.pv (.lit (.int .i64 x)))), (4, .av (.pv (.lit (.int .i64 y))))] [] b := by
  refine h.fin fun xs h1 h2 => ?_
  have h3 : (gs.map Gr.cells).length = xs.length := by rw [h1]; simp
  have := hK xs (by have := h.sz1; omega) h2
  have e : Nat.beq xs.length xs.length = true := Nat.beq_refl _
  rw [h3]
  simpa [fzO, e] using this
end Go.Pv

/- The groups of conditionals, on the reference's side: the walk. -/
namespace Go.Pv
open Go.Proofs
set_option linter.unusedVariables false
set_option linter.unusedSimpArgs false
set_option maxRecDepth 100000
set_option maxHeartbeats 4000000
def TIG : TI := TI0.outer [22, 67, 46]
theorem tig_ok : TIok Tryd.prog TIG := ti_ok.outer _
def GOk (n : Nat) (r : Res) : Prop := ∃ (k : VK) (xs : List GOut) (e m : Int), xs.length ≤ n ∧ (∀ x ∈ xs, x.lines.length ≤ n) ∧ r = .ret (.tup [.vec k (xs.map GOut.enc), .lit (.int .i64 e), .lit (.int .i64 m)])
@[reducible] def cenv (k0 : VK) (l : List Tk) (c i : Int) : SE := [(0, .av (.pv (toks k0 l))), (5, .av (.pv (.lit (.int .i64 c)))), (6, .av (.pv (.lit (.int .i64 i))))]
@[reducible] def nenv (k0 : VK) (l : List Tk) (i : Int) : SE := [(0, .av (.pv (toks k0 l))), (7, .av (.pv (.vec .nil []))), (8, .av (.pv (.vec .nil []))), (9, .av (.pv (.vec .nil []))), (10, .av (.pv (.lit (.int .i64 i))))]
@[reducible] def benv (k0 : VK) (l : List Tk) (o p q a b c : Nat) (i : Int) : SE := [(0, .av (.pv (toks k0 l))), (7, .av (.pv (.sl o 4 0 a))), (8, .av (.pv (.sl p 1 0 b))), (9, .av (.pv (.sl q 1 0 c))), (10, .av (.pv (.lit (.int .i64 i))))]
theorem benv_eq {k0 : VK} {l : List Tk} {o p q a b c a' b' c' : Nat} {i i' : Int} (h1 : a = a') (h2 : b = b') (h3 : c = c') (h4 : i = i') : benv k0 l o p q a b c i = benv k0 l o p q a' b' c' i' := by rw [h1, h2, h3, h4]
def GInv (k0 : VK) (l : List Tk) (s : St) (n : Nat) (env : SE) (st : SS) (b : St) : Prop := ∃ i : Nat, i + n = l.length ∧ st = [] ∧ ((b = s ∧ env = nenv k0 l (i : Nat)) ∨ ∃ gs op es o p q, GI s b gs op es o p q i ∧ env = benv k0 l o p q (gs.map Gr.cells).length (iRow (opI op)).length (bRow es).length (i : Nat))
theorem rgroups_c (k0 : VK) (l : List Tk) (hl : l.length ≤ 100000) (hx : ∀ t ∈ l, t.text.size ≤ 20000) (s : St) : PCalls Tryd.prog 12 [toks k0 l] s (fun r s' => s' = s ∧ GOk l.length r) := by
  refine PCalls.funG (D := [(39, ([0, 1, 2, 3, 4, 5, 12, 13, 6, 7, 8, 9, 10, 11, 14], [], []))]) tig_ok Tryd.func12 rfl (by kernel_rfl) ?_
  have tokG : ∀ i, i < l.length → ∃ x, l[i]? = some x ∧ x.text.size ≤ 20000 := fun i hi => ⟨l[i], List.getElem?_eq_getElem hi, hx _ (List.getElem_mem _)⟩
  refine sw_loop (D := []) tig_ok (by kernel_rfl) (fun n env st b => ∃ (i : Nat) (c : Int), i + n = l.length ∧ 0 ≤ c ∧ c ≤ i ∧ b = s ∧ env = cenv k0 l c (i : Nat) ∧ st = []) l.length ⟨[], [0, 5, 6], rfl, 0, 0, by omega, by omega, by omega, rfl, rfl, rfl⟩ ?_
  rintro n env st b ⟨i, c, hi, hc0, hc1, rfl, rfl, rfl⟩
  rintro (_ | _) ht
  rotate_left
  · rw [List.length_map] at ht
    have hlt : i < l.length := by have := of_decide_eq_true ht; omega
    obtain ⟨x, hg, hxs⟩ := tokG i hlt
    refine ⟨encT x, ⟨by omega, by rw [Int.toNat_natCast, List.getElem?_map, hg]; rfl, rfl⟩, ?_⟩
    refine sc_pure (ps := [encT x]) (v := PV.lit (.string (kindT x))) (fun s _ => rKind_c x hxs s) rfl rfl ?_
    refine sc_bool (ps := [.lit (.string (kindT x))]) (fun s _ => ropens_c _ s) rfl rfl (fun h1 => ?_) (fun h1 => ?_)
    · exact ⟨n - 1, by omega, [], [0, 5, 6], rfl, i + 1, c + 1, by omega, by omega, by omega, rfl, (show cenv k0 l (IntKind.i64.wrap (c + 1)) (IntKind.i64.wrap ((i : Int) + 1)) = cenv k0 l (c + 1) ((i + 1 : Nat) : Int) by rw [incN (by omega), wrap_i64 (by omega) (by omega)]), rfl⟩
    · exact ⟨n - 1, by omega, [], [0, 5, 6], rfl, i + 1, c, by omega, by omega, by omega, rfl, (show cenv k0 l c (IntKind.i64.wrap ((i : Int) + 1)) = cenv k0 l c ((i + 1 : Nat) : Int) by rw [incN (by omega)]), rfl⟩
  rintro (_ | _) h200
  rotate_left
  · exact Gh.ret ⟨rfl, .nil, [], 2, 0, by simp, by simp, rfl⟩
  refine sw_loopG (D := [(39, ([0, 1, 2, 3, 4, 5, 12, 13, 6, 7, 8, 9, 10, 11, 14], [], []))]) tig_ok (by kernel_rfl) (GInv k0 l b) l.length (Gh.view [] [0, 7, 8, 9, 10] rfl (Gh.ret ⟨0, by omega, rfl, .inl ⟨rfl, rfl⟩⟩)) ?_
  rintro m env st b2 ⟨j, hj, rfl, ⟨rfl, rfl⟩ | ⟨gs, op, es, o, p, q, hI, rfl⟩⟩
  · rintro (_ | _) ht2
    · refine Gh.ret ?_
      rintro (_ | _) h0
      · exact Gh.ret ⟨rfl, .nil, [], 0, 0, by simp, by simp, rfl⟩
      · exact absurd h0 (by decide)
    rw [List.length_map] at ht2
    have hlt : j < l.length := by have := of_decide_eq_true ht2; omega
    obtain ⟨x, hg, hxs⟩ := tokG j hlt
    refine ⟨encT x, ⟨by omega, by rw [Int.toNat_natCast, List.getElem?_map, hg]; rfl, rfl⟩, ?_⟩
    refine sc_pure (ps := [encT x]) (v := PV.lit (.string (kindT x))) (fun s _ => rKind_c x hxs s) rfl rfl ?_
    obtain ⟨K, hK⟩ : ∃ K, kindT x = K := ⟨_, rfl⟩
    rw [hK]
    refine sc_bool (ps := [.lit (.string K)]) (fun s _ => ropens_c _ s) rfl rfl (fun h1 => ?_) (fun h1 => ?_)
    · rintro (_ | _) h2
      rotate_left
      · exact absurd h2 (by decide)
      refine ⟨[[.lit (.int .i64 (0 : Nat))]], rfl, by decide, fun p hp => ?_⟩
      refine ⟨[[.lit (.bool false)]], rfl, by decide, fun q hq => ?_⟩
      refine ⟨[Gr.cells ⟨.vec .tight [.lit (.int .i64 (j : Nat))], [(j : Nat)], 2, -1, 0⟩], rfl, by simp, fun o ho => ?_⟩
      refine ⟨m - 1, by omega, Gh.view [] [0, 7, 8, 9, 10] rfl (Gh.ret ⟨j + 1, by omega, rfl, .inr ⟨_, _, _, o, p, q, GI.first (g := ⟨.vec .tight [.lit (.int .i64 (j : Nat))], [(j : Nat)], 2, -1, 0⟩) (n := (j : Nat)) hp hq ho rfl rfl (by omega), benv_eq rfl rfl rfl (incN (by omega))⟩⟩)⟩
    rintro (_ | _) h2
    rotate_left
    · rintro (_ | _) h5
      · exact absurd h5 (by decide)
      · exact Gh.ret (Gh.ret ⟨rfl, .nil, [], 30, (j : Nat), by simp, by simp, rfl⟩)
    rintro (_ | _) h3
    rotate_left
    · rintro (_ | _) h5
      · exact absurd h5 (by decide)
      · exact Gh.ret (Gh.ret ⟨rfl, .nil, [], 30, (j : Nat), by simp, by simp, rfl⟩)
    rintro (_ | _) h4
    rotate_left
    · rintro (_ | _) h5
      · exact absurd h5 (by decide)
      · exact Gh.ret (Gh.ret ⟨rfl, .nil, [], 30, (j : Nat), by simp, by simp, rfl⟩)
    exact ⟨m - 1, by omega, Gh.view [] [0, 7, 8, 9, 10] rfl (Gh.ret ⟨j + 1, by omega, rfl, .inl ⟨rfl, (show nenv k0 l (IntKind.i64.wrap ((j : Int) + 1)) = nenv k0 l ((j + 1 : Nat) : Int) by rw [incN (by omega)])⟩⟩)⟩
  rintro (_ | _) ht2
  · refine Gh.ret ?_
    have hjl : j ≤ l.length := by omega
    rintro (_ | _) h0
    · refine Gh.view [] [2, 3, 4] rfl (hI.fin2 fun xs h1 h2 => ?_)
      exact ⟨rfl, .any, xs, 0, 0, by omega, fun x hx => by have := h2 x hx; omega, rfl⟩
    have h0 := of_decide_eq_true h0
    rw [iRow_len, List.length_map] at h0
    have hoL : op.length ≤ 100000 := by have := hI.sz2; omega
    have hW : IntKind.i64.wrap (((iRow (opI op)).length : Int) - 1) = (op.length : Int) - 1 := by rw [iRow_len, List.length_map, wrap_i64 (by omega) (by omega)]
    obtain ⟨t, hop⟩ : ∃ t, op.length = t + 1 := ⟨op.length - 1, by omega⟩
    have hWt : 0 + (IntKind.i64.wrap (((iRow (opI op)).length : Int) - 1)).toNat = t := by rw [hW, hop]; omega
    have ht0 : t < op.length := by omega
    obtain ⟨k, hk⟩ : ∃ k, op[t]? = some k := ⟨op[t], List.getElem?_eq_getElem ht0⟩
    have hkl := hI.lt k (List.mem_of_getElem? hk)
    obtain ⟨g, hg2⟩ : ∃ g, gs[k]? = some g := ⟨gs[k], List.getElem?_eq_getElem hkl⟩
    have hgm := List.mem_of_getElem? hg2
    have hki : (opI op)[t]? = some (k : Int) := by rw [List.getElem?_map, hk]; rfl
    have hW0 : 0 ≤ IntKind.i64.wrap (((iRow (opI op)).length : Int) - 1) := by rw [hW]; omega
    have hWl : (IntKind.i64.wrap (((iRow (opI op)).length : Int) - 1)).toNat < (iRow (opI op)).length := by rw [hW, iRow_len, List.length_map]; omega
    have hgo : (gs.map Gr.cells)[(0 + ((k : Nat) : Int).toNat)]? = some g.cells := by rw [Nat.zero_add, Int.toNat_natCast, List.getElem?_map, hg2]; rfl
    refine ⟨by kernel_rfl, ?_⟩
    refine ⟨_, qop_idx tig_ok rfl rfl rfl rfl hW0 hWl, ?_⟩
    refine ⟨[.lit (.int .i64 (k : Nat))], .lit (.int .i64 (k : Nat)), cells_row (cs := [.lit (.int .i64 (k : Nat))]) hI.bp (by rw [hWt]; exact iRow_get hki) (by simp), rfl, ?_⟩
    refine ⟨_, qop_idx tig_ok rfl rfl rfl rfl (by omega) (by rw [List.length_map]; omega), ?_⟩
    rcases hI.ln g hgm with hpv | ⟨id, hpv, hid, hsn⟩
    · refine ⟨[g.pv], .vec .tight (g.lines.map fun n => .lit (.int .i64 n)), cells_row (cs := g.cells) hI.bo hgo (by simp), by rw [hpv]; rfl, ?_⟩
      obtain ⟨y, hy⟩ : ∃ y, g.lines[0]? = some y := ⟨g.lines[0]'(hI.sz3 g hgm).1, List.getElem?_eq_getElem _⟩
      refine ⟨.lit (.int .i64 y), ⟨by decide, by show _ = _; rw [List.getElem?_map]; show (g.lines[0]?).map _ = _; rw [hy]; rfl, rfl⟩, ?_⟩
      exact Gh.sub hI.sub (Gh.ret ⟨rfl, .nil, [], 30, y, by simp, by simp, rfl⟩)
    · refine ⟨[g.pv], .sl id 1 0 (iRow g.lines).length, cells_row (cs := g.cells) hI.bo hgo (by simp), by rw [hpv]; rfl, ?_⟩
      obtain ⟨y, hy⟩ : ∃ y, g.lines[0]? = some y := ⟨g.lines[0]'(hI.sz3 g hgm).1, List.getElem?_eq_getElem _⟩
      refine ⟨_, qop_idx tig_ok rfl rfl rfl rfl (by decide) (by rw [iRow_len]; exact (hI.sz3 g hgm).1), ?_⟩
      refine ⟨[.lit (.int .i64 y)], .lit (.int .i64 y), cells_row (cs := [.lit (.int .i64 y)]) hid (iRow_get hy) (by simp), rfl, ?_⟩
      exact Gh.sub hI.sub (Gh.ret ⟨rfl, .nil, [], 30, y, by simp, by simp, rfl⟩)
  rw [List.length_map] at ht2
  have hlt : j < l.length := by have := of_decide_eq_true ht2; omega
  obtain ⟨x, hg, hxs⟩ := tokG j hlt
  refine ⟨encT x, ⟨by omega, by rw [Int.toNat_natCast, List.getElem?_map, hg]; rfl, rfl⟩, ?_⟩
  refine sc_pure (ps := [encT x]) (v := PV.lit (.string (kindT x))) (fun s _ => rKind_c x hxs s) rfl rfl ?_
  obtain ⟨K, hK⟩ : ∃ K, kindT x = K := ⟨_, rfl⟩
  rw [hK]
  have hoL : op.length ≤ 100000 := by have := hI.sz2; omega
  have hgL : gs.length ≤ 100000 := by have := hI.sz1; omega
  have hW : IntKind.i64.wrap (((iRow (opI op)).length : Int) - 1) = (op.length : Int) - 1 := by rw [iRow_len, List.length_map, wrap_i64 (by omega) (by omega)]
  refine sc_bool (ps := [.lit (.string K)]) (fun s _ => ropens_c _ s) rfl rfl (fun h1 => ?_) (fun h1 => ?_)
  · rintro (_ | _) h2
    · refine ⟨[[.lit (.int .i64 ((gs.map Gr.cells).length : Nat))]], rfl, iRow (opI op), hI.bp, rfl, rfl, rfl, by rw [iRow_len, List.length_map]; show (2 * (_ + 1) + 1000) * 8 ≤ _; omega, fun p' hp => ?_⟩
      refine ⟨[[.lit (.bool false)]], rfl, bRow es, rep_at hI.bq (Ne.symm hI.opq.2.2) hp, rfl, rfl, rfl, by rw [bRow_len, hI.len]; show (2 * (_ + 1) + 1000) * 1 ≤ _; omega, fun q' hq => ?_⟩
      refine ⟨[Gr.cells ⟨.vec .tight [.lit (.int .i64 (j : Nat))], [(j : Nat)], 2, (-1), 0⟩], rfl, gs.map Gr.cells, rep_at (rep_at hI.bo hI.opq.1 hp) hI.opq.2.1 hq, rfl, rfl, rfl, by rw [List.length_map]; show (2 * (_ + 1) + 1000) * 48 ≤ _; omega, fun o' ho => ?_⟩
      refine ⟨m - 1, by omega, Gh.view [] [0, 7, 8, 9, 10] rfl (Gh.ret ⟨j + 1, by omega, rfl, .inr ⟨_, _, _, o', p', q', hI.push2 (g := ⟨.vec .tight [.lit (.int .i64 (j : Nat))], [(j : Nat)], 2, (-1), 0⟩) (n := (j : Nat)) (by simp [iRow, opI]) (by simp [bRow]) (by simp) hp hq ho rfl rfl, ?_⟩⟩)⟩
      exact benv_eq (by simp) (by simp [iRow, opI]) (by simp [bRow]) (incN (by omega))
    · have h2 := of_decide_eq_true h2
      have h2 : 0 ≤ IntKind.i64.wrap (((iRow (opI op)).length : Int) - 1) := h2
      rw [hW] at h2
      obtain ⟨t, hop⟩ : ∃ t, op.length = t + 1 := ⟨op.length - 1, by omega⟩
      have hWt : 0 + (IntKind.i64.wrap (((iRow (opI op)).length : Int) - 1)).toNat = t := by rw [hW, hop]; omega
      have ht0 : t < op.length := by omega
      obtain ⟨k, hk⟩ : ∃ k, op[t]? = some k := ⟨op[t], List.getElem?_eq_getElem ht0⟩
      have hkl := hI.lt k (List.mem_of_getElem? hk)
      obtain ⟨g, hg2⟩ : ∃ g, gs[k]? = some g := ⟨gs[k], List.getElem?_eq_getElem hkl⟩
      have hgm := List.mem_of_getElem? hg2
      have hki : (opI op)[t]? = some (k : Int) := by rw [List.getElem?_map, hk]; rfl
      have hW0 : 0 ≤ IntKind.i64.wrap (((iRow (opI op)).length : Int) - 1) := by rw [hW]; omega
      have hWl : (IntKind.i64.wrap (((iRow (opI op)).length : Int) - 1)).toNat < (iRow (opI op)).length := by rw [hW, iRow_len, List.length_map]; omega
      have hgo : (gs.map Gr.cells)[(0 + ((k : Nat) : Int).toNat)]? = some g.cells := by rw [Nat.zero_add, Int.toNat_natCast, List.getElem?_map, hg2]; rfl
      refine ⟨_, qop_idx tig_ok rfl rfl rfl rfl hW0 hWl, ?_⟩
      refine ⟨[.lit (.int .i64 (k : Nat))], .lit (.int .i64 (k : Nat)), cells_row (cs := [.lit (.int .i64 (k : Nat))]) hI.bp (by rw [hWt]; exact iRow_get hki) (by simp), rfl, ?_⟩
      refine ⟨_, qop_idx tig_ok rfl rfl rfl rfl hW0 hWl, ?_⟩
      refine ⟨[.lit (.int .i64 (k : Nat))], .lit (.int .i64 (k : Nat)), cells_row (cs := [.lit (.int .i64 (k : Nat))]) hI.bp (by rw [hWt]; exact iRow_get hki) (by simp), rfl, ?_⟩
      refine ⟨_, qop_idx tig_ok rfl rfl rfl rfl (by omega) (by rw [List.length_map]; omega), ?_⟩
      rcases hI.ln g hgm with hpv | ⟨id, hpv, hid, hsn⟩
      · refine ⟨[g.pv], .vec .tight (g.lines.map fun n => .lit (.int .i64 n)), cells_row (cs := g.cells) hI.bo hgo (by simp), by rw [hpv]; rfl, ?_⟩
        refine ⟨[[.lit (.int .i64 ((gs.map Gr.cells).length : Nat))]], rfl, iRow (opI op), hI.bp, rfl, rfl, rfl, by rw [iRow_len, List.length_map]; show (2 * (_ + 1) + 1000) * 8 ≤ _; omega, fun p' hp => ?_⟩
        refine ⟨[[.lit (.bool false)]], rfl, bRow es, rep_at hI.bq (Ne.symm hI.opq.2.2) hp, rfl, rfl, rfl, by rw [bRow_len, hI.len]; show (2 * (_ + 1) + 1000) * 1 ≤ _; omega, fun q' hq => ?_⟩
        refine ⟨[Gr.cells ⟨.vec .tight [.lit (.int .i64 (j : Nat))], [(j : Nat)], 2, ((k : Nat) : Int), (IntKind.i64.wrap (((g.lines.map fun n => PV.lit (.int .i64 n)).length : Int) - 1))⟩], rfl, gs.map Gr.cells, rep_at (rep_at hI.bo hI.opq.1 hp) hI.opq.2.1 hq, rfl, rfl, rfl, by rw [List.length_map]; show (2 * (_ + 1) + 1000) * 48 ≤ _; omega, fun o' ho => ?_⟩
        refine ⟨m - 1, by omega, Gh.view [] [0, 7, 8, 9, 10] rfl (Gh.ret ⟨j + 1, by omega, rfl, .inr ⟨_, _, _, o', p', q', hI.push2 (g := ⟨.vec .tight [.lit (.int .i64 (j : Nat))], [(j : Nat)], 2, ((k : Nat) : Int), (IntKind.i64.wrap (((g.lines.map fun n => PV.lit (.int .i64 n)).length : Int) - 1))⟩) (n := (j : Nat)) (by simp [iRow, opI]) (by simp [bRow]) (by simp) hp hq ho rfl rfl, ?_⟩⟩)⟩
        exact benv_eq (by simp) (by simp [iRow, opI]) (by simp [bRow]) (incN (by omega))
      · refine ⟨[g.pv], .sl id 1 0 (iRow g.lines).length, cells_row (cs := g.cells) hI.bo hgo (by simp), by rw [hpv]; rfl, ?_⟩
        refine ⟨[[.lit (.int .i64 ((gs.map Gr.cells).length : Nat))]], rfl, iRow (opI op), hI.bp, rfl, rfl, rfl, by rw [iRow_len, List.length_map]; show (2 * (_ + 1) + 1000) * 8 ≤ _; omega, fun p' hp => ?_⟩
        refine ⟨[[.lit (.bool false)]], rfl, bRow es, rep_at hI.bq (Ne.symm hI.opq.2.2) hp, rfl, rfl, rfl, by rw [bRow_len, hI.len]; show (2 * (_ + 1) + 1000) * 1 ≤ _; omega, fun q' hq => ?_⟩
        refine ⟨[Gr.cells ⟨.vec .tight [.lit (.int .i64 (j : Nat))], [(j : Nat)], 2, ((k : Nat) : Int), (IntKind.i64.wrap (((iRow g.lines).length : Int) - 1))⟩], rfl, gs.map Gr.cells, rep_at (rep_at hI.bo hI.opq.1 hp) hI.opq.2.1 hq, rfl, rfl, rfl, by rw [List.length_map]; show (2 * (_ + 1) + 1000) * 48 ≤ _; omega, fun o' ho => ?_⟩
        refine ⟨m - 1, by omega, Gh.view [] [0, 7, 8, 9, 10] rfl (Gh.ret ⟨j + 1, by omega, rfl, .inr ⟨_, _, _, o', p', q', hI.push2 (g := ⟨.vec .tight [.lit (.int .i64 (j : Nat))], [(j : Nat)], 2, ((k : Nat) : Int), (IntKind.i64.wrap (((iRow g.lines).length : Int) - 1))⟩) (n := (j : Nat)) (by simp [iRow, opI]) (by simp [bRow]) (by simp) hp hq ho rfl rfl, ?_⟩⟩)⟩
        exact benv_eq (by simp) (by simp [iRow, opI]) (by simp [bRow]) (incN (by omega))
  rintro (_ | _) h3
  rotate_left
  · rintro (_ | _) h6
    rotate_left
    · exact Gh.ret (Gh.sub hI.sub (Gh.ret ⟨rfl, .nil, [], 30, (j : Nat), by simp, by simp, rfl⟩))
    have h6 : ¬ IntKind.i64.wrap (((iRow (opI op)).length : Int) - 1) < 0 := of_decide_eq_false h6
    rw [hW] at h6
    obtain ⟨t, hop⟩ : ∃ t, op.length = t + 1 := ⟨op.length - 1, by omega⟩
    have hWt : 0 + (IntKind.i64.wrap (((iRow (opI op)).length : Int) - 1)).toNat = t := by rw [hW, hop]; omega
    have ht0 : t < op.length := by omega
    obtain ⟨k, hk⟩ : ∃ k, op[t]? = some k := ⟨op[t], List.getElem?_eq_getElem ht0⟩
    have hkl := hI.lt k (List.mem_of_getElem? hk)
    obtain ⟨g, hg2⟩ : ∃ g, gs[k]? = some g := ⟨gs[k], List.getElem?_eq_getElem hkl⟩
    have hgm := List.mem_of_getElem? hg2
    have hki : (opI op)[t]? = some (k : Int) := by rw [List.getElem?_map, hk]; rfl
    have hW0 : 0 ≤ IntKind.i64.wrap (((iRow (opI op)).length : Int) - 1) := by rw [hW]; omega
    have hWl : (IntKind.i64.wrap (((iRow (opI op)).length : Int) - 1)).toNat < (iRow (opI op)).length := by rw [hW, iRow_len, List.length_map]; omega
    have hgo : (gs.map Gr.cells)[(0 + ((k : Nat) : Int).toNat)]? = some g.cells := by rw [Nat.zero_add, Int.toNat_natCast, List.getElem?_map, hg2]; rfl
    obtain ⟨e, he⟩ : ∃ e, es[t]? = some e := ⟨es[t]'(by have := hI.len; omega), List.getElem?_eq_getElem _⟩
    have hWe : (IntKind.i64.wrap (((iRow (opI op)).length : Int) - 1)).toNat < (bRow es).length := by rw [hW, bRow_len, hI.len]; omega
    rintro (_ | _) h7
    rotate_left
    · exact absurd ((of_decide_eq_true h3).symm.trans (of_decide_eq_true h7)) (by decide)
    refine ⟨_, qop_idx tig_ok rfl rfl rfl rfl hW0 hWe, ?_⟩
    refine ⟨[.lit (.bool e)], .lit (.bool e), cells_row (cs := [.lit (.bool e)]) hI.bq (by rw [hWt]; exact bRow_get he) (by simp), rfl, ?_⟩
    rcases e with _ | _
    rotate_left
    · exact Gh.ret (Gh.sub hI.sub (Gh.ret ⟨rfl, .nil, [], 30, (j : Nat), by simp, by simp, rfl⟩))
    refine ⟨_, qop_idx tig_ok rfl rfl rfl rfl hW0 hWl, ?_⟩
    refine ⟨[.lit (.int .i64 (k : Nat))], .lit (.int .i64 (k : Nat)), cells_row (cs := [.lit (.int .i64 (k : Nat))]) hI.bp (by rw [hWt]; exact iRow_get hki) (by simp), rfl, ?_⟩
    refine ⟨_, qop_idx tig_ok rfl rfl rfl rfl (by omega) (by rw [List.length_map]; omega), ?_⟩
    rcases hI.ln g hgm with hpv | ⟨id, hpv, hid, hsn⟩
    · refine ⟨[g.pv], .vec .tight (g.lines.map fun n => .lit (.int .i64 n)), cells_row (cs := g.cells) hI.bo hgo (by simp), by rw [hpv]; rfl, ?_⟩
      refine ⟨[[.lit (.int .i64 (j : Nat))]], rfl, iRow g.lines, elems_ints, by have := (hI.sz3 g hgm).2; show (2 * (_ + 1) + 1000) * 8 ≤ _; (try simp only [List.length_map, iRow_len]); omega, fun id' h8 => ?_⟩
      refine ⟨[.sl id' 1 0 (iRow g.lines ++ [[PV.lit (.int .i64 (j : Nat))]]).length], _, 4, gs.map Gr.cells, g.cells, rfl, by rw [St.upd_ne _ _ (fun e => by subst e; rw [hI.bo] at h8; cases h8)]; exact hI.bo, hgo, by simp, ?_⟩
      have hI2 := hI.line2 (g' := (⟨.sl id' 1 0 (iRow g.lines ++ [[PV.lit (.int .i64 (j : Nat))]]).length, g.lines ++ [((j : Nat) : Int)], g.br, g.par, g.bch⟩ : Gr)) hg2 (b1 := (b2.upd id' (some (.row 3 1 (iRow g.lines ++ [[PV.lit (.int .i64 (j : Nat))]]))))) (id' := id') (L' := (iRow g.lines ++ [[PV.lit (.int .i64 (j : Nat))]])) (O' := (gs.map Gr.cells).set (0 + ((k : Nat) : Int).toNat) (spl g.cells (0 + 0) [.sl id' 1 0 (iRow g.lines ++ [[PV.lit (.int .i64 (j : Nat))]]).length])) (by rw [iRow_snoc]) (set_cells (by omega) rfl) h8 (St.upd_same _ _ _) (fun x c hx hn => by rw [St.upd_ne _ _ (fun e => by subst e; rw [h8] at hx; cases hx)]; exact hx) rfl (by simp)
      rintro (_ | _) h9
      rotate_left
      · exact absurd ((of_decide_eq_true h3).symm.trans (of_decide_eq_true h9)) (by decide)
      rintro (_ | _) h10
      rotate_left
      · exact absurd ((of_decide_eq_true h3).symm.trans (of_decide_eq_true h10)) (by decide)
      exact ⟨m - 1, by omega, Gh.view [] [0, 7, 8, 9, 10] rfl (Gh.ret ⟨j + 1, by omega, rfl, .inr ⟨_, op, es, o, p, q, hI2, benv_eq (by simp) rfl (rfl) (incN (by omega))⟩⟩)⟩
    · refine ⟨[g.pv], .sl id 1 0 (iRow g.lines).length, cells_row (cs := g.cells) hI.bo hgo (by simp), by rw [hpv]; rfl, ?_⟩
      refine ⟨[[.lit (.int .i64 (j : Nat))]], rfl, iRow g.lines, hid, rfl, rfl, rfl, by have := (hI.sz3 g hgm).2; show (2 * (_ + 1) + 1000) * 8 ≤ _; (try simp only [List.length_map, iRow_len]); omega, fun id' h8 => ?_⟩
      refine ⟨[.sl id' 1 0 (iRow g.lines ++ [[PV.lit (.int .i64 (j : Nat))]]).length], _, 4, gs.map Gr.cells, g.cells, rfl, rep_at hI.bo (Ne.symm (hI.ne hgm hpv).1) h8, hgo, by simp, ?_⟩
      have hI2 := hI.line2 (g' := (⟨.sl id' 1 0 (iRow g.lines ++ [[PV.lit (.int .i64 (j : Nat))]]).length, g.lines ++ [((j : Nat) : Int)], g.br, g.par, g.bch⟩ : Gr)) hg2 (b1 := ((b2.upd id none).upd id' (some (.row 3 1 (iRow g.lines ++ [[PV.lit (.int .i64 (j : Nat))]]))))) (id' := id') (L' := (iRow g.lines ++ [[PV.lit (.int .i64 (j : Nat))]])) (O' := (gs.map Gr.cells).set (0 + ((k : Nat) : Int).toNat) (spl g.cells (0 + 0) [.sl id' 1 0 (iRow g.lines ++ [[PV.lit (.int .i64 (j : Nat))]]).length])) (by rw [iRow_snoc]) (set_cells (by omega) rfl) h8 (St.upd_same _ _ _) (fun x c hx hn => rep_at hx (fun e => by subst e; exact hn _ _ _ hpv) h8) rfl (by simp)
      rintro (_ | _) h9
      rotate_left
      · exact absurd ((of_decide_eq_true h3).symm.trans (of_decide_eq_true h9)) (by decide)
      rintro (_ | _) h10
      rotate_left
      · exact absurd ((of_decide_eq_true h3).symm.trans (of_decide_eq_true h10)) (by decide)
      exact ⟨m - 1, by omega, Gh.view [] [0, 7, 8, 9, 10] rfl (Gh.ret ⟨j + 1, by omega, rfl, .inr ⟨_, op, es, o, p, q, hI2, benv_eq (by simp) rfl (rfl) (incN (by omega))⟩⟩)⟩
  rintro (_ | _) h4
  rotate_left
  · rintro (_ | _) h6
    rotate_left
    · exact Gh.ret (Gh.sub hI.sub (Gh.ret ⟨rfl, .nil, [], 30, (j : Nat), by simp, by simp, rfl⟩))
    have h6 : ¬ IntKind.i64.wrap (((iRow (opI op)).length : Int) - 1) < 0 := of_decide_eq_false h6
    rw [hW] at h6
    obtain ⟨t, hop⟩ : ∃ t, op.length = t + 1 := ⟨op.length - 1, by omega⟩
    have hWt : 0 + (IntKind.i64.wrap (((iRow (opI op)).length : Int) - 1)).toNat = t := by rw [hW, hop]; omega
    have ht0 : t < op.length := by omega
    obtain ⟨k, hk⟩ : ∃ k, op[t]? = some k := ⟨op[t], List.getElem?_eq_getElem ht0⟩
    have hkl := hI.lt k (List.mem_of_getElem? hk)
    obtain ⟨g, hg2⟩ : ∃ g, gs[k]? = some g := ⟨gs[k], List.getElem?_eq_getElem hkl⟩
    have hgm := List.mem_of_getElem? hg2
    have hki : (opI op)[t]? = some (k : Int) := by rw [List.getElem?_map, hk]; rfl
    have hW0 : 0 ≤ IntKind.i64.wrap (((iRow (opI op)).length : Int) - 1) := by rw [hW]; omega
    have hWl : (IntKind.i64.wrap (((iRow (opI op)).length : Int) - 1)).toNat < (iRow (opI op)).length := by rw [hW, iRow_len, List.length_map]; omega
    have hgo : (gs.map Gr.cells)[(0 + ((k : Nat) : Int).toNat)]? = some g.cells := by rw [Nat.zero_add, Int.toNat_natCast, List.getElem?_map, hg2]; rfl
    obtain ⟨e, he⟩ : ∃ e, es[t]? = some e := ⟨es[t]'(by have := hI.len; omega), List.getElem?_eq_getElem _⟩
    have hWe : (IntKind.i64.wrap (((iRow (opI op)).length : Int) - 1)).toNat < (bRow es).length := by rw [hW, bRow_len, hI.len]; omega
    rintro (_ | _) h7
    rotate_left
    · exact absurd ((of_decide_eq_true h4).symm.trans (of_decide_eq_true h7)) (by decide)
    refine ⟨_, qop_idx tig_ok rfl rfl rfl rfl hW0 hWe, ?_⟩
    refine ⟨[.lit (.bool e)], .lit (.bool e), cells_row (cs := [.lit (.bool e)]) hI.bq (by rw [hWt]; exact bRow_get he) (by simp), rfl, ?_⟩
    rcases e with _ | _
    rotate_left
    · exact Gh.ret (Gh.sub hI.sub (Gh.ret ⟨rfl, .nil, [], 30, (j : Nat), by simp, by simp, rfl⟩))
    refine ⟨_, qop_idx tig_ok rfl rfl rfl rfl hW0 hWl, ?_⟩
    refine ⟨[.lit (.int .i64 (k : Nat))], .lit (.int .i64 (k : Nat)), cells_row (cs := [.lit (.int .i64 (k : Nat))]) hI.bp (by rw [hWt]; exact iRow_get hki) (by simp), rfl, ?_⟩
    refine ⟨_, qop_idx tig_ok rfl rfl rfl rfl (by omega) (by rw [List.length_map]; omega), ?_⟩
    rcases hI.ln g hgm with hpv | ⟨id, hpv, hid, hsn⟩
    · refine ⟨[g.pv], .vec .tight (g.lines.map fun n => .lit (.int .i64 n)), cells_row (cs := g.cells) hI.bo hgo (by simp), by rw [hpv]; rfl, ?_⟩
      refine ⟨[[.lit (.int .i64 (j : Nat))]], rfl, iRow g.lines, elems_ints, by have := (hI.sz3 g hgm).2; show (2 * (_ + 1) + 1000) * 8 ≤ _; (try simp only [List.length_map, iRow_len]); omega, fun id' h8 => ?_⟩
      refine ⟨[.sl id' 1 0 (iRow g.lines ++ [[PV.lit (.int .i64 (j : Nat))]]).length], _, 4, gs.map Gr.cells, g.cells, rfl, by rw [St.upd_ne _ _ (fun e => by subst e; rw [hI.bo] at h8; cases h8)]; exact hI.bo, hgo, by simp, ?_⟩
      have hI2 := hI.line2 (g' := (⟨.sl id' 1 0 (iRow g.lines ++ [[PV.lit (.int .i64 (j : Nat))]]).length, g.lines ++ [((j : Nat) : Int)], g.br, g.par, g.bch⟩ : Gr)) hg2 (b1 := (b2.upd id' (some (.row 3 1 (iRow g.lines ++ [[PV.lit (.int .i64 (j : Nat))]]))))) (id' := id') (L' := (iRow g.lines ++ [[PV.lit (.int .i64 (j : Nat))]])) (O' := (gs.map Gr.cells).set (0 + ((k : Nat) : Int).toNat) (spl g.cells (0 + 0) [.sl id' 1 0 (iRow g.lines ++ [[PV.lit (.int .i64 (j : Nat))]]).length])) (by rw [iRow_snoc]) (set_cells (by omega) rfl) h8 (St.upd_same _ _ _) (fun x c hx hn => by rw [St.upd_ne _ _ (fun e => by subst e; rw [h8] at hx; cases hx)]; exact hx) rfl (by simp)
      rintro (_ | _) h9
      · exact absurd (of_decide_eq_true h4) (of_decide_eq_false h9)
      refine ⟨_, qop_idx tig_ok rfl rfl rfl rfl hW0 hWe, ?_⟩
      refine ⟨[.lit (.bool true)], _, 1, bRow es, [.lit (.bool false)], rfl, hI2.bq, by rw [hWt]; exact bRow_get he, by simp, ?_⟩
      have hI3 := hI2.mark2 (es' := es.set t true) (E' := (bRow es).set (0 + (IntKind.i64.wrap (((iRow (opI op)).length : Int) - 1)).toNat) (spl [.lit (.bool false)] 0 [.lit (.bool true)])) (by rw [hWt, bRow, bRow, List.map_set]; rfl) (by simp)
      rintro (_ | _) h10
      rotate_left
      · exact absurd ((of_decide_eq_true h4).symm.trans (of_decide_eq_true h10)) (by decide)
      exact ⟨m - 1, by omega, Gh.view [] [0, 7, 8, 9, 10] rfl (Gh.ret ⟨j + 1, by omega, rfl, .inr ⟨_, op, (es.set t true), o, p, q, hI3, benv_eq (by simp) rfl (by simp [bRow]) (incN (by omega))⟩⟩)⟩
    · refine ⟨[g.pv], .sl id 1 0 (iRow g.lines).length, cells_row (cs := g.cells) hI.bo hgo (by simp), by rw [hpv]; rfl, ?_⟩
      refine ⟨[[.lit (.int .i64 (j : Nat))]], rfl, iRow g.lines, hid, rfl, rfl, rfl, by have := (hI.sz3 g hgm).2; show (2 * (_ + 1) + 1000) * 8 ≤ _; (try simp only [List.length_map, iRow_len]); omega, fun id' h8 => ?_⟩
      refine ⟨[.sl id' 1 0 (iRow g.lines ++ [[PV.lit (.int .i64 (j : Nat))]]).length], _, 4, gs.map Gr.cells, g.cells, rfl, rep_at hI.bo (Ne.symm (hI.ne hgm hpv).1) h8, hgo, by simp, ?_⟩
      have hI2 := hI.line2 (g' := (⟨.sl id' 1 0 (iRow g.lines ++ [[PV.lit (.int .i64 (j : Nat))]]).length, g.lines ++ [((j : Nat) : Int)], g.br, g.par, g.bch⟩ : Gr)) hg2 (b1 := ((b2.upd id none).upd id' (some (.row 3 1 (iRow g.lines ++ [[PV.lit (.int .i64 (j : Nat))]]))))) (id' := id') (L' := (iRow g.lines ++ [[PV.lit (.int .i64 (j : Nat))]])) (O' := (gs.map Gr.cells).set (0 + ((k : Nat) : Int).toNat) (spl g.cells (0 + 0) [.sl id' 1 0 (iRow g.lines ++ [[PV.lit (.int .i64 (j : Nat))]]).length])) (by rw [iRow_snoc]) (set_cells (by omega) rfl) h8 (St.upd_same _ _ _) (fun x c hx hn => rep_at hx (fun e => by subst e; exact hn _ _ _ hpv) h8) rfl (by simp)
      rintro (_ | _) h9
      · exact absurd (of_decide_eq_true h4) (of_decide_eq_false h9)
      refine ⟨_, qop_idx tig_ok rfl rfl rfl rfl hW0 hWe, ?_⟩
      refine ⟨[.lit (.bool true)], _, 1, bRow es, [.lit (.bool false)], rfl, hI2.bq, by rw [hWt]; exact bRow_get he, by simp, ?_⟩
      have hI3 := hI2.mark2 (es' := es.set t true) (E' := (bRow es).set (0 + (IntKind.i64.wrap (((iRow (opI op)).length : Int) - 1)).toNat) (spl [.lit (.bool false)] 0 [.lit (.bool true)])) (by rw [hWt, bRow, bRow, List.map_set]; rfl) (by simp)
      rintro (_ | _) h10
      rotate_left
      · exact absurd ((of_decide_eq_true h4).symm.trans (of_decide_eq_true h10)) (by decide)
      exact ⟨m - 1, by omega, Gh.view [] [0, 7, 8, 9, 10] rfl (Gh.ret ⟨j + 1, by omega, rfl, .inr ⟨_, op, (es.set t true), o, p, q, hI3, benv_eq (by simp) rfl (by simp [bRow]) (incN (by omega))⟩⟩)⟩
  rintro (_ | _) h5
  rotate_left
  · rintro (_ | _) h6
    rotate_left
    · exact Gh.ret (Gh.sub hI.sub (Gh.ret ⟨rfl, .nil, [], 30, (j : Nat), by simp, by simp, rfl⟩))
    have h6 : ¬ IntKind.i64.wrap (((iRow (opI op)).length : Int) - 1) < 0 := of_decide_eq_false h6
    rw [hW] at h6
    obtain ⟨t, hop⟩ : ∃ t, op.length = t + 1 := ⟨op.length - 1, by omega⟩
    have hWt : 0 + (IntKind.i64.wrap (((iRow (opI op)).length : Int) - 1)).toNat = t := by rw [hW, hop]; omega
    have ht0 : t < op.length := by omega
    obtain ⟨k, hk⟩ : ∃ k, op[t]? = some k := ⟨op[t], List.getElem?_eq_getElem ht0⟩
    have hkl := hI.lt k (List.mem_of_getElem? hk)
    obtain ⟨g, hg2⟩ : ∃ g, gs[k]? = some g := ⟨gs[k], List.getElem?_eq_getElem hkl⟩
    have hgm := List.mem_of_getElem? hg2
    have hki : (opI op)[t]? = some (k : Int) := by rw [List.getElem?_map, hk]; rfl
    have hW0 : 0 ≤ IntKind.i64.wrap (((iRow (opI op)).length : Int) - 1) := by rw [hW]; omega
    have hWl : (IntKind.i64.wrap (((iRow (opI op)).length : Int) - 1)).toNat < (iRow (opI op)).length := by rw [hW, iRow_len, List.length_map]; omega
    have hgo : (gs.map Gr.cells)[(0 + ((k : Nat) : Int).toNat)]? = some g.cells := by rw [Nat.zero_add, Int.toNat_natCast, List.getElem?_map, hg2]; rfl
    obtain ⟨e, he⟩ : ∃ e, es[t]? = some e := ⟨es[t]'(by have := hI.len; omega), List.getElem?_eq_getElem _⟩
    have hWe : (IntKind.i64.wrap (((iRow (opI op)).length : Int) - 1)).toNat < (bRow es).length := by rw [hW, bRow_len, hI.len]; omega
    rintro (_ | _) h7
    · exact absurd (of_decide_eq_true h5) (of_decide_eq_false h7)
    refine ⟨_, qop_idx tig_ok rfl rfl rfl rfl hW0 hWl, ?_⟩
    refine ⟨[.lit (.int .i64 (k : Nat))], .lit (.int .i64 (k : Nat)), cells_row (cs := [.lit (.int .i64 (k : Nat))]) hI.bp (by rw [hWt]; exact iRow_get hki) (by simp), rfl, ?_⟩
    refine ⟨_, qop_idx tig_ok rfl rfl rfl rfl (by omega) (by rw [List.length_map]; omega), ?_⟩
    rcases hI.ln g hgm with hpv | ⟨id, hpv, hid, hsn⟩
    · refine ⟨[g.pv], .vec .tight (g.lines.map fun n => .lit (.int .i64 n)), cells_row (cs := g.cells) hI.bo hgo (by simp), by rw [hpv]; rfl, ?_⟩
      refine ⟨[[.lit (.int .i64 (j : Nat))]], rfl, iRow g.lines, elems_ints, by have := (hI.sz3 g hgm).2; show (2 * (_ + 1) + 1000) * 8 ≤ _; (try simp only [List.length_map, iRow_len]); omega, fun id' h8 => ?_⟩
      refine ⟨[.sl id' 1 0 (iRow g.lines ++ [[PV.lit (.int .i64 (j : Nat))]]).length], _, 4, gs.map Gr.cells, g.cells, rfl, by rw [St.upd_ne _ _ (fun e => by subst e; rw [hI.bo] at h8; cases h8)]; exact hI.bo, hgo, by simp, ?_⟩
      have hI2 := hI.line2 (g' := (⟨.sl id' 1 0 (iRow g.lines ++ [[PV.lit (.int .i64 (j : Nat))]]).length, g.lines ++ [((j : Nat) : Int)], g.br, g.par, g.bch⟩ : Gr)) hg2 (b1 := (b2.upd id' (some (.row 3 1 (iRow g.lines ++ [[PV.lit (.int .i64 (j : Nat))]]))))) (id' := id') (L' := (iRow g.lines ++ [[PV.lit (.int .i64 (j : Nat))]])) (O' := (gs.map Gr.cells).set (0 + ((k : Nat) : Int).toNat) (spl g.cells (0 + 0) [.sl id' 1 0 (iRow g.lines ++ [[PV.lit (.int .i64 (j : Nat))]]).length])) (by rw [iRow_snoc]) (set_cells (by omega) rfl) h8 (St.upd_same _ _ _) (fun x c hx hn => by rw [St.upd_ne _ _ (fun e => by subst e; rw [h8] at hx; cases hx)]; exact hx) rfl (by simp)
      rintro (_ | _) h9
      rotate_left
      · exact absurd ((of_decide_eq_true h5).symm.trans (of_decide_eq_true h9)) (by decide)
      rintro (_ | _) h10
      · exact absurd (of_decide_eq_true h5) (of_decide_eq_false h10)
      have hgo2 : ((gs.set k (⟨.sl id' 1 0 (iRow g.lines ++ [[PV.lit (.int .i64 (j : Nat))]]).length, g.lines ++ [((j : Nat) : Int)], g.br, g.par, g.bch⟩ : Gr)).map Gr.cells)[(0 + ((k : Nat) : Int).toNat)]? = some (⟨.sl id' 1 0 (iRow g.lines ++ [[PV.lit (.int .i64 (j : Nat))]]).length, g.lines ++ [((j : Nat) : Int)], g.br, g.par, g.bch⟩ : Gr).cells := by rw [Nat.zero_add, Int.toNat_natCast, List.getElem?_map, List.getElem?_set_self (by (try simp only [List.length_set]); omega)]; rfl
      refine ⟨[.sl id' 1 0 (iRow g.lines ++ [[PV.lit (.int .i64 (j : Nat))]]).length], .sl id' 1 0 (iRow g.lines ++ [[PV.lit (.int .i64 (j : Nat))]]).length, cells_row (cs := Gr.cells (⟨.sl id' 1 0 (iRow g.lines ++ [[PV.lit (.int .i64 (j : Nat))]]).length, g.lines ++ [((j : Nat) : Int)], g.br, g.par, g.bch⟩ : Gr)) hI2.bo hgo2 (by simp), rfl, ?_⟩
      refine ⟨[.lit (.int .i64 (IntKind.i64.wrap (((iRow g.lines ++ [[PV.lit (.int .i64 (j : Nat))]]).length : Int) - 1)))], _, 4, _, Gr.cells (⟨.sl id' 1 0 (iRow g.lines ++ [[PV.lit (.int .i64 (j : Nat))]]).length, g.lines ++ [((j : Nat) : Int)], g.br, g.par, g.bch⟩ : Gr), rfl, hI2.bo, hgo2, by simp, ?_⟩
      have hk2 : (gs.set k (⟨.sl id' 1 0 (iRow g.lines ++ [[PV.lit (.int .i64 (j : Nat))]]).length, g.lines ++ [((j : Nat) : Int)], g.br, g.par, g.bch⟩ : Gr))[k]? = some (⟨.sl id' 1 0 (iRow g.lines ++ [[PV.lit (.int .i64 (j : Nat))]]).length, g.lines ++ [((j : Nat) : Int)], g.br, g.par, g.bch⟩ : Gr) := List.getElem?_set_self (by omega)
      have hI3 := hI2.nums2 (k := k) (g := (⟨.sl id' 1 0 (iRow g.lines ++ [[PV.lit (.int .i64 (j : Nat))]]).length, g.lines ++ [((j : Nat) : Int)], g.br, g.par, g.bch⟩ : Gr)) (g' := (⟨.sl id' 1 0 (iRow g.lines ++ [[PV.lit (.int .i64 (j : Nat))]]).length, g.lines ++ [((j : Nat) : Int)], (IntKind.i64.wrap (((iRow g.lines ++ [[PV.lit (.int .i64 (j : Nat))]]).length : Int) - 1)), g.par, g.bch⟩ : Gr)) hk2 (O' := ((gs.set k (⟨.sl id' 1 0 (iRow g.lines ++ [[PV.lit (.int .i64 (j : Nat))]]).length, g.lines ++ [((j : Nat) : Int)], g.br, g.par, g.bch⟩ : Gr)).map Gr.cells).set (0 + ((k : Nat) : Int).toNat) (spl (Gr.cells (⟨.sl id' 1 0 (iRow g.lines ++ [[PV.lit (.int .i64 (j : Nat))]]).length, g.lines ++ [((j : Nat) : Int)], g.br, g.par, g.bch⟩ : Gr)) (0 + 1) [.lit (.int .i64 (IntKind.i64.wrap (((iRow g.lines ++ [[PV.lit (.int .i64 (j : Nat))]]).length : Int) - 1)))])) (set_cells (by omega) rfl) rfl rfl
      have hgo3 : (((gs.set k (⟨.sl id' 1 0 (iRow g.lines ++ [[PV.lit (.int .i64 (j : Nat))]]).length, g.lines ++ [((j : Nat) : Int)], g.br, g.par, g.bch⟩ : Gr)).set k (⟨.sl id' 1 0 (iRow g.lines ++ [[PV.lit (.int .i64 (j : Nat))]]).length, g.lines ++ [((j : Nat) : Int)], (IntKind.i64.wrap (((iRow g.lines ++ [[PV.lit (.int .i64 (j : Nat))]]).length : Int) - 1)), g.par, g.bch⟩ : Gr)).map Gr.cells)[(0 + ((k : Nat) : Int).toNat)]? = some (⟨.sl id' 1 0 (iRow g.lines ++ [[PV.lit (.int .i64 (j : Nat))]]).length, g.lines ++ [((j : Nat) : Int)], (IntKind.i64.wrap (((iRow g.lines ++ [[PV.lit (.int .i64 (j : Nat))]]).length : Int) - 1)), g.par, g.bch⟩ : Gr).cells := by rw [Nat.zero_add, Int.toNat_natCast, List.getElem?_map, List.getElem?_set_self (by (try simp only [List.length_set]); omega)]; rfl
      refine ⟨_, qop_idx tig_ok rfl rfl rfl rfl hW0 hWe, ?_⟩
      refine ⟨[.lit (.bool e)], .lit (.bool e), cells_row (cs := [.lit (.bool e)]) hI3.bq (by rw [hWt]; exact bRow_get he) (by simp), rfl, ?_⟩
      rcases e with _ | _
      · refine ⟨[.lit (.int .i64 (IntKind.i64.wrap (((iRow g.lines ++ [[PV.lit (.int .i64 (j : Nat))]]).length : Int) - 1)))], .lit (.int .i64 (IntKind.i64.wrap (((iRow g.lines ++ [[PV.lit (.int .i64 (j : Nat))]]).length : Int) - 1))), cells_row (cs := Gr.cells (⟨.sl id' 1 0 (iRow g.lines ++ [[PV.lit (.int .i64 (j : Nat))]]).length, g.lines ++ [((j : Nat) : Int)], (IntKind.i64.wrap (((iRow g.lines ++ [[PV.lit (.int .i64 (j : Nat))]]).length : Int) - 1)), g.par, g.bch⟩ : Gr)) hI3.bo hgo3 (by simp), rfl, ?_⟩
        refine ⟨[.lit (.int .i64 (IntKind.i64.wrap ((IntKind.i64.wrap (((iRow g.lines ++ [[PV.lit (.int .i64 (j : Nat))]]).length : Int) - 1)) + 1)))], _, 4, _, Gr.cells (⟨.sl id' 1 0 (iRow g.lines ++ [[PV.lit (.int .i64 (j : Nat))]]).length, g.lines ++ [((j : Nat) : Int)], (IntKind.i64.wrap (((iRow g.lines ++ [[PV.lit (.int .i64 (j : Nat))]]).length : Int) - 1)), g.par, g.bch⟩ : Gr), rfl, hI3.bo, hgo3, by simp, ?_⟩
        have hk3 : ((gs.set k (⟨.sl id' 1 0 (iRow g.lines ++ [[PV.lit (.int .i64 (j : Nat))]]).length, g.lines ++ [((j : Nat) : Int)], g.br, g.par, g.bch⟩ : Gr)).set k (⟨.sl id' 1 0 (iRow g.lines ++ [[PV.lit (.int .i64 (j : Nat))]]).length, g.lines ++ [((j : Nat) : Int)], (IntKind.i64.wrap (((iRow g.lines ++ [[PV.lit (.int .i64 (j : Nat))]]).length : Int) - 1)), g.par, g.bch⟩ : Gr))[k]? = some (⟨.sl id' 1 0 (iRow g.lines ++ [[PV.lit (.int .i64 (j : Nat))]]).length, g.lines ++ [((j : Nat) : Int)], (IntKind.i64.wrap (((iRow g.lines ++ [[PV.lit (.int .i64 (j : Nat))]]).length : Int) - 1)), g.par, g.bch⟩ : Gr) := List.getElem?_set_self (by (try simp only [List.length_set]); omega)
        have hI4 := hI3.nums2 (k := k) (g := (⟨.sl id' 1 0 (iRow g.lines ++ [[PV.lit (.int .i64 (j : Nat))]]).length, g.lines ++ [((j : Nat) : Int)], (IntKind.i64.wrap (((iRow g.lines ++ [[PV.lit (.int .i64 (j : Nat))]]).length : Int) - 1)), g.par, g.bch⟩ : Gr)) (g' := (⟨.sl id' 1 0 (iRow g.lines ++ [[PV.lit (.int .i64 (j : Nat))]]).length, g.lines ++ [((j : Nat) : Int)], (IntKind.i64.wrap ((IntKind.i64.wrap (((iRow g.lines ++ [[PV.lit (.int .i64 (j : Nat))]]).length : Int) - 1)) + 1)), g.par, g.bch⟩ : Gr)) hk3 (O' := (((gs.set k (⟨.sl id' 1 0 (iRow g.lines ++ [[PV.lit (.int .i64 (j : Nat))]]).length, g.lines ++ [((j : Nat) : Int)], g.br, g.par, g.bch⟩ : Gr)).set k (⟨.sl id' 1 0 (iRow g.lines ++ [[PV.lit (.int .i64 (j : Nat))]]).length, g.lines ++ [((j : Nat) : Int)], (IntKind.i64.wrap (((iRow g.lines ++ [[PV.lit (.int .i64 (j : Nat))]]).length : Int) - 1)), g.par, g.bch⟩ : Gr)).map Gr.cells).set (0 + ((k : Nat) : Int).toNat) (spl (Gr.cells (⟨.sl id' 1 0 (iRow g.lines ++ [[PV.lit (.int .i64 (j : Nat))]]).length, g.lines ++ [((j : Nat) : Int)], (IntKind.i64.wrap (((iRow g.lines ++ [[PV.lit (.int .i64 (j : Nat))]]).length : Int) - 1)), g.par, g.bch⟩ : Gr)) (0 + 1) [.lit (.int .i64 (IntKind.i64.wrap ((IntKind.i64.wrap (((iRow g.lines ++ [[PV.lit (.int .i64 (j : Nat))]]).length : Int) - 1)) + 1)))])) (set_cells (by omega) rfl) rfl rfl
        refine ⟨_, qop_cut tig_ok rfl rfl rfl rfl hW0 (Nat.le_of_lt hWl), ?_⟩
        refine ⟨_, qop_cut tig_ok rfl rfl rfl rfl hW0 (Nat.le_of_lt hWe), ?_⟩
        refine ⟨m - 1, by omega, Gh.view [] [0, 7, 8, 9, 10] rfl (Gh.cut t hI4.bp (Gh.cut t (by rw [St.upd_ne _ _ (Ne.symm hI4.opq.2.2)]; exact hI4.bq) (Gh.ret ⟨j + 1, by omega, rfl, .inr ⟨_, op.take t, es.take t, o, p, q, hI4.pop t (by omega), ?_⟩⟩)))⟩
        exact benv_eq (by simp) (by have := hWt; rw [iRow_len (opI (op.take t)), List.length_map, List.length_take]; omega) (by have := hWt; have := hI.len; rw [bRow_len, List.length_take]; omega) (incN (by omega))
      · refine ⟨_, qop_cut tig_ok rfl rfl rfl rfl hW0 (Nat.le_of_lt hWl), ?_⟩
        refine ⟨_, qop_cut tig_ok rfl rfl rfl rfl hW0 (Nat.le_of_lt hWe), ?_⟩
        refine ⟨m - 1, by omega, Gh.view [] [0, 7, 8, 9, 10] rfl (Gh.cut t hI3.bp (Gh.cut t (by rw [St.upd_ne _ _ (Ne.symm hI3.opq.2.2)]; exact hI3.bq) (Gh.ret ⟨j + 1, by omega, rfl, .inr ⟨_, op.take t, es.take t, o, p, q, hI3.pop t (by omega), ?_⟩⟩)))⟩
        exact benv_eq (by simp) (by have := hWt; rw [iRow_len (opI (op.take t)), List.length_map, List.length_take]; omega) (by have := hWt; have := hI.len; rw [bRow_len, List.length_take]; omega) (incN (by omega))
    · refine ⟨[g.pv], .sl id 1 0 (iRow g.lines).length, cells_row (cs := g.cells) hI.bo hgo (by simp), by rw [hpv]; rfl, ?_⟩
      refine ⟨[[.lit (.int .i64 (j : Nat))]], rfl, iRow g.lines, hid, rfl, rfl, rfl, by have := (hI.sz3 g hgm).2; show (2 * (_ + 1) + 1000) * 8 ≤ _; (try simp only [List.length_map, iRow_len]); omega, fun id' h8 => ?_⟩
      refine ⟨[.sl id' 1 0 (iRow g.lines ++ [[PV.lit (.int .i64 (j : Nat))]]).length], _, 4, gs.map Gr.cells, g.cells, rfl, rep_at hI.bo (Ne.symm (hI.ne hgm hpv).1) h8, hgo, by simp, ?_⟩
      have hI2 := hI.line2 (g' := (⟨.sl id' 1 0 (iRow g.lines ++ [[PV.lit (.int .i64 (j : Nat))]]).length, g.lines ++ [((j : Nat) : Int)], g.br, g.par, g.bch⟩ : Gr)) hg2 (b1 := ((b2.upd id none).upd id' (some (.row 3 1 (iRow g.lines ++ [[PV.lit (.int .i64 (j : Nat))]]))))) (id' := id') (L' := (iRow g.lines ++ [[PV.lit (.int .i64 (j : Nat))]])) (O' := (gs.map Gr.cells).set (0 + ((k : Nat) : Int).toNat) (spl g.cells (0 + 0) [.sl id' 1 0 (iRow g.lines ++ [[PV.lit (.int .i64 (j : Nat))]]).length])) (by rw [iRow_snoc]) (set_cells (by omega) rfl) h8 (St.upd_same _ _ _) (fun x c hx hn => rep_at hx (fun e => by subst e; exact hn _ _ _ hpv) h8) rfl (by simp)
      rintro (_ | _) h9
      rotate_left
      · exact absurd ((of_decide_eq_true h5).symm.trans (of_decide_eq_true h9)) (by decide)
      rintro (_ | _) h10
      · exact absurd (of_decide_eq_true h5) (of_decide_eq_false h10)
      have hgo2 : ((gs.set k (⟨.sl id' 1 0 (iRow g.lines ++ [[PV.lit (.int .i64 (j : Nat))]]).length, g.lines ++ [((j : Nat) : Int)], g.br, g.par, g.bch⟩ : Gr)).map Gr.cells)[(0 + ((k : Nat) : Int).toNat)]? = some (⟨.sl id' 1 0 (iRow g.lines ++ [[PV.lit (.int .i64 (j : Nat))]]).length, g.lines ++ [((j : Nat) : Int)], g.br, g.par, g.bch⟩ : Gr).cells := by rw [Nat.zero_add, Int.toNat_natCast, List.getElem?_map, List.getElem?_set_self (by (try simp only [List.length_set]); omega)]; rfl
      refine ⟨[.sl id' 1 0 (iRow g.lines ++ [[PV.lit (.int .i64 (j : Nat))]]).length], .sl id' 1 0 (iRow g.lines ++ [[PV.lit (.int .i64 (j : Nat))]]).length, cells_row (cs := Gr.cells (⟨.sl id' 1 0 (iRow g.lines ++ [[PV.lit (.int .i64 (j : Nat))]]).length, g.lines ++ [((j : Nat) : Int)], g.br, g.par, g.bch⟩ : Gr)) hI2.bo hgo2 (by simp), rfl, ?_⟩
      refine ⟨[.lit (.int .i64 (IntKind.i64.wrap (((iRow g.lines ++ [[PV.lit (.int .i64 (j : Nat))]]).length : Int) - 1)))], _, 4, _, Gr.cells (⟨.sl id' 1 0 (iRow g.lines ++ [[PV.lit (.int .i64 (j : Nat))]]).length, g.lines ++ [((j : Nat) : Int)], g.br, g.par, g.bch⟩ : Gr), rfl, hI2.bo, hgo2, by simp, ?_⟩
      have hk2 : (gs.set k (⟨.sl id' 1 0 (iRow g.lines ++ [[PV.lit (.int .i64 (j : Nat))]]).length, g.lines ++ [((j : Nat) : Int)], g.br, g.par, g.bch⟩ : Gr))[k]? = some (⟨.sl id' 1 0 (iRow g.lines ++ [[PV.lit (.int .i64 (j : Nat))]]).length, g.lines ++ [((j : Nat) : Int)], g.br, g.par, g.bch⟩ : Gr) := List.getElem?_set_self (by omega)
      have hI3 := hI2.nums2 (k := k) (g := (⟨.sl id' 1 0 (iRow g.lines ++ [[PV.lit (.int .i64 (j : Nat))]]).length, g.lines ++ [((j : Nat) : Int)], g.br, g.par, g.bch⟩ : Gr)) (g' := (⟨.sl id' 1 0 (iRow g.lines ++ [[PV.lit (.int .i64 (j : Nat))]]).length, g.lines ++ [((j : Nat) : Int)], (IntKind.i64.wrap (((iRow g.lines ++ [[PV.lit (.int .i64 (j : Nat))]]).length : Int) - 1)), g.par, g.bch⟩ : Gr)) hk2 (O' := ((gs.set k (⟨.sl id' 1 0 (iRow g.lines ++ [[PV.lit (.int .i64 (j : Nat))]]).length, g.lines ++ [((j : Nat) : Int)], g.br, g.par, g.bch⟩ : Gr)).map Gr.cells).set (0 + ((k : Nat) : Int).toNat) (spl (Gr.cells (⟨.sl id' 1 0 (iRow g.lines ++ [[PV.lit (.int .i64 (j : Nat))]]).length, g.lines ++ [((j : Nat) : Int)], g.br, g.par, g.bch⟩ : Gr)) (0 + 1) [.lit (.int .i64 (IntKind.i64.wrap (((iRow g.lines ++ [[PV.lit (.int .i64 (j : Nat))]]).length : Int) - 1)))])) (set_cells (by omega) rfl) rfl rfl
      have hgo3 : (((gs.set k (⟨.sl id' 1 0 (iRow g.lines ++ [[PV.lit (.int .i64 (j : Nat))]]).length, g.lines ++ [((j : Nat) : Int)], g.br, g.par, g.bch⟩ : Gr)).set k (⟨.sl id' 1 0 (iRow g.lines ++ [[PV.lit (.int .i64 (j : Nat))]]).length, g.lines ++ [((j : Nat) : Int)], (IntKind.i64.wrap (((iRow g.lines ++ [[PV.lit (.int .i64 (j : Nat))]]).length : Int) - 1)), g.par, g.bch⟩ : Gr)).map Gr.cells)[(0 + ((k : Nat) : Int).toNat)]? = some (⟨.sl id' 1 0 (iRow g.lines ++ [[PV.lit (.int .i64 (j : Nat))]]).length, g.lines ++ [((j : Nat) : Int)], (IntKind.i64.wrap (((iRow g.lines ++ [[PV.lit (.int .i64 (j : Nat))]]).length : Int) - 1)), g.par, g.bch⟩ : Gr).cells := by rw [Nat.zero_add, Int.toNat_natCast, List.getElem?_map, List.getElem?_set_self (by (try simp only [List.length_set]); omega)]; rfl
      refine ⟨_, qop_idx tig_ok rfl rfl rfl rfl hW0 hWe, ?_⟩
      refine ⟨[.lit (.bool e)], .lit (.bool e), cells_row (cs := [.lit (.bool e)]) hI3.bq (by rw [hWt]; exact bRow_get he) (by simp), rfl, ?_⟩
      rcases e with _ | _
      · refine ⟨[.lit (.int .i64 (IntKind.i64.wrap (((iRow g.lines ++ [[PV.lit (.int .i64 (j : Nat))]]).length : Int) - 1)))], .lit (.int .i64 (IntKind.i64.wrap (((iRow g.lines ++ [[PV.lit (.int .i64 (j : Nat))]]).length : Int) - 1))), cells_row (cs := Gr.cells (⟨.sl id' 1 0 (iRow g.lines ++ [[PV.lit (.int .i64 (j : Nat))]]).length, g.lines ++ [((j : Nat) : Int)], (IntKind.i64.wrap (((iRow g.lines ++ [[PV.lit (.int .i64 (j : Nat))]]).length : Int) - 1)), g.par, g.bch⟩ : Gr)) hI3.bo hgo3 (by simp), rfl, ?_⟩
        refine ⟨[.lit (.int .i64 (IntKind.i64.wrap ((IntKind.i64.wrap (((iRow g.lines ++ [[PV.lit (.int .i64 (j : Nat))]]).length : Int) - 1)) + 1)))], _, 4, _, Gr.cells (⟨.sl id' 1 0 (iRow g.lines ++ [[PV.lit (.int .i64 (j : Nat))]]).length, g.lines ++ [((j : Nat) : Int)], (IntKind.i64.wrap (((iRow g.lines ++ [[PV.lit (.int .i64 (j : Nat))]]).length : Int) - 1)), g.par, g.bch⟩ : Gr), rfl, hI3.bo, hgo3, by simp, ?_⟩
        have hk3 : ((gs.set k (⟨.sl id' 1 0 (iRow g.lines ++ [[PV.lit (.int .i64 (j : Nat))]]).length, g.lines ++ [((j : Nat) : Int)], g.br, g.par, g.bch⟩ : Gr)).set k (⟨.sl id' 1 0 (iRow g.lines ++ [[PV.lit (.int .i64 (j : Nat))]]).length, g.lines ++ [((j : Nat) : Int)], (IntKind.i64.wrap (((iRow g.lines ++ [[PV.lit (.int .i64 (j : Nat))]]).length : Int) - 1)), g.par, g.bch⟩ : Gr))[k]? = some (⟨.sl id' 1 0 (iRow g.lines ++ [[PV.lit (.int .i64 (j : Nat))]]).length, g.lines ++ [((j : Nat) : Int)], (IntKind.i64.wrap (((iRow g.lines ++ [[PV.lit (.int .i64 (j : Nat))]]).length : Int) - 1)), g.par, g.bch⟩ : Gr) := List.getElem?_set_self (by (try simp only [List.length_set]); omega)
        have hI4 := hI3.nums2 (k := k) (g := (⟨.sl id' 1 0 (iRow g.lines ++ [[PV.lit (.int .i64 (j : Nat))]]).length, g.lines ++ [((j : Nat) : Int)], (IntKind.i64.wrap (((iRow g.lines ++ [[PV.lit (.int .i64 (j : Nat))]]).length : Int) - 1)), g.par, g.bch⟩ : Gr)) (g' := (⟨.sl id' 1 0 (iRow g.lines ++ [[PV.lit (.int .i64 (j : Nat))]]).length, g.lines ++ [((j : Nat) : Int)], (IntKind.i64.wrap ((IntKind.i64.wrap (((iRow g.lines ++ [[PV.lit (.int .i64 (j : Nat))]]).length : Int) - 1)) + 1)), g.par, g.bch⟩ : Gr)) hk3 (O' := (((gs.set k (⟨.sl id' 1 0 (iRow g.lines ++ [[PV.lit (.int .i64 (j : Nat))]]).length, g.lines ++ [((j : Nat) : Int)], g.br, g.par, g.bch⟩ : Gr)).set k (⟨.sl id' 1 0 (iRow g.lines ++ [[PV.lit (.int .i64 (j : Nat))]]).length, g.lines ++ [((j : Nat) : Int)], (IntKind.i64.wrap (((iRow g.lines ++ [[PV.lit (.int .i64 (j : Nat))]]).length : Int) - 1)), g.par, g.bch⟩ : Gr)).map Gr.cells).set (0 + ((k : Nat) : Int).toNat) (spl (Gr.cells (⟨.sl id' 1 0 (iRow g.lines ++ [[PV.lit (.int .i64 (j : Nat))]]).length, g.lines ++ [((j : Nat) : Int)], (IntKind.i64.wrap (((iRow g.lines ++ [[PV.lit (.int .i64 (j : Nat))]]).length : Int) - 1)), g.par, g.bch⟩ : Gr)) (0 + 1) [.lit (.int .i64 (IntKind.i64.wrap ((IntKind.i64.wrap (((iRow g.lines ++ [[PV.lit (.int .i64 (j : Nat))]]).length : Int) - 1)) + 1)))])) (set_cells (by omega) rfl) rfl rfl
        refine ⟨_, qop_cut tig_ok rfl rfl rfl rfl hW0 (Nat.le_of_lt hWl), ?_⟩
        refine ⟨_, qop_cut tig_ok rfl rfl rfl rfl hW0 (Nat.le_of_lt hWe), ?_⟩
        refine ⟨m - 1, by omega, Gh.view [] [0, 7, 8, 9, 10] rfl (Gh.cut t hI4.bp (Gh.cut t (by rw [St.upd_ne _ _ (Ne.symm hI4.opq.2.2)]; exact hI4.bq) (Gh.ret ⟨j + 1, by omega, rfl, .inr ⟨_, op.take t, es.take t, o, p, q, hI4.pop t (by omega), ?_⟩⟩)))⟩
        exact benv_eq (by simp) (by have := hWt; rw [iRow_len (opI (op.take t)), List.length_map, List.length_take]; omega) (by have := hWt; have := hI.len; rw [bRow_len, List.length_take]; omega) (incN (by omega))
      · refine ⟨_, qop_cut tig_ok rfl rfl rfl rfl hW0 (Nat.le_of_lt hWl), ?_⟩
        refine ⟨_, qop_cut tig_ok rfl rfl rfl rfl hW0 (Nat.le_of_lt hWe), ?_⟩
        refine ⟨m - 1, by omega, Gh.view [] [0, 7, 8, 9, 10] rfl (Gh.cut t hI3.bp (Gh.cut t (by rw [St.upd_ne _ _ (Ne.symm hI3.opq.2.2)]; exact hI3.bq) (Gh.ret ⟨j + 1, by omega, rfl, .inr ⟨_, op.take t, es.take t, o, p, q, hI3.pop t (by omega), ?_⟩⟩)))⟩
        exact benv_eq (by simp) (by have := hWt; rw [iRow_len (opI (op.take t)), List.length_map, List.length_take]; omega) (by have := hWt; have := hI.len; rw [bRow_len, List.length_take]; omega) (incN (by omega))
  exact ⟨m - 1, by omega, Gh.view [] [0, 7, 8, 9, 10] rfl (Gh.ret ⟨j + 1, by omega, rfl, .inr ⟨gs, op, es, o, p, q, hI.next, benv_eq rfl rfl rfl (incN (by omega))⟩⟩)⟩
end Go.Pv

/- A view of the tokens, on the reference's side. -/
namespace Go.Pv
open Go.Proofs
set_option linter.unusedVariables false
set_option linter.unusedSimpArgs false
set_option maxRecDepth 100000
set_option maxHeartbeats 4000000
/-- What a view comes as. -/
def VOk (n : Nat) (r : Res) : Prop := ∃ (k : VK) (v : List Int) (e : Int), AscV n v ∧ v.length ≤ n ∧ r = .ret (.tup [ints k v, .lit (.int .i64 e)])
theorem VOk.err {n : Nat} (e : Int) : VOk n (.ret (.tup [.vec .nil [], .lit (.int .i64 e)])) := ⟨.nil, [], e, ⟨by simp, by simp⟩, by simp, rfl⟩
structure AscB (i : Nat) (L : List Int) : Prop where
  len : L.length ≤ i
  rng : ∀ p ∈ L, 0 ≤ p ∧ p < i
  up : ∀ (j : Nat) (p q : Int), L[j]? = some p → L[j + 1]? = some q → p < q
theorem AscB.next {i : Nat} {L : List Int} (h : AscB i L) : AscB (i + 1) L := ⟨by have := h.len; omega, fun p hp => by have := h.rng p hp; omega, h.up⟩
theorem AscB.snoc {i : Nat} {L : List Int} (h : AscB i L) : AscB (i + 1) (L ++ [(i : Int)]) := by
  refine ⟨by have := h.len; simp; omega, fun p hp => ?_, fun j p q h1 h2 => ?_⟩
  · rcases List.mem_append.1 hp with hp | hp
    · have := h.rng p hp; omega
    · rw [List.mem_singleton] at hp; subst hp; omega
  · rcases Nat.lt_or_ge (j + 1) L.length with hj | hj
    · rw [List.getElem?_append_left (by omega)] at h1 h2
      exact h.up j p q h1 h2
    · rw [List.getElem?_append_right hj] at h2
      have hm := List.mem_of_getElem? h2
      rw [List.mem_singleton] at hm
      subst hm
      have hlt : j + 1 - L.length < 1 := (List.getElem?_eq_some_iff.1 h2).1
      rw [List.getElem?_append_left (by omega)] at h1
      have := h.rng p (List.mem_of_getElem? h1)
      omega
theorem AscB.asc {i : Nat} {L : List Int} (h : AscB i L) {n : Nat} (hn : i ≤ n) : AscV n L := ⟨fun p hp => by have := h.rng p hp; omega, h.up⟩
@[reducible] def v1env (k0 kc k : VK) (l : List Tk) (ch : List Int) (xs : List GOut) (i : Int) : SE := [(0, .av (.pv (toks k0 l))), (1, .av (.pv (ints kc ch))), (6, .av (.pv (.vec k (xs.map GOut.enc)))), (9, .av (.pv (.lit (.int .i64 i))))]
@[reducible] def v2env (k0 kc k : VK) (l : List Tk) (ch : List Int) (xs : List GOut) (o : SV) (i : Int) : SE := [(0, .av (.pv (toks k0 l))), (1, .av (.pv (ints kc ch))), (6, .av (.pv (.vec k (xs.map GOut.enc)))), (10, o), (11, .av (.pv (.lit (.int .i64 i))))]
@[reducible] def v3env (k0 kc k : VK) (l : List Tk) (ch : List Int) (xs : List GOut) (o : SV) (i : Int) (c : Bool) (j : Int) : SE := [(0, .av (.pv (toks k0 l))), (1, .av (.pv (ints kc ch))), (6, .av (.pv (.vec k (xs.map GOut.enc)))), (10, o), (11, .av (.pv (.lit (.int .i64 i)))), (12, .av (.pv (.lit (.bool c)))), (13, .av (.pv (.lit (.int .i64 j))))]
theorem rview_c (k0 kc : VK) (l : List Tk) (ch : List Int) (hl : l.length ≤ 100000) (hx : ∀ t ∈ l, t.text.size ≤ 20000) (s : St) : PCalls Tryd.prog 6 [toks k0 l, ints kc ch] s (fun r s' => s' = s ∧ VOk l.length r) := by
  refine PCalls.funF 1 (D := [(9, ([0, 1, 2, 3, 4, 5, 6, 7, 8, 10, 11, 12, 13, 9, 14, 15, 16], [], []))]) ti_ok Tryd.func6 rfl (by kernel_rfl) ?_
  refine sc_pureR (ps := [toks k0 l]) (R := fun v => GOk l.length (.ret v)) (fun s _ => (rgroups_c k0 l hl hx s).mono ?_) rfl rfl ?_
  · rintro r s' ⟨rfl, k, xs, e, m, h1, h2, rfl⟩
    exact ⟨rfl, _, ⟨k, xs, e, m, h1, h2, rfl⟩, rfl⟩
  rintro _ ⟨k, xs, e, m, hxl, hxs, h⟩
  cases h
  rintro (_ | _) h1
  · exact .inl ⟨rfl, VOk.err e⟩
  rintro (_ | _) h2
  · exact .inl ⟨rfl, VOk.err 1⟩
  have h2 := of_decide_eq_true h2
  rw [List.length_map, List.length_map] at h2
  have hcx : ch.length = xs.length := by omega
  refine sw_loop (D := [(9, ([0, 1, 2, 3, 4, 5, 6, 7, 8, 10, 11, 12, 13, 9, 14, 15, 16], [], []))]) ti_ok (by kernel_rfl) (fun n env st b => ∃ i : Nat, i + n = ch.length ∧ b = s ∧ env = v1env k0 kc k l ch xs (i : Nat) ∧ st = []) ch.length ⟨[], [0, 1, 6, 9], rfl, 0, by omega, rfl, rfl, rfl⟩ ?_
  rintro n env st b ⟨i, hi, rfl, rfl, rfl⟩
  rintro (_ | _) ht
  rotate_left
  · rw [List.length_map] at ht
    have hlt : i < ch.length := by have := of_decide_eq_true ht; omega
    have hg := List.getElem?_eq_getElem hlt
    have hlx : i < xs.length := by omega
    have hgx := List.getElem?_eq_getElem hlx
    refine ⟨by kernel_rfl, ?_⟩
    refine ⟨.lit (.int .i64 ch[i]), ⟨by omega, by rw [Int.toNat_natCast, List.getElem?_map, hg]; rfl, rfl⟩, ?_⟩
    rintro (_ | _) h3
    rotate_left
    · exact .inl ⟨rfl, VOk.err 1⟩
    refine ⟨.lit (.int .i64 ch[i]), ⟨by omega, by rw [Int.toNat_natCast, List.getElem?_map, hg]; rfl, rfl⟩, ?_⟩
    refine ⟨GOut.enc xs[i], ⟨by omega, by rw [Int.toNat_natCast, List.getElem?_map, hgx]; rfl, rfl⟩, ?_⟩
    rintro (_ | _) h4
    rotate_left
    · exact .inl ⟨rfl, VOk.err 1⟩
    exact ⟨n - 1, by omega, [], [0, 1, 6, 9], rfl, i + 1, by omega, rfl, (show v1env k0 kc k l ch xs (IntKind.i64.wrap ((i : Int) + 1)) = v1env k0 kc k l ch xs ((i + 1 : Nat) : Int) by rw [incN (by omega)]), rfl⟩
  refine sw_loop (D := []) ti_ok (by kernel_rfl) (fun n env st b2 => ∃ (i : Nat) (L : List Int), i + n = l.length ∧ AscB i L ∧ b2 = b ∧ ((L = [] ∧ env = v2env k0 kc k l ch xs (.av (.pv (.vec .nil []))) (i : Nat) ∧ st = []) ∨ (L ≠ [] ∧ env = v2env k0 kc k l ch xs (.av (.own 0)) (i : Nat) ∧ st = [some (.lst 3 1 (iRow L))]))) l.length ⟨[], [0, 1, 6, 10, 11], rfl, 0, [], by omega, ⟨by simp, by simp, by simp⟩, rfl, .inl ⟨rfl, rfl, rfl⟩⟩ ?_
  rintro m2 env st b2 ⟨j, L, hj, hL, rfl, ⟨hL0, rfl, rfl⟩ | ⟨hL0, rfl, rfl⟩⟩
  · rintro (_ | _) ht2
    · exact .inl ⟨rfl, .nil, [], 0, ⟨by simp, by simp⟩, by simp, rfl⟩
    rw [List.length_map] at ht2
    have hlt : j < l.length := by have := of_decide_eq_true ht2; omega
    have hg := List.getElem?_eq_getElem hlt
    obtain ⟨x, hxx⟩ : ∃ x, l[j] = x := ⟨_, rfl⟩
    rw [hxx] at hg
    refine ⟨encT x, ⟨by omega, by rw [Int.toNat_natCast, List.getElem?_map, hg]; rfl, rfl⟩, ?_⟩
    intro c0 hc0
    refine sw_loop (D := []) ti_ok (by kernel_rfl) (fun n env st b3 => ∃ (i : Nat) (c : Bool), i + n = xs.length ∧ b3 = b2 ∧ env = v3env k0 kc k l ch xs (.av (.pv (.vec .nil []))) (j : Nat) c (i : Nat) ∧ st = []) xs.length ⟨[], [0, 1, 6, 10, 11, 12, 13], rfl, 0, _, by omega, rfl, rfl, rfl⟩ ?_
    rintro n3 env st b3 ⟨i3, c, hi3, rfl, rfl, rfl⟩
    have lf : ∀ c' : Bool, v3env k0 kc k l ch xs (.av (.pv (.vec .nil []))) (j : Nat) c' (IntKind.i64.wrap ((i3 : Int) + 1)) = v3env k0 kc k l ch xs (.av (.pv (.vec .nil []))) (j : Nat) c' ((i3 + 1 : Nat) : Int) := fun c' => by rw [incN (by omega)]
    rintro (_ | _) ht3
    rotate_left
    · rw [List.length_map] at ht3
      have hlt3 : i3 < xs.length := by have := of_decide_eq_true ht3; omega
      have hg3 := List.getElem?_eq_getElem hlt3
      have hgc := List.getElem?_eq_getElem (show i3 < ch.length by omega)
      refine ⟨GOut.enc xs[i3], ⟨by omega, by rw [Int.toNat_natCast, List.getElem?_map, hg3]; rfl, rfl⟩, ?_⟩
      refine sc_pureR (ps := [GOut.enc xs[i3], .lit (.int .i64 (j : Nat))]) (R := fun v => ∃ n : Int, v = .lit (.int .i64 n)) (fun s _ => rwithin_c _ _ _ _ _ _ (by have := hxs _ (List.getElem_mem hlt3); omega) s) rfl rfl ?_
      rintro _ ⟨w, rfl⟩
      rcases c with _ | _
      · exact ⟨n3 - 1, by omega, [], [0, 1, 6, 10, 11, 12, 13], rfl, i3 + 1, false, by omega, rfl, lf false, rfl⟩
      rintro (_ | _) h5
      rotate_left
      · exact ⟨n3 - 1, by omega, [], [0, 1, 6, 10, 11, 12, 13], rfl, i3 + 1, true, by omega, rfl, lf true, rfl⟩
      refine ⟨.lit (.int .i64 ch[i3]), ⟨by omega, by rw [Int.toNat_natCast, List.getElem?_map, hgc]; rfl, rfl⟩, ?_⟩
      rintro (_ | _) h6
      rotate_left
      · exact ⟨n3 - 1, by omega, [], [0, 1, 6, 10, 11, 12, 13], rfl, i3 + 1, true, by omega, rfl, lf true, rfl⟩
      refine ⟨encT x, ⟨by omega, by rw [Int.toNat_natCast, List.getElem?_map, hg]; rfl, rfl⟩, ?_⟩
      rintro c7 h7
      exact ⟨n3 - 1, by omega, [], [0, 1, 6, 10, 11, 12, 13], rfl, i3 + 1, c7, by omega, rfl, lf c7, rfl⟩
    rcases c with _ | _
    · exact ⟨m2 - 1, by omega, [], [0, 1, 6, 10, 11], rfl, j + 1, L, by omega, hL.next, rfl, .inl ⟨hL0, (show v2env k0 kc k l ch xs (.av (.pv (.vec .nil []))) (IntKind.i64.wrap ((j : Int) + 1)) = v2env k0 kc k l ch xs (.av (.pv (.vec .nil []))) ((j + 1 : Nat) : Int) by rw [incN (by omega)]), rfl⟩⟩
    subst hL0
    refine ⟨[[.lit (.int .i64 (j : Nat))]], rfl, by simp, ?_⟩
    exact ⟨m2 - 1, by omega, [0], [0, 1, 6, 10, 11], rfl, j + 1, [] ++ [(j : Int)], by omega, hL.snoc, rfl, .inr ⟨by simp, (show v2env k0 kc k l ch xs (.av (.own 0)) (IntKind.i64.wrap ((j : Int) + 1)) = v2env k0 kc k l ch xs (.av (.own 0)) ((j + 1 : Nat) : Int) by rw [incN (by omega)]), rfl⟩⟩
  · rintro (_ | _) ht2
    · refine .inr ⟨0, L.map fun n => .lit (.int .i64 n), _, _, iRow L, rfl, by rw [List.map_map]; rfl, rfl, .any, L, 0, hL.asc (by omega), by have := hL.len; omega, rfl⟩
    rw [List.length_map] at ht2
    have hlt : j < l.length := by have := of_decide_eq_true ht2; omega
    have hg := List.getElem?_eq_getElem hlt
    obtain ⟨x, hxx⟩ : ∃ x, l[j] = x := ⟨_, rfl⟩
    rw [hxx] at hg
    refine ⟨encT x, ⟨by omega, by rw [Int.toNat_natCast, List.getElem?_map, hg]; rfl, rfl⟩, ?_⟩
    intro c0 hc0
    refine sw_loop (D := []) ti_ok (by kernel_rfl) (fun n env st b3 => ∃ (i : Nat) (c : Bool), i + n = xs.length ∧ b3 = b2 ∧ env = v3env k0 kc k l ch xs (.av (.own 0)) (j : Nat) c (i : Nat) ∧ st = [some (.lst 3 1 (iRow L))]) xs.length ⟨[0], [0, 1, 6, 10, 11, 12, 13], rfl, 0, _, by omega, rfl, rfl, rfl⟩ ?_
    rintro n3 env st b3 ⟨i3, c, hi3, rfl, rfl, rfl⟩
    have lf : ∀ c' : Bool, v3env k0 kc k l ch xs (.av (.own 0)) (j : Nat) c' (IntKind.i64.wrap ((i3 : Int) + 1)) = v3env k0 kc k l ch xs (.av (.own 0)) (j : Nat) c' ((i3 + 1 : Nat) : Int) := fun c' => by rw [incN (by omega)]
    rintro (_ | _) ht3
    rotate_left
    · rw [List.length_map] at ht3
      have hlt3 : i3 < xs.length := by have := of_decide_eq_true ht3; omega
      have hg3 := List.getElem?_eq_getElem hlt3
      have hgc := List.getElem?_eq_getElem (show i3 < ch.length by omega)
      refine ⟨GOut.enc xs[i3], ⟨by omega, by rw [Int.toNat_natCast, List.getElem?_map, hg3]; rfl, rfl⟩, ?_⟩
      refine sc_pureR (ps := [GOut.enc xs[i3], .lit (.int .i64 (j : Nat))]) (R := fun v => ∃ n : Int, v = .lit (.int .i64 n)) (fun s _ => rwithin_c _ _ _ _ _ _ (by have := hxs _ (List.getElem_mem hlt3); omega) s) rfl rfl ?_
      rintro _ ⟨w, rfl⟩
      rcases c with _ | _
      · exact ⟨n3 - 1, by omega, [0], [0, 1, 6, 10, 11, 12, 13], rfl, i3 + 1, false, by omega, rfl, lf false, rfl⟩
      rintro (_ | _) h5
      rotate_left
      · exact ⟨n3 - 1, by omega, [0], [0, 1, 6, 10, 11, 12, 13], rfl, i3 + 1, true, by omega, rfl, lf true, rfl⟩
      refine ⟨.lit (.int .i64 ch[i3]), ⟨by omega, by rw [Int.toNat_natCast, List.getElem?_map, hgc]; rfl, rfl⟩, ?_⟩
      rintro (_ | _) h6
      rotate_left
      · exact ⟨n3 - 1, by omega, [0], [0, 1, 6, 10, 11, 12, 13], rfl, i3 + 1, true, by omega, rfl, lf true, rfl⟩
      refine ⟨encT x, ⟨by omega, by rw [Int.toNat_natCast, List.getElem?_map, hg]; rfl, rfl⟩, ?_⟩
      rintro c7 h7
      exact ⟨n3 - 1, by omega, [0], [0, 1, 6, 10, 11, 12, 13], rfl, i3 + 1, c7, by omega, rfl, lf c7, rfl⟩
    rcases c with _ | _
    · exact ⟨m2 - 1, by omega, [0], [0, 1, 6, 10, 11], rfl, j + 1, L, by omega, hL.next, rfl, .inr ⟨hL0, (show v2env k0 kc k l ch xs (.av (.own 0)) (IntKind.i64.wrap ((j : Int) + 1)) = v2env k0 kc k l ch xs (.av (.own 0)) ((j + 1 : Nat) : Int) by rw [incN (by omega)]), rfl⟩⟩
    refine ⟨[[.lit (.int .i64 (j : Nat))]], rfl, by have := hL.len; rw [iRow_len]; show (2 * (_ + 1) + 1000) * 8 ≤ _; omega, ?_⟩
    exact ⟨m2 - 1, by omega, [1], [0, 1, 6, 10, 11], rfl, j + 1, L ++ [(j : Int)], by omega, hL.snoc, rfl, .inr ⟨by simp, (show v2env k0 kc k l ch xs (.av (.own 0)) (IntKind.i64.wrap ((j : Int) + 1)) = v2env k0 kc k l ch xs (.av (.own 0)) ((j + 1 : Nat) : Int) by rw [incN (by omega)]), by rw [iRow_snoc]; rfl⟩⟩
end Go.Pv

/- MacroSame: the plain law. -/
namespace Go.Pv
open Go.Proofs
set_option linter.unusedVariables false
set_option linter.unusedSimpArgs false
/-- The same kind and text. -/
def Sm (a b : Tk) : Prop := a.kind = b.kind ∧ a.text = b.text
theorem Sm.isS {a b : Tk} (h : Sm a b) (u : ByteArray) : isS a u = isS b u := by unfold Pv.isS; rw [h.1, h.2]
theorem Sm.among {a b : Tk} (h : Sm a b) (u : List ByteArray) : amongB a u = amongB b u := by unfold amongB; rw [h.1, h.2]
theorem Sm.type {a b : Tk} (h : Sm a b) : typeB a = typeB b := by unfold typeB; rw [h.1, h.among]
def SmA (x y : Arnd) : Prop := x.name = y.name ∧ x.call = y.call ∧ Sm x.last y.last ∧ Sm x.next y.next ∧ x.first = y.first ∧ x.outer = y.outer
theorem SmA.guess {x y : Arnd} (h : SmA x y) : guessA x = guessA y := by
  obtain ⟨h1, h2, h3, h4, h5, h6⟩ := h
  unfold guessA loopB declB stmtB attrB keyB
  rw [h1, h2, h5, h6, h4.1, h3.1]
  simp only [h3.among, h4.among, h4.type]
/-- What is seen is the same, up to what stands before. -/
def SmV (l : List Tk) (v : List Int) (l' : List Tk) (v' : List Int) : Prop := v.length = v'.length ∧ ∀ i, (seenT l v i).2 = (seenT l' v' i).2 ∧ Sm (seenT l v i).1 (seenT l' v' i).1
section
variable {l l' : List Tk} {v v' : List Int}
theorem SmV.callF (h : SmV l v l' v') (k : Nat) : ∀ (n i : Nat) (d : Int), callF l v k n i d = callF l' v' k n i d
  | 0, _, _ => rfl
  | n + 1, i, d => by
    have hd : deepT (seenT l v i).1 d = deepT (seenT l' v' i).1 d := by unfold deepT; rw [(h.2 i).2.isS, (h.2 i).2.isS]
    unfold Pv.callF
    rw [hd, h.callF k n]
theorem SmV.callT (h : SmV l v l' v') (k : Nat) : callT l v k = callT l' v' k := by
  unfold Pv.callT
  rw [(h.2 _).1, (h.2 _).2.isS, h.1, h.callF]
theorem SmV.depth (h : SmV l v l' v') : ∀ i, depthF l v i = depthF l' v' i
  | 0 => rfl
  | i + 1 => by unfold depthF; rw [(h.2 _).2.isS, (h.2 _).2.isS, h.depth i]
theorem SmV.guess (h : SmV l v l' v') (k : Nat) : guessT l v k = guessT l' v' k := by
  unfold guessT arndT
  refine SmA.guess ⟨(h.2 _).2.2, by rw [h.callT], (h.2 _).2, by rw [h.callT]; exact (h.2 _).2, by rw [(h.2 _).1], by rw [h.depth]⟩
theorem seenAt_T {i : Int} : seenT l v i = match seenAt l v i with | some t => (t, true) | none => (zeroT, false) := rfl
theorem SmV.guessV (h : SmV l v l' v') (k : Nat) : guessV l v k = guessV l' v' k := by
  have hk := h.2 k
  rw [seenAt_T, seenAt_T] at hk
  unfold Pv.guessV
  rw [h.guess]
  cases h1 : seenAt l v k with
  | none =>
    cases h2 : seenAt l' v' k with
    | none => rfl
    | some t => rw [h1, h2] at hk; cases hk.1
  | some t =>
    cases h2 : seenAt l' v' k with
    | none => rw [h1, h2] at hk; cases hk.1
    | some t' =>
      rw [h1, h2] at hk
      have : t.kind = t'.kind := hk.2.1
      simp only [this]
end
/-- Another text before. -/
def wB (c : ByteArray) (t : Tk) : Tk := ⟨t.kind, c, t.text, t.at_⟩
def plainL (c : ByteArray) (l : List Tk) (v : List Int) : List Tk := v.map fun p => wB c (l.getD p.toNat zeroT)
def placesL (n : Nat) : List Int := List.map (fun i : Nat => (i : Int)) (List.range n)
theorem plain_same {l : List Tk} {v : List Int} (c : ByteArray) (hv : AscV l.length v) : SmV l v (plainL c l v) (placesL v.length) := by
  refine ⟨by simp [placesL], fun i => ?_⟩
  have key : seenAt (plainL c l v) (placesL v.length) i = (seenAt l v i).map (wB c) := by
    unfold seenAt
    have hpl : (placesL v.length).length = v.length := by simp [placesL]
    rw [hpl]
    by_cases h : i < 0 ∨ (v.length : Int) ≤ i
    · rw [if_pos h, if_pos h]; rfl
    · rw [if_neg h, if_neg h]
      obtain ⟨j, rfl⟩ : ∃ j : Nat, i = j := ⟨i.toNat, by omega⟩
      have hj : j < v.length := by omega
      have hgv := List.getElem?_eq_getElem hj
      have e1 : (placesL v.length).getD (j : Int).toNat 0 = (j : Int) := by simp [placesL, List.getD, hj]
      have e2 : v.getD (j : Int).toNat 0 = v[j] := by simp [List.getD, hgv]
      rw [e1, e2]
      have hr := hv.rng v[j] (List.getElem_mem hj)
      have hlt : v[j].toNat < l.length := by omega
      have hgl := List.getElem?_eq_getElem hlt
      have e3 : (plainL c l v)[(j : Int).toNat]? = some (wB c l[v[j].toNat]) := by
        unfold plainL
        rw [List.getElem?_map, Int.toNat_natCast, hgv]
        simp [List.getD, hgl]
      rw [e3, hgl]
      simp only [Option.map]
      show (if l[v[j].toNat].kind = 0 then none else some (wB c l[v[j].toNat])) = _
      by_cases h0 : l[v[j].toNat].kind = 0
      · rw [if_pos h0, if_pos h0]
      · rw [if_neg h0, if_neg h0]
  rw [seenAt_T, seenAt_T, key]
  cases seenAt l v i with
  | none => exact ⟨rfl, rfl, rfl⟩
  | some t => exact ⟨rfl, rfl, rfl⟩
theorem places_asc (n : Nat) : AscV n (placesL n) := by
  refine ⟨fun p hp => ?_, fun i p q h1 h2 => ?_⟩
  · obtain ⟨j, hj, rfl⟩ := List.mem_map.1 hp
    rw [List.mem_range] at hj
    omega
  · unfold placesL at h1 h2
    rw [List.getElem?_map] at h1 h2
    obtain ⟨a, ha, rfl⟩ := Option.map_eq_some_iff.1 h1
    obtain ⟨b, hb, rfl⟩ := Option.map_eq_some_iff.1 h2
    have e1 := (List.getElem?_eq_some_iff.1 ha)
    have e2 := (List.getElem?_eq_some_iff.1 hb)
    obtain ⟨_, e1⟩ := e1
    obtain ⟨_, e2⟩ := e2
    rw [List.getElem_range] at e1 e2
    omega
end Go.Pv

/- MacroSame: the law. -/
namespace Go.Pv
open Go.Proofs
set_option linter.unusedVariables false
set_option linter.unusedSimpArgs false
set_option maxRecDepth 100000
set_option maxHeartbeats 4000000
@[reducible] def cmtS : ByteArray := ⟨#[32, 47, 42, 32, 97, 32, 99, 111, 109, 109, 101, 110, 116, 32, 42, 47, 32]⟩
@[reducible] def m1env (k : VK) (l : List Tk) (v : List Int) (p q : SV) (i : Int) : SE := [(5, .av (.pv (toks .any l))), (7, .av (.pv (ints k v))), (9, p), (10, q), (11, .av (.pv (.lit (.int .i64 i))))]
@[reducible] def m2env (k kp kq : VK) (l : List Tk) (v : List Int) (pl : List Tk) (pv : List Int) (i : Int) : SE := [(5, .av (.pv (toks .any l))), (7, .av (.pv (ints k v))), (9, .av (.pv (toks kp pl))), (10, .av (.pv (ints kq pv))), (13, .av (.pv (.lit (.int .i64 i))))]
theorem plainL_snoc {l : List Tk} {v : List Int} {i : Nat} {p : Int} {x : Tk} (h : v[i]? = some p) (hx : l[p.toNat]? = some x) : plainL cmtS l (v.take (i + 1)) = plainL cmtS l (v.take i) ++ [wB cmtS x] := by
  unfold plainL
  rw [List.take_add_one, h, List.map_append]
  simp [List.getD, hx]
theorem placesL_snoc (i : Nat) : placesL (i + 1) = placesL i ++ [(i : Int)] := by unfold placesL; rw [List.range_succ, List.map_append]; rfl
theorem guessV_tup (l : List Tk) (v : List Int) (k : Nat) : ∃ a e : Int, guessV l v k = .tup [.lit (.int .i64 a), .lit (.int .i64 e)] := by
  unfold guessV
  split
  · split <;> exact ⟨_, _, rfl⟩
  · exact ⟨_, _, rfl⟩
theorem macroSame_c (t : ByteArray) (ch : List Int) (s : St) (hv : Vars s) : PCalls Tryd.prog 3 [.lit (.string t), ints .any ch] s (fun r s' => s' = s ∧ r = .ret (.lit (.bool true))) := by
  refine PCalls.fun (D := []) ti_ok Tryd.func3 rfl (by kernel_rfl) ?_
  rintro (_ | _) h0
  rotate_left
  · refine sc_pure (ps := []) (v := .lit (.bool true)) (fun s2 h => awake_c s2 (hv.sub h)) rfl rfl ?_
    exact ⟨rfl, rfl⟩
  have hsz : t.size ≤ 5000 := by have := of_decide_eq_false h0; omega
  have hsc := fun s2 (h : s.sub s2) => pscan_c t (by omega) s2 (hv.sub h)
  by_cases hL : 200000 < t.size ∨ 40000 < (allT t).length
  · simp only [if_pos hL] at hsc
    refine sc_pure (ps := [.lit (.string t)]) (v := .tup [.vec .nil [], .lit (.int .i64 2)]) hsc rfl rfl ?_
    refine sc_pureR (ps := [toks .nil [], ints .any ch]) (R := fun v => VOk 0 (.ret v)) (fun s2 _ => (rview_c .nil .any [] ch (by simp) (by simp) s2).mono ?_) rfl rfl ?_
    · rintro r s' ⟨rfl, k, v, e, h1, h2, rfl⟩
      exact ⟨rfl, _, ⟨k, v, e, h1, h2, rfl⟩, rfl⟩
    rintro _ ⟨k, v, e, h1, h2, h⟩
    cases h
    rintro (_ | _) h3
    rotate_left
    · exact absurd h3 (by decide)
    refine sc_pure (ps := []) (v := .lit (.bool true)) (fun s2 h => awake_c s2 (hv.sub h)) rfl rfl ?_
    exact ⟨rfl, rfl⟩
  simp only [if_neg hL] at hsc
  obtain ⟨l, hl⟩ : ∃ l, allT t = l := ⟨_, rfl⟩
  have hxs : ∀ x ∈ l, x.text.size ≤ 5000 := fun x hx => by have := toksF_size t _ _ _ x (show x ∈ toksF keysL signsL t (t.size + 1) 0 true by rw [← hl] at hx; exact hx); omega
  rw [hl] at hsc hL
  have hll : l.length ≤ 40000 := by omega
  refine sc_pure (ps := [.lit (.string t)]) (v := .tup [toks .any l, .lit (.int .i64 0)]) hsc rfl rfl ?_
  refine sc_pureR (ps := [toks .any l, ints .any ch]) (R := fun v => VOk l.length (.ret v)) (fun s2 _ => (rview_c .any .any l ch (by omega) (fun x hx => by have := hxs x hx; omega) s2).mono ?_) rfl rfl ?_
  · rintro r s' ⟨rfl, k, v, e, h1, h2, rfl⟩
    exact ⟨rfl, _, ⟨k, v, e, h1, h2, rfl⟩, rfl⟩
  rintro _ ⟨k, v, e, hasc, hvl, h⟩
  cases h
  rintro (_ | _) h3
  · exact absurd h3 (by decide)
  rintro (_ | _) h4
  · refine sc_pure (ps := []) (v := .lit (.bool true)) (fun s2 h => awake_c s2 (hv.sub h)) rfl rfl ?_
    exact ⟨rfl, rfl⟩
  rintro (_ | _) h5
  rotate_left
  · refine sc_pure (ps := []) (v := .lit (.bool true)) (fun s2 h => awake_c s2 (hv.sub h)) rfl rfl ?_
    exact ⟨rfl, rfl⟩
  have h5 := of_decide_eq_false h5
  rw [List.length_map] at h5
  have hv4 : v.length ≤ 400 := by omega
  refine sw_fzN 2 ?_
  refine sw_loop (D := []) ti_ok (by kernel_rfl) (fun n env st b => ∃ i : Nat, i + n = v.length ∧ b = s ∧ ((i = 0 ∧ env = m1env k l v (.av (.pv (.vec .nil []))) (.av (.pv (.vec .nil []))) (i : Nat) ∧ st = []) ∨ (0 < i ∧ env = m1env k l v (.av (.own 0)) (.av (.own 1)) (i : Nat) ∧ st = [some (.lst 31 4 ((plainL cmtS l (v.take i)).map encTC)), some (.lst 3 1 (iRow (placesL i)))]))) v.length ⟨[], [5, 7, 9, 10, 11], rfl, 0, by omega, rfl, .inl ⟨rfl, rfl, rfl⟩⟩ ?_
  rintro n env st b ⟨i, hi, hb, ⟨hi0, rfl, rfl⟩ | ⟨hi0, rfl, rfl⟩⟩
  · subst b
    rintro (_ | _) ht
    · rw [List.length_map] at ht
      have hv0 : v = [] := List.length_eq_zero_iff.1 (by have := of_decide_eq_false ht; omega)
      refine .inl (.inl ?_)
      refine sw_loop (D := []) ti_ok (by kernel_rfl) (fun n env st b => ∃ i : Nat, i + n = v.length ∧ b = s ∧ env = m2env k .nil .nil l v (plainL cmtS l v) (placesL v.length) (i : Nat) ∧ st = []) v.length ⟨[], [5, 7, 9, 10, 13], rfl, 0, by omega, rfl, ?_, rfl⟩ ?_
      · subst hv0; rfl
      rintro n2 env st b ⟨j, hj, hb, rfl, rfl⟩
      subst b
      rintro (_ | _) ht2
      · refine sc_pure (ps := []) (v := .lit (.bool true)) (fun s2 h => awake_c s2 (hv.sub h)) rfl rfl ?_
        exact ⟨rfl, rfl⟩
      rw [List.length_map] at ht2
      have hjl : j < v.length := by have := of_decide_eq_true ht2; omega
      obtain ⟨a, e2, hG⟩ := guessV_tup l v j
      have hG2 : guessV (plainL cmtS l v) (placesL v.length) j = .tup [.lit (.int .i64 a), .lit (.int .i64 e2)] := by rw [← (plain_same cmtS hasc).guessV j]; exact hG
      refine sc_pure (ps := [toks .any l, ints k v, .lit (.int .i64 (j : Nat))]) (v := .tup [.lit (.int .i64 a), .lit (.int .i64 e2)]) (fun s2 _ => by rw [← hG]; exact Guess_c .any k l v j hasc (fun x hx => by have := hxs x hx; omega) (by omega) hjl s2) rfl rfl ?_
      refine sc_pure (ps := [toks .nil (plainL cmtS l v), ints .nil (placesL v.length), .lit (.int .i64 (j : Nat))]) (v := .tup [.lit (.int .i64 a), .lit (.int .i64 e2)]) (fun s2 _ => by
        rw [← hG2]
        have hpl : (plainL cmtS l v).length = v.length := by simp [plainL]
        have hpn : (placesL v.length).length = v.length := by simp [placesL]
        refine Guess_c .nil .nil _ _ j (by rw [hpl]; exact places_asc _) (fun x hx => ?_) (by rw [hpn]; omega) (by rw [hpn]; exact hjl) s2
        obtain ⟨p, hp, rfl⟩ := List.mem_map.1 hx
        have hr := hasc.rng p hp
        have hq : p.toNat < l.length := by omega
        have := hxs _ (List.getElem_mem hq)
        simp only [wB, List.getD, List.getElem?_eq_getElem hq, Option.getD]
        omega) rfl rfl ?_
      rintro (_ | _) h6
      · exact absurd rfl (of_decide_eq_false h6)
      rintro (_ | _) h7
      · exact absurd rfl (of_decide_eq_false h7)
      exact ⟨n2 - 1, by omega, [], [5, 7, 9, 10, 13], rfl, j + 1, by omega, rfl, (show m2env k .nil .nil l v (plainL cmtS l v) (placesL v.length) (IntKind.i64.wrap ((j : Int) + 1)) = m2env k .nil .nil l v (plainL cmtS l v) (placesL v.length) ((j + 1 : Nat) : Int) by rw [incN (by omega)]), rfl⟩
    rw [List.length_map] at ht
    have hlt : i < v.length := by have := of_decide_eq_true ht; omega
    have hg := List.getElem?_eq_getElem hlt
    obtain ⟨p, hp⟩ : ∃ p, v[i] = p := ⟨_, rfl⟩
    rw [hp] at hg
    have hr := hasc.rng p (List.mem_of_getElem? hg)
    have hq : p.toNat < l.length := by omega
    have hgl := List.getElem?_eq_getElem hq
    obtain ⟨x, hx⟩ : ∃ x, l[p.toNat] = x := ⟨_, rfl⟩
    rw [hx] at hgl
    refine ⟨.lit (.int .i64 p), ⟨by omega, by rw [Int.toNat_natCast, List.getElem?_map, hg]; rfl, rfl⟩, ?_⟩
    refine ⟨encT x, ⟨by omega, by rw [List.getElem?_map, hgl]; rfl, rfl⟩, ?_⟩
    refine ⟨[encTC (wB cmtS x)], rfl, by simp, ?_⟩
    refine ⟨[[.lit (.int .i64 (i : Nat))]], rfl, by simp, ?_⟩
    refine ⟨n - 1, by omega, [1, 2], [5, 7, 9, 10, 11], rfl, i + 1, by omega, rfl, .inr ⟨by omega, (show m1env k l v (.av (.own 0)) (.av (.own 1)) (IntKind.i64.wrap ((i : Int) + 1)) = m1env k l v (.av (.own 0)) (.av (.own 1)) ((i + 1 : Nat) : Int) by rw [incN (by omega)]), ?_⟩⟩
    subst hi0
    rw [plainL_snoc hg hgl, placesL_snoc]
    rfl
  · subst b
    rintro (_ | _) ht
    · rw [List.length_map] at ht
      have hiv : i = v.length := by have := of_decide_eq_false ht; omega
      subst hiv
      rw [List.take_length]
      refine .inr ⟨0, (plainL cmtS l v).map encT, _, _, _, rfl, by rw [List.map_map]; rfl, .inr ⟨1, (placesL v.length).map fun n => .lit (.int .i64 n), _, _, _, rfl, by rw [List.map_map]; rfl, ?_⟩⟩
      refine sw_loop (D := []) ti_ok (by kernel_rfl) (fun n env st b => ∃ i : Nat, i + n = v.length ∧ b = s ∧ env = m2env k .any .any l v (plainL cmtS l v) (placesL v.length) (i : Nat) ∧ st = []) v.length ⟨[], [5, 7, 9, 10, 13], rfl, 0, by omega, rfl, ?_, rfl⟩ ?_
      · rfl
      rintro n2 env st b ⟨j, hj, hb, rfl, rfl⟩
      subst b
      rintro (_ | _) ht2
      · refine sc_pure (ps := []) (v := .lit (.bool true)) (fun s2 h => awake_c s2 (hv.sub h)) rfl rfl ?_
        exact ⟨rfl, rfl⟩
      rw [List.length_map] at ht2
      have hjl : j < v.length := by have := of_decide_eq_true ht2; omega
      obtain ⟨a, e2, hG⟩ := guessV_tup l v j
      have hG2 : guessV (plainL cmtS l v) (placesL v.length) j = .tup [.lit (.int .i64 a), .lit (.int .i64 e2)] := by rw [← (plain_same cmtS hasc).guessV j]; exact hG
      refine sc_pure (ps := [toks .any l, ints k v, .lit (.int .i64 (j : Nat))]) (v := .tup [.lit (.int .i64 a), .lit (.int .i64 e2)]) (fun s2 _ => by rw [← hG]; exact Guess_c .any k l v j hasc (fun x hx => by have := hxs x hx; omega) (by omega) hjl s2) rfl rfl ?_
      refine sc_pure (ps := [toks .any (plainL cmtS l v), ints .any (placesL v.length), .lit (.int .i64 (j : Nat))]) (v := .tup [.lit (.int .i64 a), .lit (.int .i64 e2)]) (fun s2 _ => by
        rw [← hG2]
        have hpl : (plainL cmtS l v).length = v.length := by simp [plainL]
        have hpn : (placesL v.length).length = v.length := by simp [placesL]
        refine Guess_c .any .any _ _ j (by rw [hpl]; exact places_asc _) (fun x hx => ?_) (by rw [hpn]; omega) (by rw [hpn]; exact hjl) s2
        obtain ⟨p, hp, rfl⟩ := List.mem_map.1 hx
        have hr := hasc.rng p hp
        have hq : p.toNat < l.length := by omega
        have := hxs _ (List.getElem_mem hq)
        simp only [wB, List.getD, List.getElem?_eq_getElem hq, Option.getD]
        omega) rfl rfl ?_
      rintro (_ | _) h6
      · exact absurd rfl (of_decide_eq_false h6)
      rintro (_ | _) h7
      · exact absurd rfl (of_decide_eq_false h7)
      exact ⟨n2 - 1, by omega, [], [5, 7, 9, 10, 13], rfl, j + 1, by omega, rfl, (show m2env k .any .any l v (plainL cmtS l v) (placesL v.length) (IntKind.i64.wrap ((j : Int) + 1)) = m2env k .any .any l v (plainL cmtS l v) (placesL v.length) ((j + 1 : Nat) : Int) by rw [incN (by omega)]), rfl⟩
    rw [List.length_map] at ht
    have hlt : i < v.length := by have := of_decide_eq_true ht; omega
    have hg := List.getElem?_eq_getElem hlt
    obtain ⟨p, hp⟩ : ∃ p, v[i] = p := ⟨_, rfl⟩
    rw [hp] at hg
    have hr := hasc.rng p (List.mem_of_getElem? hg)
    have hq : p.toNat < l.length := by omega
    have hgl := List.getElem?_eq_getElem hq
    obtain ⟨x, hx⟩ : ∃ x, l[p.toNat] = x := ⟨_, rfl⟩
    rw [hx] at hgl
    refine ⟨.lit (.int .i64 p), ⟨by omega, by rw [Int.toNat_natCast, List.getElem?_map, hg]; rfl, rfl⟩, ?_⟩
    refine ⟨encT x, ⟨by omega, by rw [List.getElem?_map, hgl]; rfl, rfl⟩, ?_⟩
    have hpl : (plainL cmtS l (v.take i)).length ≤ 400 := by simp [plainL]; omega
    have hpn : (placesL i).length ≤ 400 := by simp [placesL]; omega
    refine ⟨[encTC (wB cmtS x)], rfl, by rw [List.length_map]; show (2 * (_ + 1) + 1000) * 48 ≤ _; omega, ?_⟩
    refine ⟨[[.lit (.int .i64 (i : Nat))]], rfl, by rw [iRow_len]; show (2 * (_ + 1) + 1000) * 8 ≤ _; omega, ?_⟩
    refine ⟨n - 1, by omega, [3, 4], [5, 7, 9, 10, 11], rfl, i + 1, by omega, rfl, .inr ⟨by omega, (show m1env k l v (.av (.own 0)) (.av (.own 1)) (IntKind.i64.wrap ((i : Int) + 1)) = m1env k l v (.av (.own 0)) (.av (.own 1)) ((i + 1 : Nat) : Int) by rw [incN (by omega)]), ?_⟩⟩
    rw [plainL_snoc hg hgl, placesL_snoc, iRow_snoc, List.map_append]
    rfl
theorem macroSame_l {A : Prop} (t : ByteArray) (_ : A) (ch : List Int) (_ : ch.length ≤ 2 ^ 63 - 1) (_ : ∀ y ∈ ch, -9223372036854775808 ≤ y ∧ y ≤ 9223372036854775807) (s : St) (hv : Vars s) : PCalls Tryd.prog 3 [.lit (.string t), ints .any ch] s (fun r s' => s' = s ∧ r = .ret (.lit (.bool true))) := macroSame_c t ch s hv
end Go.Pv
