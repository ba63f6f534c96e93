/- Several texts, one behind the other. -/
import Derived.Test.YtkdimfmnialabaaGreatDoorK3
import Derived.RecoverIn
import Derived.Test.YtkdimfmnialabaaGreatDoorK2
import Derived.Test.YtkdimfmnialabaaGreatDoorK1
namespace Go.Pv
open Go.Proofs
set_option linter.unusedVariables false
set_option linter.unusedSimpArgs false
set_option maxRecDepth 100000
set_option maxHeartbeats 4000000
section
variable {c : Cx} {p : NT → Nat → Out Nd} {s : St} {ir : Nat} {at_ n : Nat} {k : Int}
theorem struct_c (hc : c.ok) (hp : PH c p) (hnn : n ≤ 1000000000) (h0 : at_ ≤ c.v.length) : MC c 121 [] at_ ((c.structS p n at_).map encU) := by
 have hvl := hc.vl
 obtain ⟨o, ho⟩ : ∃ o, c.structS p n at_ = o := ⟨_, rfl⟩
 rw [ho]
 unfold Cx.structS at ho
 simp only [Cx.want] at ho
 refine mcN_of (D := [(9, ([0, 1, 2, 3, 4, 5], [(0, 3)], [3]))]) Tryz.func121 rfl (by kernel_rfl) fun hn s ir k he hs => ?_
 refine sc_place hc he h0 rfl rfl rfl ?_
 refine sc_want hc he (h0) rfl rfl (by first | rfl | exact inc (by omega) | exact inc2 (by omega)) (fun h a' k' => ?_) (fun h1 lt1 k1 => ?_)
 ·rw [if_neg (by simp [h])] at ho; subst ho; exact rd_end hc ⟨a', k', rfl, rfl⟩
 rw [if_pos h1] at ho; try simp only [Out.bind_ok] at ho
 refine sc_name hc he (show at_ + 1 ≤ c.v.length by omega) rfl rfl rfl (fun h a' k' => ?_) (fun h lt k5 => ?_)
 ·rw [if_neg h] at ho; subst ho; exact rd_end hc ⟨a', k', rfl, rfl⟩
 rw [if_pos h] at ho
 refine sc_want hc he (show at_ + 1 + 1 ≤ c.v.length by omega) rfl rfl (by first | rfl | exact inc (by omega) | exact inc2 (by omega)) (fun h a' k' => ?_) (fun h2 lt2 k2 => ?_)
 ·rw [if_neg (by simp [h])] at ho; subst ho; exact rd_end hc ⟨a', k', rfl, rfl⟩
 rw [if_pos h2] at ho; try simp only [Out.bind_ok] at ho
 obtain ⟨o1, ho1⟩ : ∃ o1, c.fieldsF p n [] (at_ + 1 + 1 + 1) = o1 := ⟨_, rfl⟩
 rw [ho1] at ho
 refine sw_nilOwn (ty := 26) (sz := 6) 5 rfl ?_
 refine sw_loop (D := [(9, ([0, 1, 2, 3, 4, 5], [(0, 3)], [3]))]) ti_ok (by kernel_rfl) (fun m env st b => ∃ (j : Nat) (L : List Nd) (k : Int), j ≤ c.v.length ∧ L.length + m = n ∧ c.fieldsF p m L j = o1 ∧ env = [(0, rdV), (2, .av (.cell 1 0)), (3, intV (c.place at_ : Nat)), (4, strV (c.text (at_ + 1))), (5, .av (.own 2))] ∧ st = [rdLoc c (j : Nat) k, zLoc, ownL L] ∧ b = s.upd ir none) n ⟨[0, 1, 2], [0, 2, 3, 4, 5], rfl, at_ + 1 + 1 + 1, [], k2, by omega, by simp, ho1, rfl, rfl, rfl⟩ ?_
 rintro m env st b ⟨j, L, k4, hj, hL, hm, rfl, rfl, rfl⟩
 cases m with
 | zero => exact absurd (show o.map encU = .fuel by rw [← ho, ← hm]; rfl) hn
 | succ m =>
 rw [Cx.fieldsF] at hm
 refine sc_is hc he hj rfl rfl rfl (fun h3 lt3 => ?_) (fun h3 => ?_)
 ·rw [if_pos h3] at hm
  subst hm
  simp only [Out.bind_ok] at ho
  refine sc_want hc he (hj) rfl rfl (by first | rfl | exact inc (by omega) | exact inc2 (by omega)) (fun h a' k' => ?_) (fun h5 lt5 k5 => ?_)
  ·rw [if_neg (by simp [h])] at ho; subst ho; exact rd_end hc ⟨a', k', rfl, rfl⟩
  rw [if_pos h5] at ho; try simp only [Out.bind_ok] at ho
  refine sc_want hc he (show j + 1 ≤ c.v.length by omega) rfl rfl (by first | rfl | exact inc (by omega) | exact inc2 (by omega)) (fun h a' k' => ?_) (fun h6 lt6 k6 => ?_)
  ·rw [if_neg (by simp [h])] at ho; subst ho; exact rd_end hc ⟨a', k', rfl, rfl⟩
  rw [if_pos h6] at ho; try simp only [Out.bind_ok] at ho
  subst ho
  refine sc_own (n := 4) (L.map encU) rfl rfl (ownL_cells L) ?_
  refine sc_node (L) hc he (show j + 1 + 1 ≤ c.v.length by omega) rfl rfl (by first | rfl | exact inc (by omega) | exact inc2 (by omega)) rfl fun kN => ?_
  exact rd_end hc ⟨kN, rfl, rfl⟩
 rw [if_neg (by simp [h3])] at hm
 refine sc_place hc he hj rfl rfl rfl ?_
 refine sc_simpleA (()) hc he (hj) rfl rfl (by first | rfl | exact inc (by omega) | exact inc2 (by omega)) (fun hx a' k' => ?_) (fun x1 j1 hx l1 u1 k5 => ?_)
 ·rw [hx] at hm; subst hm; subst ho; exact rd_end hc ⟨a', k', rfl, rfl⟩
 rw [hx] at hm; simp only [Out.bind_ok] at hm
 refine ⟨by kernel_rfl, ?_⟩
 refine sc_p hp (.dclrs false) (trivial) hc he (u1) rfl rfl rfl (by first | rfl | exact inc (by omega) | exact inc2 (by omega)) (fun σ ps h => pvs_rel (ps := [.lit (.bool false)]) rfl h) (fun hx => hn (by rw [← ho, ← hm, hx]; rfl)) (fun hx a' k' => ?_) (fun x2 j2 hx l2 u2 k6 => ?_)
 ·rw [hx] at hm; subst hm; subst ho; exact rd_end hc ⟨a', k', rfl, rfl⟩
 rw [hx] at hm; try simp only [Out.bind_ok] at hm
 have hdl := hp.dl _ _ _ _ u1 hx
 refine ⟨rfl, ?_⟩
 refine ⟨x2.l.map encC, elems_enc .any x2.l, ?_⟩
 cases hL2 : x2.l with
 | nil =>
  rw [hL2] at hm
  refine sc_node [x1] hc he u2 rfl rfl rfl rfl fun kN => ?_
  refine ⟨[encC (c.nodeN 3 ⟨#[]⟩ (c.place j) j2 [x1])], rfl, by simp; omega, ?_⟩
  exact ⟨m, by omega, [0, 1, 4], [0, 2, 3, 4, 5], rfl, j2, L ++ [c.nodeN 3 ⟨#[]⟩ (c.place j) j2 [x1]], kN, u2, by simp; omega, hm, rfl, by unfold ownL; rw [← ownL_snoc]; rfl, rfl⟩
 | cons y ys =>
  rw [hL2] at hm hdl
  refine ⟨[encC x1], rfl, by simp at hdl ⊢; omega, ?_⟩
  refine sc_own (n := 4) ((x1 :: y :: ys).map encU) rfl rfl (ownL_cells _) ?_
  refine sc_node (x1 :: y :: ys) hc he u2 rfl rfl rfl rfl fun kN => ?_
  refine ⟨[encC (c.nodeN 3 ⟨#[]⟩ (c.place j) j2 (x1 :: y :: ys))], rfl, by simp; omega, ?_⟩
  exact ⟨m, by omega, [0, 1, 5], [0, 2, 3, 4, 5], rfl, j2, L ++ [c.nodeN 3 ⟨#[]⟩ (c.place j) j2 (x1 :: y :: ys)], kN, u2, by simp; omega, hm, rfl, by unfold ownL; rw [← ownL_snoc]; rfl, rfl⟩
theorem params_c (hc : c.ok) (hp : PH c p) (hnn : n ≤ 1000000000) (h0 : at_ ≤ c.v.length) : MC c 193 [] at_ ((c.paramsS p n at_).map fun l => .vec .any (l.map enc)) := by
 have hvl := hc.vl
 obtain ⟨o, ho⟩ : ∃ o, c.paramsS p n at_ = o := ⟨_, rfl⟩
 rw [ho]
 unfold Cx.paramsS at ho
 intro hn
 replace hn : o ≠ .fuel := fun e => by subst e; exact hn rfl
 intro s ir k he hs
 refine PCalls.objO ti_ok hs Tryz.func193 rfl (D := []) (by kernel_rfl) rfl ?_
 replace he := he.upd hs none
 have fin : ∀ L : List Nd, Res.ret (.vec .any (L.map encU)) = Res.ret ((fun l : List Nd => PV.vec .any (l.map enc)) L) := fun L => by
  show _ = Res.ret (.vec .any (L.map enc))
  rw [List.map_congr_left (g := encU) fun x _ => enc_eq x]
 refine sc_is hc he h0 rfl rfl rfl (fun h1 lt1 => ?_) (fun h1 => ?_)
 ·rw [if_pos h1] at ho
  subst ho
  exact rd_end hc ⟨_, rfl, rfl⟩
 rw [if_neg (by simp [h1])] at ho
 refine sc_is hc he h0 rfl rfl rfl (fun h2 lt2 => ?_) (fun h2 => ?_)
 ·refine sc_sign 1 hc he h0 (by decide) rfl rfl rfl (fun h3 lt3 => ?_) (fun h3 => ?_)
  ·rw [if_pos (by rw [h2, h3]; rfl)] at ho
   subst ho
   refine rd_end hc ⟨k, ?_, rfl⟩
   show s.upd ir (some (rdRow c (IntKind.i64.wrap ((at_ : Int) + 1)) k)) = _
   rw [inc (by omega)]
  ·rw [if_neg (by rw [h2, h3]; simp)] at ho
   refine sw_nilOwn (ty := 26) (sz := 6) 3 rfl ?_
   refine sw_loop (D := []) ti_ok (by kernel_rfl) (fun m env st b => ∃ (j : Nat) (L : List Nd) (k : Int), j ≤ c.v.length ∧ L.length + m = n ∧ c.paramsF p m L j = o ∧ env = [(0, rdV), (3, .av (.own 1))] ∧ st = [rdLoc c (j : Nat) k, ownL L] ∧ b = s.upd ir none) n ⟨[0, 1], [0, 3], rfl, at_, [], k, h0, by simp, ho, rfl, rfl, rfl⟩ ?_
   rintro m env st b ⟨j, L, k4, hj, hL, hm, rfl, rfl, rfl⟩
   clear ho
   cases m with
   | zero => exact absurd (show o = .fuel by rw [← hm]; rfl) hn
   | succ m =>
   rw [Cx.paramsF] at hm
   rintro (_ | _) ht
   ·have hL0 : L = [] := by
     have := of_decide_eq_false ht
     rw [List.length_map] at this
     exact List.length_eq_zero_iff.1 (by omega)
    rw [if_neg (fun h => h.1 hL0)] at hm
    simp only [Cx.paramS] at hm
    refine sc_place hc he hj rfl rfl rfl ?_
    refine sc_starredA () hc he hj rfl rfl rfl (fun hx a' k' => ?_) (fun x1 j1 hx l1 u1 k8 => ?_)
    ·rw [hx] at hm; subst hm; exact rd_end hc ⟨a', k', rfl, rfl⟩
    rw [hx] at hm; simp only [Out.bind_ok] at hm
    refine sc_tok hc he u1 rfl rfl rfl ?_
    rintro (_ | _) h3
    ·have h3 : c.kind j1 ≠ 1 := of_decide_eq_false h3
     rw [if_neg h3] at hm
     simp only [Out.bind_ok] at hm
     refine sc_node [x1] hc he u1 rfl rfl rfl rfl fun kN => ?_
     refine ⟨[encC (c.nodeN 7 ⟨#[]⟩ (c.place j) j1 [x1])], rfl, by simp; omega, ?_⟩
     refine sc_eat hc he u1 rfl rfl rfl (fun h4 lt4 k9 => ?_) (fun h4 k9 => ?_)
     ·rw [if_pos h4] at hm
      exact ⟨m, by omega, [0, 2], [0, 3], rfl, j1 + 1, L ++ [c.nodeN 7 ⟨#[]⟩ (c.place j) j1 [x1]], k9, by omega, by simp; omega, hm, rfl, by unfold ownL; rw [← ownL_snoc]; rfl, rfl⟩
     ·rw [if_neg (by simp [h4])] at hm
      subst hm
      exact ⟨(L ++ [c.nodeN 7 ⟨#[]⟩ (c.place j) j1 [x1]]).map encU, by rw [ownL_cells, ownL_snoc], rd_end hc ⟨_, rfl, fin _⟩⟩
    ·have h3 : c.kind j1 = 1 := of_decide_eq_true h3
     rw [if_pos h3] at hm
     refine sc_place hc he u1 rfl rfl rfl ?_
     refine sc_name hc he u1 rfl rfl rfl (fun h a' k' => absurd h3 h) (fun h lt k9 => ?_)
     refine sc_sizes hp hc he (show j1 + 1 ≤ c.v.length by omega) rfl rfl rfl (fun hx => hn (by rw [← hm, hx]; rfl)) (fun hx a' k' => ?_) (fun x2 j2 hx l2 u2 w2 k10 => ?_)
     ·rw [hx] at hm; subst hm; exact rd_end hc ⟨a', k', rfl, rfl⟩
     rw [hx] at hm; simp only [Out.bind_ok] at hm
     refine sc_own (n := 4) (x2.l.map encU) rfl rfl (ownL_cells _) ?_
     refine sc_node x2.l hc he u2 rfl rfl rfl rfl fun kN => ?_
     refine ⟨[encC (c.nodeN 8 (c.text j1) (c.place j1) j2 x2.l)], rfl, [encC x1], rfl, by simp, ?_⟩
     refine sc_own (n := 4) ([x1, c.nodeN 8 (c.text j1) (c.place j1) j2 x2.l].map encU) rfl rfl (ownL_cells _) ?_
     refine sc_node [x1, c.nodeN 8 (c.text j1) (c.place j1) j2 x2.l] hc he u2 rfl rfl rfl rfl fun kN2 => ?_
     refine ⟨[encC (c.nodeN 7 ⟨#[]⟩ (c.place j) j2 [x1, c.nodeN 8 (c.text j1) (c.place j1) j2 x2.l])], rfl, by simp; omega, ?_⟩
     refine sc_eat hc he u2 rfl rfl rfl (fun h4 lt4 k9 => ?_) (fun h4 k9 => ?_)
     ·rw [if_pos h4] at hm
      exact ⟨m, by omega, [0, 4], [0, 3], rfl, j2 + 1, L ++ [c.nodeN 7 ⟨#[]⟩ (c.place j) j2 [x1, c.nodeN 8 (c.text j1) (c.place j1) j2 x2.l]], k9, by omega, by simp; omega, hm, rfl, by unfold ownL; rw [← ownL_snoc]; rfl, rfl⟩
     ·rw [if_neg (by simp [h4])] at hm
      subst hm
      exact ⟨(L ++ [c.nodeN 7 ⟨#[]⟩ (c.place j) j2 [x1, c.nodeN 8 (c.text j1) (c.place j1) j2 x2.l]]).map encU, by rw [ownL_cells, ownL_snoc], rd_end hc ⟨_, rfl, fin _⟩⟩
   ·have hL0 : L ≠ [] := by
     have := of_decide_eq_true ht
     rw [List.length_map] at this
     intro e; rw [e] at this; simp at this
    refine sc_eat hc he hj rfl rfl rfl (fun h2 lt2 k7 => ?_) (fun h2 k7 => ?_)
    ·rw [if_pos ⟨hL0, h2⟩] at hm
     subst hm
     exact ⟨L.map encU, ownL_cells L, rd_end hc ⟨_, rfl, fin _⟩⟩
    rw [if_neg (fun h => by rw [h2] at h; exact Bool.noConfusion h.2)] at hm
    simp only [Cx.paramS] at hm
    refine sc_place hc he hj rfl rfl rfl ?_
    refine sc_starredA () hc he hj rfl rfl rfl (fun hx a' k' => ?_) (fun x1 j1 hx l1 u1 k8 => ?_)
    ·rw [hx] at hm; subst hm; exact rd_end hc ⟨a', k', rfl, rfl⟩
    rw [hx] at hm; simp only [Out.bind_ok] at hm
    refine sc_tok hc he u1 rfl rfl rfl ?_
    rintro (_ | _) h3
    ·have h3 : c.kind j1 ≠ 1 := of_decide_eq_false h3
     rw [if_neg h3] at hm
     simp only [Out.bind_ok] at hm
     refine sc_node [x1] hc he u1 rfl rfl rfl rfl fun kN => ?_
     refine ⟨[encC (c.nodeN 7 ⟨#[]⟩ (c.place j) j1 [x1])], rfl, by simp; omega, ?_⟩
     refine sc_eat hc he u1 rfl rfl rfl (fun h4 lt4 k9 => ?_) (fun h4 k9 => ?_)
     ·rw [if_pos h4] at hm
      exact ⟨m, by omega, [0, 2], [0, 3], rfl, j1 + 1, L ++ [c.nodeN 7 ⟨#[]⟩ (c.place j) j1 [x1]], k9, by omega, by simp; omega, hm, rfl, by unfold ownL; rw [← ownL_snoc]; rfl, rfl⟩
     ·rw [if_neg (by simp [h4])] at hm
      subst hm
      exact ⟨(L ++ [c.nodeN 7 ⟨#[]⟩ (c.place j) j1 [x1]]).map encU, by rw [ownL_cells, ownL_snoc], rd_end hc ⟨_, rfl, fin _⟩⟩
    ·have h3 : c.kind j1 = 1 := of_decide_eq_true h3
     rw [if_pos h3] at hm
     refine sc_place hc he u1 rfl rfl rfl ?_
     refine sc_name hc he u1 rfl rfl rfl (fun h a' k' => absurd h3 h) (fun h lt k9 => ?_)
     refine sc_sizes hp hc he (show j1 + 1 ≤ c.v.length by omega) rfl rfl rfl (fun hx => hn (by rw [← hm, hx]; rfl)) (fun hx a' k' => ?_) (fun x2 j2 hx l2 u2 w2 k10 => ?_)
     ·rw [hx] at hm; subst hm; exact rd_end hc ⟨a', k', rfl, rfl⟩
     rw [hx] at hm; simp only [Out.bind_ok] at hm
     refine sc_own (n := 4) (x2.l.map encU) rfl rfl (ownL_cells _) ?_
     refine sc_node x2.l hc he u2 rfl rfl rfl rfl fun kN => ?_
     refine ⟨[encC (c.nodeN 8 (c.text j1) (c.place j1) j2 x2.l)], rfl, [encC x1], rfl, by simp, ?_⟩
     refine sc_own (n := 4) ([x1, c.nodeN 8 (c.text j1) (c.place j1) j2 x2.l].map encU) rfl rfl (ownL_cells _) ?_
     refine sc_node [x1, c.nodeN 8 (c.text j1) (c.place j1) j2 x2.l] hc he u2 rfl rfl rfl rfl fun kN2 => ?_
     refine ⟨[encC (c.nodeN 7 ⟨#[]⟩ (c.place j) j2 [x1, c.nodeN 8 (c.text j1) (c.place j1) j2 x2.l])], rfl, by simp; omega, ?_⟩
     refine sc_eat hc he u2 rfl rfl rfl (fun h4 lt4 k9 => ?_) (fun h4 k9 => ?_)
     ·rw [if_pos h4] at hm
      exact ⟨m, by omega, [0, 4], [0, 3], rfl, j2 + 1, L ++ [c.nodeN 7 ⟨#[]⟩ (c.place j) j2 [x1, c.nodeN 8 (c.text j1) (c.place j1) j2 x2.l]], k9, by omega, by simp; omega, hm, rfl, by unfold ownL; rw [← ownL_snoc]; rfl, rfl⟩
     ·rw [if_neg (by simp [h4])] at hm
      subst hm
      exact ⟨(L ++ [c.nodeN 7 ⟨#[]⟩ (c.place j) j2 [x1, c.nodeN 8 (c.text j1) (c.place j1) j2 x2.l]]).map encU, by rw [ownL_cells, ownL_snoc], rd_end hc ⟨_, rfl, fin _⟩⟩
 ·rw [if_neg (by rw [h2]; simp)] at ho
  refine sw_nilOwn (ty := 26) (sz := 6) 3 rfl ?_
  refine sw_loop (D := []) ti_ok (by kernel_rfl) (fun m env st b => ∃ (j : Nat) (L : List Nd) (k : Int), j ≤ c.v.length ∧ L.length + m = n ∧ c.paramsF p m L j = o ∧ env = [(0, rdV), (3, .av (.own 1))] ∧ st = [rdLoc c (j : Nat) k, ownL L] ∧ b = s.upd ir none) n ⟨[0, 1], [0, 3], rfl, at_, [], k, h0, by simp, ho, rfl, rfl, rfl⟩ ?_
  rintro m env st b ⟨j, L, k4, hj, hL, hm, rfl, rfl, rfl⟩
  clear ho
  cases m with
  | zero => exact absurd (show o = .fuel by rw [← hm]; rfl) hn
  | succ m =>
  rw [Cx.paramsF] at hm
  rintro (_ | _) ht
  ·have hL0 : L = [] := by
    have := of_decide_eq_false ht
    rw [List.length_map] at this
    exact List.length_eq_zero_iff.1 (by omega)
   rw [if_neg (fun h => h.1 hL0)] at hm
   simp only [Cx.paramS] at hm
   refine sc_place hc he hj rfl rfl rfl ?_
   refine sc_starredA () hc he hj rfl rfl rfl (fun hx a' k' => ?_) (fun x1 j1 hx l1 u1 k8 => ?_)
   ·rw [hx] at hm; subst hm; exact rd_end hc ⟨a', k', rfl, rfl⟩
   rw [hx] at hm; simp only [Out.bind_ok] at hm
   refine sc_tok hc he u1 rfl rfl rfl ?_
   rintro (_ | _) h3
   ·have h3 : c.kind j1 ≠ 1 := of_decide_eq_false h3
    rw [if_neg h3] at hm
    simp only [Out.bind_ok] at hm
    refine sc_node [x1] hc he u1 rfl rfl rfl rfl fun kN => ?_
    refine ⟨[encC (c.nodeN 7 ⟨#[]⟩ (c.place j) j1 [x1])], rfl, by simp; omega, ?_⟩
    refine sc_eat hc he u1 rfl rfl rfl (fun h4 lt4 k9 => ?_) (fun h4 k9 => ?_)
    ·rw [if_pos h4] at hm
     exact ⟨m, by omega, [0, 2], [0, 3], rfl, j1 + 1, L ++ [c.nodeN 7 ⟨#[]⟩ (c.place j) j1 [x1]], k9, by omega, by simp; omega, hm, rfl, by unfold ownL; rw [← ownL_snoc]; rfl, rfl⟩
    ·rw [if_neg (by simp [h4])] at hm
     subst hm
     exact ⟨(L ++ [c.nodeN 7 ⟨#[]⟩ (c.place j) j1 [x1]]).map encU, by rw [ownL_cells, ownL_snoc], rd_end hc ⟨_, rfl, fin _⟩⟩
   ·have h3 : c.kind j1 = 1 := of_decide_eq_true h3
    rw [if_pos h3] at hm
    refine sc_place hc he u1 rfl rfl rfl ?_
    refine sc_name hc he u1 rfl rfl rfl (fun h a' k' => absurd h3 h) (fun h lt k9 => ?_)
    refine sc_sizes hp hc he (show j1 + 1 ≤ c.v.length by omega) rfl rfl rfl (fun hx => hn (by rw [← hm, hx]; rfl)) (fun hx a' k' => ?_) (fun x2 j2 hx l2 u2 w2 k10 => ?_)
    ·rw [hx] at hm; subst hm; exact rd_end hc ⟨a', k', rfl, rfl⟩
    rw [hx] at hm; simp only [Out.bind_ok] at hm
    refine sc_own (n := 4) (x2.l.map encU) rfl rfl (ownL_cells _) ?_
    refine sc_node x2.l hc he u2 rfl rfl rfl rfl fun kN => ?_
    refine ⟨[encC (c.nodeN 8 (c.text j1) (c.place j1) j2 x2.l)], rfl, [encC x1], rfl, by simp, ?_⟩
    refine sc_own (n := 4) ([x1, c.nodeN 8 (c.text j1) (c.place j1) j2 x2.l].map encU) rfl rfl (ownL_cells _) ?_
    refine sc_node [x1, c.nodeN 8 (c.text j1) (c.place j1) j2 x2.l] hc he u2 rfl rfl rfl rfl fun kN2 => ?_
    refine ⟨[encC (c.nodeN 7 ⟨#[]⟩ (c.place j) j2 [x1, c.nodeN 8 (c.text j1) (c.place j1) j2 x2.l])], rfl, by simp; omega, ?_⟩
    refine sc_eat hc he u2 rfl rfl rfl (fun h4 lt4 k9 => ?_) (fun h4 k9 => ?_)
    ·rw [if_pos h4] at hm
     exact ⟨m, by omega, [0, 4], [0, 3], rfl, j2 + 1, L ++ [c.nodeN 7 ⟨#[]⟩ (c.place j) j2 [x1, c.nodeN 8 (c.text j1) (c.place j1) j2 x2.l]], k9, by omega, by simp; omega, hm, rfl, by unfold ownL; rw [← ownL_snoc]; rfl, rfl⟩
    ·rw [if_neg (by simp [h4])] at hm
     subst hm
     exact ⟨(L ++ [c.nodeN 7 ⟨#[]⟩ (c.place j) j2 [x1, c.nodeN 8 (c.text j1) (c.place j1) j2 x2.l]]).map encU, by rw [ownL_cells, ownL_snoc], rd_end hc ⟨_, rfl, fin _⟩⟩
  ·have hL0 : L ≠ [] := by
    have := of_decide_eq_true ht
    rw [List.length_map] at this
    intro e; rw [e] at this; simp at this
   refine sc_eat hc he hj rfl rfl rfl (fun h2 lt2 k7 => ?_) (fun h2 k7 => ?_)
   ·rw [if_pos ⟨hL0, h2⟩] at hm
    subst hm
    exact ⟨L.map encU, ownL_cells L, rd_end hc ⟨_, rfl, fin _⟩⟩
   rw [if_neg (fun h => by rw [h2] at h; exact Bool.noConfusion h.2)] at hm
   simp only [Cx.paramS] at hm
   refine sc_place hc he hj rfl rfl rfl ?_
   refine sc_starredA () hc he hj rfl rfl rfl (fun hx a' k' => ?_) (fun x1 j1 hx l1 u1 k8 => ?_)
   ·rw [hx] at hm; subst hm; exact rd_end hc ⟨a', k', rfl, rfl⟩
   rw [hx] at hm; simp only [Out.bind_ok] at hm
   refine sc_tok hc he u1 rfl rfl rfl ?_
   rintro (_ | _) h3
   ·have h3 : c.kind j1 ≠ 1 := of_decide_eq_false h3
    rw [if_neg h3] at hm
    simp only [Out.bind_ok] at hm
    refine sc_node [x1] hc he u1 rfl rfl rfl rfl fun kN => ?_
    refine ⟨[encC (c.nodeN 7 ⟨#[]⟩ (c.place j) j1 [x1])], rfl, by simp; omega, ?_⟩
    refine sc_eat hc he u1 rfl rfl rfl (fun h4 lt4 k9 => ?_) (fun h4 k9 => ?_)
    ·rw [if_pos h4] at hm
     exact ⟨m, by omega, [0, 2], [0, 3], rfl, j1 + 1, L ++ [c.nodeN 7 ⟨#[]⟩ (c.place j) j1 [x1]], k9, by omega, by simp; omega, hm, rfl, by unfold ownL; rw [← ownL_snoc]; rfl, rfl⟩
    ·rw [if_neg (by simp [h4])] at hm
     subst hm
     exact ⟨(L ++ [c.nodeN 7 ⟨#[]⟩ (c.place j) j1 [x1]]).map encU, by rw [ownL_cells, ownL_snoc], rd_end hc ⟨_, rfl, fin _⟩⟩
   ·have h3 : c.kind j1 = 1 := of_decide_eq_true h3
    rw [if_pos h3] at hm
    refine sc_place hc he u1 rfl rfl rfl ?_
    refine sc_name hc he u1 rfl rfl rfl (fun h a' k' => absurd h3 h) (fun h lt k9 => ?_)
    refine sc_sizes hp hc he (show j1 + 1 ≤ c.v.length by omega) rfl rfl rfl (fun hx => hn (by rw [← hm, hx]; rfl)) (fun hx a' k' => ?_) (fun x2 j2 hx l2 u2 w2 k10 => ?_)
    ·rw [hx] at hm; subst hm; exact rd_end hc ⟨a', k', rfl, rfl⟩
    rw [hx] at hm; simp only [Out.bind_ok] at hm
    refine sc_own (n := 4) (x2.l.map encU) rfl rfl (ownL_cells _) ?_
    refine sc_node x2.l hc he u2 rfl rfl rfl rfl fun kN => ?_
    refine ⟨[encC (c.nodeN 8 (c.text j1) (c.place j1) j2 x2.l)], rfl, [encC x1], rfl, by simp, ?_⟩
    refine sc_own (n := 4) ([x1, c.nodeN 8 (c.text j1) (c.place j1) j2 x2.l].map encU) rfl rfl (ownL_cells _) ?_
    refine sc_node [x1, c.nodeN 8 (c.text j1) (c.place j1) j2 x2.l] hc he u2 rfl rfl rfl rfl fun kN2 => ?_
    refine ⟨[encC (c.nodeN 7 ⟨#[]⟩ (c.place j) j2 [x1, c.nodeN 8 (c.text j1) (c.place j1) j2 x2.l])], rfl, by simp; omega, ?_⟩
    refine sc_eat hc he u2 rfl rfl rfl (fun h4 lt4 k9 => ?_) (fun h4 k9 => ?_)
    ·rw [if_pos h4] at hm
     exact ⟨m, by omega, [0, 4], [0, 3], rfl, j2 + 1, L ++ [c.nodeN 7 ⟨#[]⟩ (c.place j) j2 [x1, c.nodeN 8 (c.text j1) (c.place j1) j2 x2.l]], k9, by omega, by simp; omega, hm, rfl, by unfold ownL; rw [← ownL_snoc]; rfl, rfl⟩
    ·rw [if_neg (by simp [h4])] at hm
     subst hm
     exact ⟨(L ++ [c.nodeN 7 ⟨#[]⟩ (c.place j) j2 [x1, c.nodeN 8 (c.text j1) (c.place j1) j2 x2.l]]).map encU, by rw [ownL_cells, ownL_snoc], rd_end hc ⟨_, rfl, fin _⟩⟩
theorem paramsF_len (hc : c.ok) (hp : PH c p) : ∀ (m : Nat) (L : List Nd) (j : Nat) (l : List Nd) (k : Nat), j ≤ c.v.length → c.paramsF p m L j = .ok l k → l.length ≤ L.length + m ∧ j ≤ k ∧ k ≤ c.v.length
 | 0, L, j, l, k, hj, h => by cases h
 | m + 1, L, j, l, k, hj, h => by
  unfold Cx.paramsF at h
  split at h
  ·rename_i h1; have := hc.lt h1.2; cases h; omega
  ·cases hx : c.paramS p j with
   | fuel => rw [hx] at h; cases h
   | bad => rw [hx] at h; cases h
   | ok x i =>
    rw [hx] at h
    have hi : j ≤ i ∧ i ≤ c.v.length := by
     have : OLe (c.paramS p j) j c.v.length := by
      unfold Cx.paramS
      refine .bind (fun x k h => starred_le hc hj h) fun t k h1 h2 => .bind ?_ fun ps k h3 h4 => .ok h3 h4
      split
      ·rename_i hk
       have hlt := hc.ltk (at_ := k) (by rw [show (c.tk k).kind = 1 from hk]; decide)
       exact .bind (fun y q hy => by have := hp.szle _ _ _ (show k + 1 ≤ c.v.length by omega) hy; omega) fun l q h5 h6 => .ok h5 h6
      ·exact .ok h1 h2
     exact this x i hx
    simp only [Out.bind_ok] at h
    split at h
    ·rename_i h1
     have := hc.lt h1
     have := paramsF_len hc hp m _ _ _ _ (show i + 1 ≤ c.v.length by omega) h
     simp at this
     omega
    ·cases h; simp; omega
theorem paramsS_len (hc : c.ok) (hp : PH c p) (h0 : at_ ≤ c.v.length) {l : List Nd} {k : Nat} (h : c.paramsS p n at_ = .ok l k) : l.length ≤ n ∧ at_ ≤ k ∧ k ≤ c.v.length := by
 unfold Cx.paramsS at h
 split at h
 ·cases h; simp; omega
 ·split at h
  ·rename_i h1
   rw [Bool.and_eq_true] at h1
   have := hc.lt h1.1
   cases h; simp; omega
  ·have := paramsF_len hc hp n [] _ _ _ h0 h
   simp at this; omega
theorem func_c (hc : c.ok) (hp : PH c p) (hnn : n ≤ 1000000000) (h0 : at_ ≤ c.v.length) : MC c 122 [] at_ ((c.funcS p n at_).map encU) := by
 have hvl := hc.vl
 obtain ⟨o, ho⟩ : ∃ o, c.funcS p n at_ = o := ⟨_, rfl⟩
 rw [ho]
 unfold Cx.funcS at ho
 simp only [Cx.want] at ho
 refine mcN_of (D := []) Tryz.func122 rfl (by kernel_rfl) fun hn s ir k he hs => ?_
 refine sc_place hc he h0 rfl rfl rfl ?_
 refine sc_words hc he h0 rfl rfl rfl fun w1 w2 k1 => ?_
 refine sc_starredA (()) hc he (w2) rfl rfl (by first | rfl | exact inc (by omega) | exact inc2 (by omega)) (fun hx a' k' => ?_) (fun x1 j1 hx l1 u1 k2 => ?_)
 ·rw [hx] at ho; subst ho; exact rd_end hc ⟨a', k', rfl, rfl⟩
 rw [hx] at ho; simp only [Out.bind_ok] at ho
 refine sc_place hc he u1 rfl rfl rfl ?_
 refine sc_name hc he u1 rfl rfl rfl (fun h a' k' => ?_) (fun h lt k5 => ?_)
 ·rw [if_neg h] at ho; subst ho; exact rd_end hc ⟨a', k', rfl, rfl⟩
 rw [if_pos h] at ho
 refine sc_node [] hc he (show j1 + 1 ≤ c.v.length by omega) rfl rfl rfl rfl fun kN => ?_
 refine ⟨[encC (c.nodeN 50 (c.text j1) (c.place j1) (j1 + 1) [])], rfl, [encC x1], rfl, by simp, ?_⟩
 refine sc_want hc he (show j1 + 1 ≤ c.v.length by omega) rfl rfl (by first | rfl | exact inc (by omega) | exact inc2 (by omega)) (fun h a' k' => ?_) (fun h2 lt2 k6 => ?_)
 ·rw [if_neg (by simp [h])] at ho; subst ho; exact rd_end hc ⟨a', k', rfl, rfl⟩
 rw [if_pos h2] at ho; try simp only [Out.bind_ok] at ho
 have hpc := params_c hc hp hnn (show j1 + 1 + 1 ≤ c.v.length by omega)
 cases hx : c.paramsS p n (j1 + 1 + 1) with
 | fuel => exact absurd (show o.map encU = .fuel by rw [← ho, hx]; rfl) hn
 | bad =>
  rw [hx] at ho hpc
  subst ho
  refine sc_bad hpc hc he rfl rfl rfl rfl fun a' k' => ?_
  exact rd_end hc ⟨a', k', rfl, rfl⟩
 | ok ps k2' =>
  rw [hx] at ho hpc
  simp only [Out.bind_ok] at ho
  obtain ⟨hl1, hl2, hl3⟩ := paramsS_len hc hp (show j1 + 1 + 1 ≤ c.v.length by omega) hx
  refine sc_ok hpc hc he rfl rfl rfl rfl fun k7 => ?_
  refine ⟨ps.map encC, elems_enc .any ps, ?_⟩
  cases ps with
  | nil =>
   refine sc_want hc he (hl3) rfl rfl (by first | rfl | exact inc (by omega) | exact inc2 (by omega)) (fun h a' k' => ?_) (fun h3 lt3 k8 => ?_)
   ·rw [if_neg (by simp [h])] at ho; subst ho; exact rd_end hc ⟨a', k', rfl, rfl⟩
   rw [if_pos h3] at ho; try simp only [Out.bind_ok] at ho
   refine sc_is hc he (show k2' + 1 ≤ c.v.length by omega) rfl rfl rfl (fun h4 lt4 => ?_) (fun h4 => ?_)
   rotate_left
   ·rw [if_neg (by simp [h4])] at ho
    subst ho
    refine sc_bad wrong_m hc he rfl rfl rfl rfl fun a' k' => ?_
    exact rd_end hc ⟨a', k', rfl, rfl⟩
   rw [if_pos h4] at ho
   refine sc_p hp (.block) (trivial) hc he (show k2' + 1 ≤ c.v.length by omega) rfl rfl rfl (by first | rfl | exact inc (by omega) | exact inc2 (by omega)) (fun σ ps h => h.nil_inv) (fun hx => hn (by rw [← ho, hx]; rfl)) (fun hx a' k' => ?_) (fun x5 j5 hx l5 u5 k9 => ?_)
   ·rw [hx] at ho; subst ho; exact rd_end hc ⟨a', k', rfl, rfl⟩
   rw [hx] at ho; try simp only [Out.bind_ok] at ho
   refine ⟨[encC x5], rfl, by simp; try omega, ?_⟩
   subst ho
   refine sc_own (n := 4) ((x1 :: c.nodeN 50 (c.text j1) (c.place j1) (j1 + 1) [] :: (([] : List Nd) ++ [x5])).map encU) rfl rfl (by simp) ?_
   refine sc_node (x1 :: c.nodeN 50 (c.text j1) (c.place j1) (j1 + 1) [] :: (([] : List Nd) ++ [x5])) hc he (u5) rfl rfl (by first | rfl | exact inc (by omega) | exact inc2 (by omega)) rfl fun kN => ?_
   exact rd_end hc ⟨kN, rfl, rfl⟩
  | cons y ys =>
   refine ⟨by have := hl1; simp at this ⊢; try omega, ?_⟩
   simp only [List.length_cons] at hl1
   refine sc_want hc he (hl3) rfl rfl (by first | rfl | exact inc (by omega) | exact inc2 (by omega)) (fun h a' k' => ?_) (fun h3 lt3 k8 => ?_)
   ·rw [if_neg (by simp [h])] at ho; subst ho; exact rd_end hc ⟨a', k', rfl, rfl⟩
   rw [if_pos h3] at ho; try simp only [Out.bind_ok] at ho
   refine sc_is hc he (show k2' + 1 ≤ c.v.length by omega) rfl rfl rfl (fun h4 lt4 => ?_) (fun h4 => ?_)
   rotate_left
   ·rw [if_neg (by simp [h4])] at ho
    subst ho
    refine sc_bad wrong_m hc he rfl rfl rfl rfl fun a' k' => ?_
    exact rd_end hc ⟨a', k', rfl, rfl⟩
   rw [if_pos h4] at ho
   refine sc_p hp (.block) (trivial) hc he (show k2' + 1 ≤ c.v.length by omega) rfl rfl rfl (by first | rfl | exact inc (by omega) | exact inc2 (by omega)) (fun σ ps h => h.nil_inv) (fun hx => hn (by rw [← ho, hx]; rfl)) (fun hx a' k' => ?_) (fun x5 j5 hx l5 u5 k9 => ?_)
   ·rw [hx] at ho; subst ho; exact rd_end hc ⟨a', k', rfl, rfl⟩
   rw [hx] at ho; try simp only [Out.bind_ok] at ho
   refine ⟨[encC x5], rfl, by simp; try omega, ?_⟩
   subst ho
   refine sc_own (n := 4) ((x1 :: c.nodeN 50 (c.text j1) (c.place j1) (j1 + 1) [] :: ((y :: ys) ++ [x5])).map encU) rfl rfl (by simp) ?_
   refine sc_node (x1 :: c.nodeN 50 (c.text j1) (c.place j1) (j1 + 1) [] :: ((y :: ys) ++ [x5])) hc he (u5) rfl rfl (by first | rfl | exact inc (by omega) | exact inc2 (by omega)) rfl fun kN => ?_
   exact rd_end hc ⟨kN, rfl, rfl⟩
end
end Go.Pv

namespace Go.Pv
open Go.Proofs
set_option linter.unusedVariables false
set_option linter.unusedSimpArgs false
set_option maxRecDepth 100000
set_option maxHeartbeats 4000000
section
variable {c : Cx} {p : NT → Nat → Out Nd} {s : St} {ir : Nat} {at_ n : Nat} {k : Int}
theorem rawF_le (hc : c.ok) : ∀ (m j o : Nat), j ≤ c.v.length → j ≤ c.rawF m j o ∧ c.rawF m j o ≤ c.v.length
 | 0, j, o, h => ⟨Nat.le_refl _, h⟩
 | m + 1, j, o, h => by
  unfold Cx.rawF
  by_cases h1 : c.v.length ≤ j
  ·rw [if_pos h1]; omega
  rw [if_neg h1]
  have ih := fun o => rawF_le hc m (j + 1) o (by omega)
  have he : j + 1 ≤ c.eat (j + 1) ⟨#[59]⟩ ∧ c.eat (j + 1) ⟨#[59]⟩ ≤ c.v.length := by
   unfold Cx.eat
   cases hh : c.is (j + 1) ⟨#[59]⟩ with
   | true => have := hc.lt hh; simp only [cond_true]; omega
   | false => simp only [cond_false]; omega
  have i0 := ih o; have i1 := ih (o + 1); have i2 := ih (o - 1)
  repeat' split
  all_goals omega
theorem raw_c (hc : c.ok) (h0 : at_ ≤ c.v.length) : MC c 128 [] at_ (.ok (encU (c.rawN at_)) (c.rawE at_)) := by
 have hvl := hc.vl
 refine mc_of (D := []) Tryz.func128 rfl (by kernel_rfl) fun s ir k he hs => ?_
 refine sc_place hc he h0 rfl rfl rfl ?_
 refine sw_loop (D := [(3, ([0, 1, 2, 4, 5, 6, 3, 7, 8, 9], [], []))]) ti_ok (by kernel_rfl) (fun m env st b => ∃ (j o : Nat) (k : Int), j + m = c.v.length ∧ at_ ≤ j ∧ o ≤ j ∧ c.rawF (c.v.length - j) j o = c.rawE at_ ∧ env = [(0, rdV), (2, .av (.cell 1 0)), (3, intV (c.place at_ : Nat)), (4, intV (o : Nat))] ∧ st = [rdLoc c (j : Nat) k, zLoc] ∧ b = s.upd ir none) (c.v.length - at_) ⟨[0, 1], [0, 2, 3, 4], rfl, at_, 0, k, by omega, Nat.le_refl _, Nat.zero_le _, rfl, rfl, rfl, rfl⟩ ?_
 rintro m env st b ⟨j, o, k4, hj, haj, hoj, hx, rfl, rfl, rfl⟩
 refine ⟨by kernel_rfl, ?_⟩
 have fin : ∀ {e : Nat} {kN : Int}, e = c.rawE at_ → MR c s ir (.ok (encU (c.rawN at_)) (c.rawE at_)) (.ret (encU (c.nodeN 6 ⟨#[]⟩ (c.place at_) e []))) (s.upd ir (some (rdRow c (e : Nat) kN))) := fun {e kN} h => by subst h; exact ⟨kN, rfl, rfl⟩
 rintro (_ | _) ht
 ·rw [List.length_map] at ht
  have hle : c.v.length ≤ j := by have := of_decide_eq_false ht; omega
  have hjE : j = c.rawE at_ := by
   rw [← hx, show c.v.length - j = 0 by omega]; rfl
  refine sc_node [] hc he (show j ≤ c.v.length by omega) rfl rfl rfl rfl fun kN => ?_
  exact rd_end hc (fin hjE)
 rw [List.length_map] at ht
 have hlt : j < c.v.length := by have := of_decide_eq_true ht; omega
 rw [show c.v.length - j = (c.v.length - (j + 1)) + 1 by omega, Cx.rawF, if_neg (show ¬ c.v.length ≤ j by omega)] at hx
 refine sc_tok hc he (show j ≤ c.v.length by omega) rfl rfl rfl ?_
 have hinc := inc (show j ≤ 1000000000 by omega)
 rintro (_ | _) hk
 ·have hk : c.kind j ≠ 6 := of_decide_eq_false hk
  rw [if_pos hk] at hx
  exact ⟨m - 1, by omega, [0, 1], [0, 2, 3, 4], rfl, j + 1, o, k4, by omega, by omega, by omega, hx, rfl, by rw [← hinc]; rfl, rfl⟩
 have hk : c.kind j = 6 := of_decide_eq_true hk
 rw [if_neg (fun h => h hk)] at hx
 have hdec : max (IntKind.i64.wrap ((o : Int) - 1)) 0 = ((o - 1 : Nat) : Int) := by
  rcases Nat.eq_zero_or_pos o with h | h
  ·subst h; decide
  ·rw [wrapN (by omega) (by omega)]; omega
 rintro (_ | _) a1
 rotate_left
 ·have a1 : c.text j = ⟨#[40]⟩ := of_decide_eq_true a1
  rw [if_pos (.inl a1)] at hx
  refine ⟨m - 1, by omega, [0, 1], [0, 2, 3, 4], rfl, j + 1, o + 1, k4, by omega, by omega, by omega, hx, ?_, by rw [← hinc]; rfl, rfl⟩
  rw [← inc (show o ≤ 1000000000 by omega)]; rfl
 have a1 : c.text j ≠ ⟨#[40]⟩ := of_decide_eq_false a1
 rintro (_ | _) a2
 rotate_left
 ·have a2 : c.text j = ⟨#[91]⟩ := of_decide_eq_true a2
  rw [if_pos (.inr (.inl a2))] at hx
  refine ⟨m - 1, by omega, [0, 1], [0, 2, 3, 4], rfl, j + 1, o + 1, k4, by omega, by omega, by omega, hx, ?_, by rw [← hinc]; rfl, rfl⟩
  rw [← inc (show o ≤ 1000000000 by omega)]; rfl
 have a2 : c.text j ≠ ⟨#[91]⟩ := of_decide_eq_false a2
 rintro (_ | _) a3
 rotate_left
 ·have a3 : c.text j = ⟨#[123]⟩ := of_decide_eq_true a3
  rw [if_pos (.inr (.inr a3))] at hx
  refine ⟨m - 1, by omega, [0, 1], [0, 2, 3, 4], rfl, j + 1, o + 1, k4, by omega, by omega, by omega, hx, ?_, by rw [← hinc]; rfl, rfl⟩
  rw [← inc (show o ≤ 1000000000 by omega)]; rfl
 have a3 : c.text j ≠ ⟨#[123]⟩ := of_decide_eq_false a3
 rw [if_neg (fun h => h.elim a1 fun h => h.elim a2 a3)] at hx
 rintro (_ | _) b1
 rotate_left
 ·have b1 : c.text j = ⟨#[41]⟩ := of_decide_eq_true b1
  rw [if_pos (.inl b1)] at hx
  refine ⟨m - 1, by omega, [0, 1], [0, 2, 3, 4], rfl, j + 1, o - 1, k4, by omega, by omega, by omega, hx, ?_, by rw [← hinc]; rfl, rfl⟩
  rw [← hdec]; rfl
 have b1 : c.text j ≠ ⟨#[41]⟩ := of_decide_eq_false b1
 rintro (_ | _) b2
 rotate_left
 ·have b2 : c.text j = ⟨#[93]⟩ := of_decide_eq_true b2
  rw [if_pos (.inr b2)] at hx
  refine ⟨m - 1, by omega, [0, 1], [0, 2, 3, 4], rfl, j + 1, o - 1, k4, by omega, by omega, by omega, hx, ?_, by rw [← hinc]; rfl, rfl⟩
  rw [← hdec]; rfl
 have b2 : c.text j ≠ ⟨#[93]⟩ := of_decide_eq_false b2
 rw [if_neg (fun h => h.elim b1 b2)] at hx
 rintro (_ | _) c1
 rotate_left
 ·have c1 : c.text j = ⟨#[125]⟩ := of_decide_eq_true c1
  rw [if_pos c1] at hx
  rintro (_ | _) z
  ·have z := of_decide_eq_false z
   rw [hdec] at z
   rw [if_neg (fun h => z (by omega))] at hx
   refine ⟨m - 1, by omega, [0, 1], [0, 2, 3, 4], rfl, j + 1, o - 1, k4, by omega, by omega, by omega, hx, ?_, by rw [← hinc]; rfl, rfl⟩
   rw [← hdec]; rfl
  ·have z := of_decide_eq_true z
   rw [hdec] at z
   rw [if_pos (show o - 1 = 0 by omega)] at hx
   unfold Cx.eat at hx
   refine sc_eat hc he (show j + 1 ≤ c.v.length by omega) rfl rfl hinc (fun h2 lt2 k2 => ?_) (fun h2 k2 => ?_)
   ·rw [h2] at hx
    refine sc_node [] hc he (show j + 1 + 1 ≤ c.v.length by omega) rfl rfl rfl rfl fun kN => ?_
    exact rd_end hc (fin hx)
   ·rw [h2] at hx
    refine sc_node [] hc he (show j + 1 ≤ c.v.length by omega) rfl rfl rfl rfl fun kN => ?_
    exact rd_end hc (fin hx)
 have c1 : c.text j ≠ ⟨#[125]⟩ := of_decide_eq_false c1
 rw [if_neg c1] at hx
 rintro (_ | _) d1
 ·have d1 : c.text j ≠ ⟨#[59]⟩ := of_decide_eq_false d1
  rw [if_neg d1] at hx
  exact ⟨m - 1, by omega, [0, 1], [0, 2, 3, 4], rfl, j + 1, o, k4, by omega, by omega, by omega, hx, rfl, by rw [← hinc]; rfl, rfl⟩
 have d1 : c.text j = ⟨#[59]⟩ := of_decide_eq_true d1
 rw [if_pos d1] at hx
 rintro (_ | _) z
 ·have z := of_decide_eq_false z
  rw [if_neg (fun h => z (by omega))] at hx
  exact ⟨m - 1, by omega, [0, 1], [0, 2, 3, 4], rfl, j + 1, o, k4, by omega, by omega, by omega, hx, rfl, by rw [← hinc]; rfl, rfl⟩
 ·have z := of_decide_eq_true z
  rw [if_pos (show o = 0 by omega)] at hx
  refine sc_node [] hc he (show j + 1 ≤ c.v.length by omega) rfl rfl hinc rfl fun kN => ?_
  exact rd_end hc (fin hx)
end
end Go.Pv

namespace Go.Pv
open Go.Proofs
set_option linter.unusedVariables false
set_option linter.unusedSimpArgs false
set_option maxRecDepth 100000
set_option maxHeartbeats 4000000
def szL (l : List Nd) : Nat := (l.map Nd.size).sum
@[simp] theorem szL_nil : szL [] = 0 := rfl
@[simp] theorem szL_cons (x : Nd) (l : List Nd) : szL (x :: l) = x.size + szL l := by simp [szL]
@[simp] theorem szL_app (l m : List Nd) : szL (l ++ m) = szL l + szL m := by simp [szL, List.sum_append]
theorem Nd.size_l (x : Nd) : x.size = 1 + szL x.l := x.size_eq
@[simp] theorem nodeN_size (c : Cx) (op : Int) (u : ByteArray) (fr i : Nat) (l : List Nd) : (c.nodeN op u fr i l).size = 1 + szL l := Nd.size_l _
@[simp] theorem listN_l (l : List Nd) : (Cx.listN l).l = l := rfl
@[simp] theorem partN_size (c : Cx) (op : Int) (fr i : Nat) (l : List Nd) : (c.partN op fr i l).size = 1 + szL l := by
 cases l with
 | nil => exact Nd.size_l _
 | cons x l => exact Nd.size_l _
def OP {α : Type} (o : Out α) (R : α → Nat → Prop) : Prop := ∀ x j, o = .ok x j → R x j
section
variable {α β : Type}
theorem OP.bad {R : α → Nat → Prop} : OP (.bad : Out α) R := fun x j h => by cases h
theorem OP.fuel {R : α → Nat → Prop} : OP (.fuel : Out α) R := fun x j h => by cases h
theorem OP.ok {R : α → Nat → Prop} {a : α} {i : Nat} (h : R a i) : OP (.ok a i) R := fun x j hx => by cases hx; exact h
theorem OP.bind {o : Out α} {f : α → Nat → Out β} {R : α → Nat → Prop} {S : β → Nat → Prop} (h : OP o R) (hf : ∀ x j, R x j → OP (f x j) S) : OP (o.bind f) S := by
 cases o with
 | fuel => exact .fuel
 | bad => exact .bad
 | ok a k => exact hf a k (h a k rfl)
theorem OP.ite {P : Prop} [Decidable P] {a b : Out α} {R : α → Nat → Prop} (h1 : P → OP a R) (h2 : ¬P → OP b R) : OP (if P then a else b) R := by
 by_cases h : P
 ·rw [if_pos h]; exact h1 h
 ·rw [if_neg h]; exact h2 h
theorem OP.want {c : Cx} (hc : c.ok) {u : ByteArray} {j : Nat} {f : Nat → Out α} {R : α → Nat → Prop} (hf : j < c.v.length → OP (f (j + 1)) R) : OP (c.want j u f) R := .ite (fun h => hf (hc.lt h)) fun _ => .bad
theorem OP.mono {o : Out α} {R S : α → Nat → Prop} (h : OP o R) (hs : ∀ x j, R x j → S x j) : OP o S := fun x j hx => hs x j (h x j hx)
end
def wOf (Y : NT) (x : Nd) : Nat := match Y with
 | .sizes => szL x.l
 | .dclrs _ => szL x.l
 | .args _ _ => x.size + 1
 | .used _ => x.size + 1
 | _ => x.size
def exOf : NT → Nat
 | .args f _ => f.size
 | .marked => 1
 | .initial => 1
 | _ => 0
def PZ (c : Cx) (p : NT → Nat → Out Nd) : Prop := ∀ Y i, i ≤ c.v.length → OP (p Y i) fun x j => i ≤ j ∧ j ≤ c.v.length ∧ wOf Y x ≤ 2 * (j - i) + exOf Y
section
variable {c : Cx} {p : NT → Nat → Out Nd} {n : Nat}
theorem PZ.at (hz : PZ c p) (Y : NT) {i : Nat} (hi : i ≤ c.v.length) : OP (p Y i) fun x j => i ≤ j ∧ j ≤ c.v.length ∧ wOf Y x ≤ 2 * (j - i) + exOf Y := hz Y i hi
theorem kind_lt (hc : c.ok) {i : Nat} {q : Int} (h : c.kind i = q) (hq : q ≠ 0) : i < c.v.length := hc.ltk (at_ := i) (by rw [show (c.tk i).kind = q from h]; exact hq)
theorem type_sz (hc : c.ok) {i : Nat} (hi : i ≤ c.v.length) (m : Nm) : OP (c.starred m i) (fun x j => i < j ∧ j ≤ c.v.length ∧ x.size = 1 ∧ x.l = []) ∧ OP (c.simple m i) (fun x j => i < j ∧ j ≤ c.v.length ∧ x.size = 1 ∧ x.l = []) := by
 have hb : OP (c.base m i) fun u j => i < j ∧ j ≤ c.v.length := by
  have h1 := quals_le (c := c) hi
  unfold Cx.base
  simp only
  refine .ite (fun h => .ite (fun h2 => ?_) fun _ => .bad) fun _ => .ite (fun h => ?_) fun _ => .ite (fun h => ?_) fun _ => .bad
  ·have := kind_lt hc h2 (by decide)
   have := quals_le (c := c) (show c.quals i + 2 ≤ c.v.length by omega)
   exact .ok (by omega)
  ·have h3 := among_lt hc h
   have h4 : c.quals i < (c.words basesL (c.quals i)).2 := by
    unfold Cx.words
    rw [wordsF_go hc h]
    have := words_le hc basesL (c.v.length - (c.quals i + 1)) (c.quals i + 1) ((if (⟨#[]⟩ : ByteArray) = ⟨#[]⟩ then ⟨#[]⟩ else (⟨#[]⟩ : ByteArray) ++ blank) ++ c.text (c.quals i)) h3
    omega
   have h5 := words_le hc basesL (c.v.length - c.quals i) (c.quals i) ⟨#[]⟩ h1.2
   have h5' : (c.words basesL (c.quals i)).2 ≤ c.v.length := h5.2
   have := quals_le (c := c) h5'
   exact .ok (by omega)
  ·have := kind_lt hc h.1 (by decide)
   have := quals_le (c := c) (show c.quals i + 1 ≤ c.v.length by omega)
   exact .ok (by omega)
 constructor
 ·unfold Cx.starred
  refine .bind hb fun u j hj => .ok ?_
  have := stars_le hc (c.v.length - j) j 0 hj.2
  have h2 : (c.stars j).2 = (c.starsF (c.v.length - j) j 0).2 := rfl
  exact ⟨by omega, by omega, Nd.size_l _, rfl⟩
 ·unfold Cx.simple
  exact .bind hb fun u j hj => .ok ⟨hj.1, hj.2, Nd.size_l _, rfl⟩
theorem commas_sz (hc : c.ok) {q : Nat → Out Nd} {e : Nat} (hq : ∀ j, j ≤ c.v.length → OP (q j) fun x k => j ≤ k ∧ k ≤ c.v.length ∧ x.size ≤ 2 * (k - j)) : ∀ (m : Nat) (L : List Nd) (j : Nat), j ≤ c.v.length → OP (c.commas q m L j) fun l k => (j < k ∧ k ≤ c.v.length ∧ szL l + 2 ≤ szL L + 2 * (k - j)) ∨ (k = j ∧ l = L ∧ c.is j ⟨#[44]⟩ ≠ true)
 | 0, L, j, hj => .fuel
 | m + 1, L, j, hj => by
  unfold Cx.commas
  refine .ite (fun h => ?_) fun h => .ok (.inr ⟨rfl, rfl, h⟩)
  have hlt := hc.lt h
  refine .bind (hq (j + 1) hlt) fun x k hk => (commas_sz hc (e := e) hq m _ k hk.2.1).mono fun l k2 h2 => .inl ?_
  rcases h2 with h2 | ⟨rfl, rfl, _⟩
  ·simp at h2; omega
  ·simp; omega
theorem first_lt (hc : c.ok) {l : List ByteArray} {j : Nat} {u : ByteArray} (h : c.first l j = some u) : j < c.v.length := hc.lt (first_is h)
theorem step_sz (hc : c.ok) (hz : PZ c p) : PZ c (c.step p n) := by
 have E : ∀ Y, wOf Y = Nd.size → exOf Y = 0 → ∀ {j}, j ≤ c.v.length → OP (p Y j) fun x k => j ≤ k ∧ k ≤ c.v.length ∧ x.size ≤ 2 * (k - j) := fun Y h1 h2 j hj => (hz.at Y hj).mono fun x k h => by rw [h1, h2] at h; omega
 intro Y i hi
 have fin : ∀ {o : Out Nd}, wOf Y = Nd.size → exOf Y = 0 → (OP o fun x j => i ≤ j ∧ j ≤ c.v.length ∧ x.size ≤ 2 * (j - i)) → OP o fun x j => i ≤ j ∧ j ≤ c.v.length ∧ wOf Y x ≤ 2 * (j - i) + exOf Y := fun h1 h2 h => h.mono fun x j hx => by rw [h1, h2]; omega
 cases Y with
 | expr =>
  refine fin rfl rfl (.bind (E .assign rfl rfl hi) fun x j hx => .ite (fun h => ?_) fun _ => .ok hx)
  refine .bind (commas_sz hc (e := 0) (fun j hj => E .assign rfl rfl hj) n [x] j hx.2.1) fun l k hk => ?_
  rcases hk with hk | ⟨rfl, rfl, h2⟩
  ·exact .ok (by simp at hk ⊢; omega)
  ·exact absurd h h2
 | assign =>
  refine fin rfl rfl (.bind (E .choice rfl rfl hi) fun x j hx => ?_)
  split
  ·rename_i u hu
   have := first_lt hc hu
   exact .bind (E .assign rfl rfl (show j + 1 ≤ c.v.length by omega)) fun y k hk => .ok (by simp; omega)
  ·exact .ok hx
 | choice =>
  refine fin rfl rfl (.bind (E (.binary 0) rfl rfl hi) fun x j hx => .ite (fun h => ?_) fun _ => .ok hx)
  have := hc.lt h
  exact .bind (E .expr rfl rfl (show j + 1 ≤ c.v.length by omega)) fun y k hk => .want hc fun h2 => .bind (E .choice rfl rfl (show k + 1 ≤ c.v.length by omega)) fun z q hq => .ok (by simp; omega)
 | binary k =>
  have key : ∀ (m : Nat) (x : Nd) (j : Nat), i ≤ j → j ≤ c.v.length → x.size ≤ 2 * (j - i) → OP (c.binF p k (c.place i) m x j) fun x j => i ≤ j ∧ j ≤ c.v.length ∧ x.size ≤ 2 * (j - i) := by
   intro m
   induction m with
   | zero => intro x j _ _ _; exact .fuel
   | succ m ih =>
    intro x j h1 h2 h3
    unfold Cx.binF
    split
    ·exact .ok ⟨h1, h2, h3⟩
    ·rename_i u hu
     have := first_lt hc hu
     exact .bind (E (.binary (k + 1)) rfl rfl (show j + 1 ≤ c.v.length by omega)) fun y q hq => ih _ _ (by omega) (by omega) (by simp; omega)
  refine fin rfl rfl (.ite (fun h => E .cast rfl rfl hi) fun _ => .bind (E (.binary (k + 1)) rfl rfl hi) fun x j hx => key n x j hx.1 hx.2.1 hx.2.2)
 | cast =>
  refine fin rfl rfl (.ite (fun h => ?_) fun _ => E .unary rfl rfl hi)
  have := ahead_lt hc h
  exact .bind (type_sz hc (show i + 1 ≤ c.v.length by omega) .casted).1 fun t j ht => .want hc fun h2 => .bind (E .cast rfl rfl (show j + 1 ≤ c.v.length by omega)) fun x q hq => .ok (by simp; omega)
 | unary =>
  refine fin rfl rfl (.ite (fun h => ?_) fun _ => ?_)
  ·have := hc.lt h
   refine .ite (fun h => ?_) fun _ => .bind (E .unary rfl rfl (show i + 1 ≤ c.v.length by omega)) fun x j hx => .ok (by simp; omega)
   have := ahead_lt hc h
   exact .bind (type_sz hc (show i + 2 ≤ c.v.length by omega) .casted).1 fun t j ht => .want hc fun h2 => .ok (by simp; omega)
  ·split
   ·rename_i u hu
    have := first_lt hc hu
    exact .bind (E .cast rfl rfl (show i + 1 ≤ c.v.length by omega)) fun x j hx => .ok (by simp; omega)
   ·exact E .post rfl rfl hi
 | post =>
  have key : ∀ (m : Nat) (x : Nd) (j : Nat), i ≤ j → j ≤ c.v.length → x.size ≤ 2 * (j - i) → OP (c.postF p (c.place i) m x j) fun x j => i ≤ j ∧ j ≤ c.v.length ∧ x.size ≤ 2 * (j - i) := by
   intro m
   induction m with
   | zero => intro x j _ _ _; exact .fuel
   | succ m ih =>
    intro x j h1 h2 h3
    unfold Cx.postF
    refine .ite (fun h => .bind (hz.at (.args x (c.place i)) h2) fun y q hq => ih _ _ (by omega) (by omega) (by simp only [wOf, exOf] at hq; omega)) fun _ => .ite (fun h => ?_) fun _ => .ite (fun h => .ite (fun h4 => ?_) fun _ => .bad) fun _ => .ite (fun h => ?_) fun _ => .ok ⟨h1, h2, h3⟩
    ·have := hc.lt h
     exact .bind (E .expr rfl rfl (show j + 1 ≤ c.v.length by omega)) fun y q hq => .want hc fun h5 => ih _ _ (by omega) (by omega) (by simp; omega)
    ·have := kind_lt hc h4 (by decide)
     exact ih _ _ (by omega) (by omega) (by simp; omega)
    ·have := among_lt hc h
     exact ih _ _ (by omega) (by omega) (by simp; omega)
  exact fin rfl rfl (.bind (E .primary rfl rfl hi) fun x j hx => key n x j hx.1 hx.2.1 hx.2.2)
 | primary =>
  refine fin rfl rfl (.ite (fun h => ?_) fun _ => .ite (fun h => ?_) fun _ => .ite (fun h => ?_) fun _ => .ite (fun h => ?_) fun _ => .want hc fun h1 => .bind (E .expr rfl rfl (show i + 1 ≤ c.v.length by omega)) fun x j hx => .want hc fun h2 => .ok (by simp; omega))
  ·have := kind_lt hc h (by decide); exact .ok (by simp; omega)
  ·have := kind_lt hc h (by decide); exact .ok (by simp; omega)
  ·have := kind_lt hc h (by decide); exact .ok (by simp; omega)
  ·have := kind_lt hc h (by decide)
   have := strs_le hc (c.v.length - (i + 1)) (i + 1) (c.text i) (by omega)
   exact .ok (by simp; omega)
 | value =>
  have key : ∀ (m : Nat) (L : List Nd) (j : Nat), j ≤ c.v.length → OP (c.valueF p m L j) fun l k => j ≤ k ∧ k ≤ c.v.length ∧ szL l ≤ szL L + 2 * (k - j) := by
   intro m
   induction m with
   | zero => intro L j _; exact .fuel
   | succ m ih =>
    intro L j hj
    unfold Cx.valueF
    refine .ite (fun h => .ok (by omega)) fun _ => .bind (E .value rfl rfl hj) fun x k hk => .ite (fun h => ?_) fun _ => .ok (by simp; omega)
    have := hc.lt h
    exact (ih (L ++ [x]) (k + 1) this).mono fun l q hq => by simp at hq; omega
  refine fin rfl rfl (.ite (fun h => ?_) fun _ => E .assign rfl rfl hi)
  have := hc.lt h
  exact .bind (key n [] (i + 1) this) fun l j hl => .want hc fun h2 => .ok (by simp at hl ⊢; omega)
 | initial => exact .bind (E .value rfl rfl hi) fun x j hx => .ok (by simp [wOf, exOf]; omega)
 | sizes =>
  have key : ∀ (m : Nat) (L : List Nd) (j : Nat), j ≤ c.v.length → OP (c.sizesF p m L j) fun l k => j ≤ k ∧ k ≤ c.v.length ∧ szL l ≤ szL L + 2 * (k - j) := by
   intro m
   induction m with
   | zero => intro L j _; exact .fuel
   | succ m ih =>
    intro L j hj
    unfold Cx.sizesF
    refine .ite (fun h => ?_) fun _ => .ok (by omega)
    have hlt := hc.lt h
    refine .bind (R := fun l k => j + 1 ≤ k ∧ k ≤ c.v.length ∧ szL l ≤ 2 * (k - (j + 1))) (.ite (fun h => .ok ⟨Nat.le_refl _, hlt, by simp⟩) fun _ => .bind (E .expr rfl rfl (show j + 1 ≤ c.v.length by omega)) fun x k hk => .ok (by simp; omega)) fun l k hk => .want hc fun h2 => (ih _ (k + 1) (by omega)).mono fun l2 q hq => ?_
    simp at hq
    omega
  exact .bind (key n [] i hi) fun l j hl => .ok (by simp [wOf, exOf] at hl ⊢; omega)
 | args f fr =>
  show OP (c.argsS p n f fr i) _
  unfold Cx.argsS
  refine .want hc fun h1 => .bind (R := fun l k => i + 1 ≤ k ∧ k ≤ c.v.length ∧ szL l ≤ f.size + 2 * (k - (i + 1))) (.ite (fun h => .ok ⟨Nat.le_refl _, h1, by simp⟩) fun _ => .bind (E .assign rfl rfl (show i + 1 ≤ c.v.length by omega)) fun x j hx => (commas_sz hc (e := 0) (fun j hj => E .assign rfl rfl hj) n [f, x] j hx.2.1).mono fun l k hk => ?_) fun l k hk => .want hc fun h2 => .ok (by simp [wOf, exOf]; omega)
  rcases hk with hk | ⟨rfl, rfl, _⟩
  ·simp at hk; omega
  ·simp; omega
 | dclr b =>
  refine fin rfl rfl ?_
  show OP (c.dclrS p b i) _
  unfold Cx.dclrS
  simp only
  have h1 := skip_le (c := c) (q := fun j => c.is j ⟨#[42]⟩) hi
  generalize c.skip (fun j => c.is j ⟨#[42]⟩) i = q at *
  refine .ite (fun hk => ?_) fun _ => .bad
  have hlt := kind_lt hc hk (by decide)
  refine .bind (hz.at .sizes (show q + 1 ≤ c.v.length by omega)) fun l j hl => ?_
  simp only [wOf, exOf] at hl
  refine .bind (R := fun l k => q + 1 ≤ k ∧ k ≤ c.v.length ∧ szL l ≤ 2 * (k - (q + 1))) (.ite (fun h => ?_) fun _ => .ok (by omega)) fun l k hk => .ok (by rw [Nd.size_l]; show i ≤ k ∧ _ ∧ 1 + szL l ≤ _; omega)
  have := hc.lt h.2
  refine .bind (hz.at .initial (show j + 1 ≤ c.v.length by omega)) fun x k hk => .ok ?_
  simp only [wOf, exOf] at hk
  simp
  omega
 | dclrs b =>
  refine .bind (E (.dclr b) rfl rfl hi) fun x j hx => .bind (commas_sz hc (e := 0) (fun j hj => E (.dclr b) rfl rfl hj) n [x] j hx.2.1) fun l k hk => .want hc fun h2 => .ok ?_
  simp only [wOf, exOf, listN_l]
  rcases hk with hk | ⟨rfl, rfl, _⟩
  ·simp at hk; omega
  ·simp; omega
 | decl m =>
  have h1 := words_le hc wordsL (c.v.length - i) i ⟨#[]⟩ hi
  have h1' : i ≤ (c.words wordsL i).2 ∧ (c.words wordsL i).2 ≤ c.v.length := h1
  refine fin rfl rfl (.bind (type_sz hc h1'.2 m).2 fun t j ht => .bind (hz.at (.dclrs true) ht.2.1) fun l k hk => .ok ?_)
  simp only [wOf, exOf] at hk
  have := ht.2.2.1
  simp
  omega
 | stat =>
  have one : ∀ {u : ByteArray}, c.is i u = true → i + 1 ≤ c.v.length := fun h => hc.lt h
  refine fin rfl rfl ?_
  show OP (c.statS p i) _
  unfold Cx.statS
  have M : ∀ {j}, j ≤ c.v.length → OP (p .marked j) fun x k => j ≤ k ∧ k ≤ c.v.length ∧ x.size ≤ 2 * (k - j) + 1 := fun hj => hz.at .marked hj
  refine .ite (fun h => ?_) fun _ => .ite (fun h => ?_) fun _ => .ite (fun h => E .block rfl rfl hi) fun _ => .ite (fun h => .ok (by have := one h; simp; omega)) fun _ => .ite (fun h => ?_) fun _ => .ite (fun h => ?_) fun _ => .ite (fun h => ?_) fun _ => .ite (fun h => ?_) fun _ => .ite (fun h => (E (.loop (c.place i)) rfl rfl (one h)).mono fun x j hx => by omega) fun _ => .ite (fun h => ?_) fun _ => .ite (fun h => ?_) fun _ => .ite (fun h => ?_) fun _ => .ite (fun h => ?_) fun _ => E (.other (c.place i)) rfl rfl hi
  ·have := kind_lt hc h.1 (by decide); exact .want hc fun h1 => .ok (by simp; omega)
  ·have := kind_lt hc h.1 (by decide); exact .want hc fun h1 => .ok (by simp; omega)
  ·exact .bind (E .nested rfl rfl (one h)) fun x j hx => .bind (E .stat rfl rfl hx.2.1) fun y k hy => .ite (fun h2 => .bind (E .stat rfl rfl (show k + 1 ≤ c.v.length from hc.lt h2)) fun z q hq => .ok (by simp; omega)) fun _ => .ok (by simp; omega)
  ·exact .bind (E .nested rfl rfl (one h)) fun x j hx => .bind (E .stat rfl rfl hx.2.1) fun y k hy => .ok (by simp; omega)
  ·exact .bind (E .nested rfl rfl (one h)) fun x j hx => .bind (E .stat rfl rfl hx.2.1) fun y k hy => .ok (by simp; omega)
  ·exact .bind (E .stat rfl rfl (one h)) fun x j hx => .want hc fun h1 => .bind (E .nested rfl rfl (show j + 1 ≤ c.v.length by omega)) fun y k hy => .want hc fun h2 => .ok (by simp; omega)
  ·exact .bind (E .expr rfl rfl (one h)) fun x j hx => .want hc fun h1 => .bind (M (show j + 1 ≤ c.v.length by omega)) fun y k hy => .ok (by simp; omega)
  ·exact .want hc fun h1 => .bind (M (show i + 1 + 1 ≤ c.v.length by omega)) fun y k hy => .ok (by simp; omega)
  ·exact .ite (fun h2 => .want hc fun h3 => .ok (by simp; omega)) fun _ => .bad
  ·exact .bind (R := fun l k => i + 1 ≤ k ∧ k ≤ c.v.length ∧ szL l ≤ 2 * (k - (i + 1))) (.ite (fun h2 => .ok ⟨Nat.le_refl _, one h, by simp⟩) fun _ => .bind (E .expr rfl rfl (one h)) fun x k hk => .ok (by simp; omega)) fun l k hk => .want hc fun h2 => .ok (by simp; omega)
 | block =>
  have key : ∀ (m : Nat) (L : List Nd) (j : Nat), j ≤ c.v.length → OP (c.blockF p m L j) fun l k => j ≤ k ∧ k ≤ c.v.length ∧ szL l ≤ szL L + 2 * (k - j) := by
   intro m
   induction m with
   | zero => intro L j _; exact .fuel
   | succ m ih =>
    intro L j hj
    unfold Cx.blockF
    refine .ite (fun h => .ok (by omega)) fun _ => .bind (E .stat rfl rfl hj) fun x k hk => (ih _ k hk.2.1).mono fun l q hq => by simp at hq; omega
  refine fin rfl rfl ?_
  show OP (c.blockS p n i) _
  unfold Cx.blockS
  exact .want hc fun h1 => .bind (key n [] (i + 1) h1) fun l j hl => .want hc fun h2 => .ok (by simp at hl ⊢; omega)
 | other fr =>
  refine fin rfl rfl ?_
  show OP (c.otherS p fr i) _
  unfold Cx.otherS
  refine .ite (fun h => ?_) fun _ => .ite (fun h => ?_) fun _ => .ite (fun h => ?_) fun _ => .ite (fun h => E (.decl .typed) rfl rfl hi) fun _ => .bind (E .expr rfl rfl hi) fun x j hx => .want hc fun h2 => .ok (by simp; omega)
  ·have := sg_lt hc h.2
   refine .bind (hz.at .marked (show i + 2 ≤ c.v.length by omega)) fun x j hx => .ok ?_
   simp only [wOf, exOf] at hx
   simp; omega
  ·refine .bind (hz.at (.used true) hi) fun x j hx => .bind (E .stat rfl rfl hx.2.1) fun y k hy => .ok ?_
   simp only [wOf, exOf] at hx
   simp; omega
  ·refine .bind (hz.at (.used false) hi) fun x j hx => .ok ?_
   simp only [wOf, exOf] at hx
   simp; omega
 | loop fr =>
  refine fin rfl rfl ?_
  show OP (c.loopS p fr i) _
  unfold Cx.loopS
  have H : ∀ (u : ByteArray) {j}, j ≤ c.v.length → OP (c.perhaps p u j) fun l k => j ≤ k ∧ k ≤ c.v.length ∧ szL l ≤ 2 * (k - j) := fun u j hj => .ite (fun h => .ok (by simp; omega)) fun _ => .bind (E .expr rfl rfl hj) fun x k hk => .ok (by simp; omega)
  refine .want hc fun h1 => .bind (R := fun l k => i + 1 ≤ k ∧ k ≤ c.v.length ∧ szL l ≤ 1 + 2 * (k - (i + 1))) (.ite (fun h => .bind (E (.decl .typed) rfl rfl (show i + 1 ≤ c.v.length by omega)) fun d k hk => .ok (by simp; omega)) fun _ => .bind (H _ (show i + 1 ≤ c.v.length by omega)) fun l k hk => .want hc fun h2 => .ok (by simp; omega)) fun l j hl => .bind (H _ hl.2.1) fun t k hk => .want hc fun h2 => .bind (H _ (show k + 1 ≤ c.v.length by omega)) fun u q hq => .want hc fun h3 => .bind (E .stat rfl rfl (show q + 1 ≤ c.v.length by omega)) fun x m hm => .ok (by simp; omega)
 | marked =>
  refine .ite (fun h => .ok ?_) fun _ => (E .stat rfl rfl hi).mono fun x j hx => by simp [wOf, exOf]; omega
  simp [wOf, exOf, Nd.size_l]; omega
 | nested =>
  refine fin rfl rfl ?_
  show OP (c.nestedS p i) _
  unfold Cx.nestedS
  exact .want hc fun h1 => .bind (E .expr rfl rfl (show i + 1 ≤ c.v.length by omega)) fun x j hx => .want hc fun h2 => .ok (by omega)
 | used b =>
  show OP (c.usedS p b i) _
  unfold Cx.usedS
  refine .ite (fun h => .ite (fun h2 => ?_) fun _ => .ite (fun _ => .bad) fun _ => ?_) fun _ => .bad
  ·have := hc.lt h2
   refine (hz.at (.args (c.nodeN 50 (c.text i) (c.place i) (i + 1) []) (c.place i)) (show i + 1 ≤ c.v.length by omega)).mono fun x j hx => ?_
   simp only [wOf, exOf] at hx ⊢
   simp at hx
   omega
  ·have := kind_lt hc h (by decide)
   exact .ok (by simp [wOf, exOf]; omega)
theorem pz_run (hc : c.ok) : ∀ n, PZ c (c.run n)
 | 0 => fun Y i hi x j h => by cases h
 | n + 1 => step_sz hc (pz_run hc n)
theorem typedef_sz (hc : c.ok) (hz : PZ c p) {i : Nat} (hi : i ≤ c.v.length) : OP (c.typedefS p i) fun x j => i < j ∧ j ≤ c.v.length ∧ x.size ≤ 2 * (j - i) ∧ x.op = 5 ∧ ∃ t y, x.l = [t, y] := by
 unfold Cx.typedefS
 refine .want hc fun h1 => .bind (type_sz hc (show i + 1 ≤ c.v.length by omega) .always).2 fun t j ht => .bind (hz.at (.dclr false) ht.2.1) fun x k hk => .want hc fun h2 => .ok ?_
 simp only [wOf, exOf] at hk
 have := ht.2.2.1
 exact ⟨by omega, by omega, by simp; omega, rfl, _, _, rfl⟩
theorem fields_sz (hc : c.ok) (hz : PZ c p) : ∀ (m : Nat) (L : List Nd) (j : Nat), j ≤ c.v.length → OP (c.fieldsF p m L j) fun l k => j ≤ k ∧ k ≤ c.v.length ∧ szL l ≤ szL L + 2 * (k - j)
 | 0, L, j, hj => .fuel
 | m + 1, L, j, hj => by
  unfold Cx.fieldsF
  refine .ite (fun h => .ok (by omega)) fun _ => .bind (type_sz hc hj .always).2 fun t k ht => .bind (hz.at (.dclrs false) ht.2.1) fun l q hq => ?_
  simp only [wOf, exOf] at hq
  have := ht.2.2.1
  refine (fields_sz hc hz m _ q hq.2.1).mono fun l2 r hr => ?_
  simp at hr
  omega
theorem struct_sz (hc : c.ok) (hz : PZ c p) {i : Nat} (hi : i ≤ c.v.length) : OP (c.structS p n i) fun x j => i < j ∧ j ≤ c.v.length ∧ x.size ≤ 2 * (j - i) ∧ x.op = 4 := by
 unfold Cx.structS
 refine .want hc fun h1 => .ite (fun hk => .want hc fun h2 => .bind (fields_sz hc hz n [] _ (by omega)) fun l k hk => .want hc fun h3 => .want hc fun h4 => .ok ?_) fun _ => .bad
 simp at hk
 exact ⟨by omega, by omega, by simp; omega, rfl⟩
theorem param_sz (hc : c.ok) (hz : PZ c p) {j : Nat} (hj : j ≤ c.v.length) : OP (c.paramS p j) fun x k => j < k ∧ k ≤ c.v.length ∧ x.size ≤ 2 * (k - j) := by
 unfold Cx.paramS
 refine .bind (type_sz hc hj .always).1 fun t k ht => .bind (R := fun ps q => k ≤ q ∧ q ≤ c.v.length ∧ (szL ps = 1 ∧ q = k ∨ k < q ∧ szL ps ≤ 2 * (q - k))) (.ite (fun hk => ?_) fun _ => .ok ⟨Nat.le_refl _, ht.2.1, .inl ⟨by simp [ht.2.2.1], rfl⟩⟩) fun ps q hq => .ok (by simp; omega)
 have := kind_lt hc hk (by decide)
 refine .bind (hz.at .sizes (show k + 1 ≤ c.v.length by omega)) fun l q hl => .ok ?_
 simp only [wOf, exOf] at hl
 have := ht.2.2.1
 exact ⟨by omega, by omega, .inr ⟨by omega, by simp; omega⟩⟩
theorem params_sz (hc : c.ok) (hz : PZ c p) : ∀ (m : Nat) (L : List Nd) (j : Nat), j ≤ c.v.length → OP (c.paramsF p m L j) fun l k => j ≤ k ∧ k ≤ c.v.length ∧ szL l ≤ szL L + 2 * (k - j)
 | 0, L, j, hj => .fuel
 | m + 1, L, j, hj => by
  unfold Cx.paramsF
  refine .ite (fun h => .ok (by have := hc.lt h.2; omega)) fun _ => .bind (param_sz hc hz hj) fun x k hk => .ite (fun h => ?_) fun _ => .ok (by simp; omega)
  have := hc.lt h
  refine (params_sz hc hz m _ (k + 1) this).mono fun l2 r hr => ?_
  simp at hr
  omega
theorem func_sz (hc : c.ok) (hz : PZ c p) {i : Nat} (hi : i ≤ c.v.length) : OP (c.funcS p n i) fun x j => i < j ∧ j ≤ c.v.length ∧ x.size ≤ 2 * (j - i) ∧ x.op = 2 := by
 have h1 := words_le hc wordsL (c.v.length - i) i ⟨#[]⟩ hi
 have h1' : i ≤ (c.words wordsL i).2 ∧ (c.words wordsL i).2 ≤ c.v.length := h1
 unfold Cx.funcS
 refine .bind (type_sz hc h1'.2 .always).1 fun t k ht => .ite (fun hk => .want hc fun h2 => .bind (R := fun l q => k + 2 ≤ q ∧ q ≤ c.v.length ∧ szL l ≤ 2 * (q - (k + 2))) ?_ fun ps q hq => .want hc fun h3 => .ite (fun h4 => .bind (hz.at .block (show q + 1 ≤ c.v.length by omega)) fun b r hr => .ok ?_) fun _ => .bad) fun _ => .bad
 ·unfold Cx.paramsS
  refine .ite (fun h => .ok ⟨by omega, by omega, by simp⟩) fun _ => .ite (fun h => .ok ?_) fun _ => (params_sz hc hz n [] _ (by omega)).mono fun l q hq => by simp at hq; omega
  rw [Bool.and_eq_true] at h
  have := hc.lt h.1
  exact ⟨by omega, by omega, by simp⟩
 ·simp only [wOf, exOf] at hr
  have := ht.2.2.1
  exact ⟨by omega, by omega, by simp; omega, rfl⟩
theorem declarer_sz (hc : c.ok) (hz : PZ c p) {i : Nat} (hi : i ≤ c.v.length) : OP (c.declarerS p i) fun x j => i < j ∧ j ≤ c.v.length ∧ x.size ≤ 2 * (j - i) ∧ x.op = 35 := by
 unfold Cx.declarerS
 refine .ite (fun h => .bind (hz.at (.used true) hi) fun x j hx => .ok ?_) fun _ => .bad
 simp only [wOf, exOf] at hx
 have hxs := x.size_pos
 unfold Cx.eat
 cases h2 : c.is j ⟨#[59]⟩ with
 | true => have := hc.lt h2; simp only [cond_true]; exact ⟨by omega, by omega, by simp; omega, rfl⟩
 | false => simp only [cond_false]; exact ⟨by omega, by omega, by simp; omega, rfl⟩
theorem empty_sz (hc : c.ok) {i : Nat} (hi : i ≤ c.v.length) : OP (c.emptyS i) fun x j => i < j ∧ j ≤ c.v.length ∧ x.size ≤ 2 * (j - i) ∧ x.op = 34 := by
 unfold Cx.emptyS
 exact .want hc fun h1 => .ok ⟨by omega, by omega, by simp; try omega, rfl⟩
theorem decl_op (m : Nm) {i : Nat} : OP (c.run n (.decl m) i) fun x j => x.op = 3 := by
 cases n with
 | zero => exact fun x j h => by cases h
 | succ n =>
  show OP (c.declS (c.run n) m i) _
  unfold Cx.declS
  exact .bind (R := fun _ _ => True) (fun _ _ _ => trivial) fun t j _ => .bind (R := fun _ _ => True) (fun _ _ _ => trivial) fun l k _ => .ok rfl
theorem outer_sz (hc : c.ok) {i : Nat} (hi : i ≤ c.v.length) : OP (c.run n (.decl .always) i) fun x j => i < j ∧ j ≤ c.v.length ∧ x.size ≤ 2 * (j - i) ∧ x.op = 3 := fun x j h => by
 have h1 := pz_run hc n (.decl .always) i hi x j h
 simp only [wOf, exOf] at h1
 have := x.size_pos
 exact ⟨by omega, h1.2.1, by omega, decl_op .always x j h⟩
end
end Go.Pv

namespace Go.Pv
open Go.Proofs
set_option linter.unusedVariables false
set_option linter.unusedSimpArgs false
set_option maxRecDepth 100000
def maxL : List Nat → Nat
 | [] => 0
 | n :: l => max n (maxL l)
def Nd.lev : Nd → Nat
 | ⟨_, _, _, _, _, l⟩ => maxL (l.attach.map fun ⟨x, _⟩ => x.lev) + 1
theorem Nd.lev_eq (x : Nd) : x.lev = maxL (x.l.map Nd.lev) + 1 := by
 obtain ⟨op, s, n, fr, tz, l⟩ := x
 rw [Nd.lev]
 simp only [List.map_attach_eq_pmap, List.pmap_eq_map]
theorem maxL_snoc (l : List Nat) (n : Nat) : maxL (l ++ [n]) = max (maxL l) n := by
 induction l with
 | nil => simp [maxL]
 | cons a l ih => simp only [List.cons_append, maxL, ih]; omega
theorem maxL_take {l : List Nat} {k : Nat} (h : k < l.length) : maxL (l.take (k + 1)) = max (maxL (l.take k)) l[k] := by
 rw [List.take_succ_eq_append_getElem h, maxL_snoc]
theorem maxL_le {l : List Nat} {m : Nat} (h : ∀ n ∈ l, n ≤ m) : maxL l ≤ m := by
 induction l with
 | nil => simp [maxL]
 | cons a l ih =>
  have h1 := h a List.mem_cons_self
  have h2 := ih fun n hn => h n (List.mem_cons_of_mem _ hn)
  simp only [maxL]; omega
theorem Nd.lev_le (x : Nd) : x.lev ≤ x.size := by
 rw [x.lev_eq, x.size_eq]
 have : maxL (x.l.map Nd.lev) ≤ (x.l.map Nd.size).sum := maxL_le fun n hn => by
  obtain ⟨y, hy, rfl⟩ := List.mem_map.1 hn
  exact Nat.le_trans (Nd.lev_le y) (mem_le_sum hy)
 omega
termination_by x.size
decreasing_by exact Nd.mem_lt hy
theorem lev_c (x : Nd) (hx : x.size ≤ 100000000) (s : St) : PCalls Tryz.prog 127 [encU x] s (fun r s' => s' = s ∧ r = .ret (.lit (.int .i64 (x.lev : Nat)))) := by
 refine PCalls.fun (D := []) ti_ok Tryz.func127 rfl (by kernel_rfl) ?_
 have hn := x.len_lt
 have hle := x.lev_eq
 have hll := x.lev_le
 refine sw_loop (D := []) ti_ok (by kernel_rfl) (fun n env st b => ∃ (k m : Nat), k + n = x.l.length ∧ m = maxL ((x.l.map Nd.lev).take k) ∧ env = [(3, intV (m : Nat)), (7, .av (.pv (.vec .any (x.l.map enc)))), (8, intV ((x.l.map enc).length : Nat)), (9, intV (k : Nat))] ∧ st = [] ∧ b = s) x.l.length ⟨[], [3, 7, 8, 9], rfl, 0, 0, by omega, rfl, rfl, rfl, rfl⟩ ?_
 rintro n env st b ⟨k, m, hk, hm, rfl, rfl, rfl⟩
 have hmm : m ≤ maxL (x.l.map Nd.lev) := by
  rw [hm]
  refine maxL_le fun q hq => ?_
  have hq2 := List.mem_of_mem_take hq
  clear hm hle hll
  generalize x.l.map Nd.lev = l at hq2
  induction l with
  | nil => cases hq2
  | cons a l ih =>
   rcases List.mem_cons.1 hq2 with rfl | h
   ·simp only [maxL]; omega
   ·have := ih h; simp only [maxL]; omega
 rintro (_ | _) ht
 ·rw [List.length_map] at ht
  have hle2 : x.l.length ≤ k := by have := of_decide_eq_false ht; omega
  rw [List.take_of_length_le (by simpa using hle2)] at hm
  refine ⟨rfl, ?_⟩
  rw [hle, ← hm, ← inc (show m ≤ 1000000000 by omega)]
  rfl
 rw [List.length_map] at ht
 have hlt : k < x.l.length := by have := of_decide_eq_true ht; omega
 have hg := List.getElem?_eq_getElem hlt
 have hmem := List.getElem_mem hlt
 have hms := Nd.mem_lt hmem
 have hs := maxL_take (l := x.l.map Nd.lev) (k := k) (by simpa using hlt)
 rw [List.getElem_map] at hs
 obtain ⟨y, hy⟩ : ∃ y, x.l[k] = y := ⟨_, rfl⟩
 rw [hy] at hg hs hms
 refine ⟨encU y, ⟨by omega, by rw [Int.toNat_natCast, List.getElem?_map, hg]; exact congrArg some (enc_eq y), rfl⟩, ?_⟩
 refine sc_pure (fun s _ => lev_c y (by omega) s) rfl rfl ?_
 refine ⟨n - 1, by omega, [], [3, 7, 8, 9], rfl, k + 1, max m y.lev, by omega, by rw [hs, hm], ?_, rfl, rfl⟩
 rw [← inc (show k ≤ 1000000000 by omega), show ((max m y.lev : Nat) : Int) = max (m : Int) (y.lev : Int) by omega]
 rfl
termination_by x.size
decreasing_by first | assumption | (rw [← hy]; exact hms)
theorem size_c (x : Nd) (hx : x.size ≤ 100000000) (s : St) : PCalls Tryz.prog 72 [encU x] s (fun r s' => s' = s ∧ r = .ret (.lit (.int .i64 (x.size : Nat)))) := by
 refine PCalls.fun (D := []) ti_ok Tryz.func72 rfl (by kernel_rfl) ?_
 have hn := x.len_lt
 have hle := x.size_eq
 refine sw_loop (D := []) ti_ok (by kernel_rfl) (fun n env st b => ∃ (k m : Nat), k + n = x.l.length ∧ m = 1 + ((x.l.map Nd.size).take k).sum ∧ env = [(3, intV (m : Nat)), (7, .av (.pv (.vec .any (x.l.map enc)))), (8, intV ((x.l.map enc).length : Nat)), (9, intV (k : Nat))] ∧ st = [] ∧ b = s) x.l.length ⟨[], [3, 7, 8, 9], rfl, 0, 1, by omega, rfl, rfl, rfl, rfl⟩ ?_
 rintro n env st b ⟨k, m, hk, hm, rfl, rfl, rfl⟩
 have hmm := sum_take_le (x.l.map Nd.size) k
 rintro (_ | _) ht
 ·rw [List.length_map] at ht
  have hle2 : x.l.length ≤ k := by have := of_decide_eq_false ht; omega
  rw [List.take_of_length_le (by simpa using hle2)] at hm
  refine ⟨rfl, ?_⟩
  rw [hle, ← hm]
  rfl
 rw [List.length_map] at ht
 have hlt : k < x.l.length := by have := of_decide_eq_true ht; omega
 have hg := List.getElem?_eq_getElem hlt
 have hmem := List.getElem_mem hlt
 have hms := Nd.mem_lt hmem
 have hs := sum_take_succ (l := x.l.map Nd.size) (k := k) (by simpa using hlt)
 have hmm2 := sum_take_le (x.l.map Nd.size) (k + 1)
 rw [List.getElem_map] at hs
 obtain ⟨y, hy⟩ : ∃ y, x.l[k] = y := ⟨_, rfl⟩
 rw [hy] at hg hs hms
 refine ⟨encU y, ⟨by omega, by rw [Int.toNat_natCast, List.getElem?_map, hg]; exact congrArg some (enc_eq y), rfl⟩, ?_⟩
 refine sc_pure (fun s _ => size_c y (by omega) s) rfl rfl ?_
 refine ⟨n - 1, by omega, [], [3, 7, 8, 9], rfl, k + 1, m + y.size, by omega, by rw [hs, hm]; omega, ?_, rfl, rfl⟩
 have hw : IntKind.i64.wrap ((m : Int) + (y.size : Int)) = ((m + y.size : Nat) : Int) := by rw [wrapN (by omega) (by omega)]; omega
 rw [← inc (show k ≤ 1000000000 by omega), ← hw]
 rfl
termination_by x.size
decreasing_by first | assumption | (rw [← hy]; exact hms)
end Go.Pv

namespace Go.Pv
open Go.Proofs
set_option linter.unusedVariables false
set_option linter.unusedSimpArgs false
set_option maxRecDepth 100000
def calm : Go.Op → Bool
 | .move _ => true
 | .assign _ => true
 | .alloc _ => true
 | .load _ _ => true
 | .store _ _ _ => true
 | .fieldAddr _ _ _ => true
 | .extract _ _ => true
 | .build _ _ => true
 | .unOp _ _ _ => true
 | .nilCheck _ => true
 | _ => false
def ND (s : Sem Next) : Prop := ∀ (P : Program) (w w' : World) (d : Deferred), s.run P w ≠ .ok (.defer d) w'
theorem ND.no {s : Sem Next} (h : ND s) {P : Program} {w w' : World} {d : Deferred} (e : s.run P w = .ok (.defer d) w') : False := h P w w' d e
theorem nd_val (v : Value) : ND (pure (.value v)) := fun P w w' d h => by cases h
theorem nd_bind {α : Type} {s : Sem α} {f : α → Sem Next} (h : ∀ x, ND (f x)) : ND (s >>= f) := fun P w w' d e => by
 rw [Sem.run_bind] at e
 cases hs : s.run P w with
 | ok v w1 => rw [hs] at e; exact h v P w1 w' d e
 | halt x w1 => rw [hs] at e; cases e
theorem valN {P : Program} {w w' : World} {s : Sem Value} {d : Deferred} (h : (do pure (.value (← s)) : Sem Next).run P w = .ok (.defer d) w') : False := by
 rw [Sem.run_bind] at h
 cases hs : s.run P w with
 | ok v w1 => rw [hs] at h; cases h
 | halt x w1 => rw [hs] at h; cases h
theorem untN {P : Program} {w w' : World} {s : Sem Unit} {d : Deferred} (h : (do s; pure .skip : Sem Next).run P w = .ok (.defer d) w') : False := by
 rw [Sem.run_bind] at h
 cases hs : s.run P w with
 | ok v w1 => rw [hs] at h; cases h
 | halt x w1 => rw [hs] at h; cases h
theorem calm_next {P : Program} {w w' : World} {ρ : Operand → Value} {o : Oper} {d : Deferred} (hc : calm o.op = true) (h : (execOp ρ o).run P w = .ok (.defer d) w') : False := by
 unfold execOp at h
 cases ho : o.op with
 | move x => rw [ho] at h; cases h
 | assign x => rw [ho] at h; cases h
 | alloc t => rw [ho] at h; exact valN h
 | load t x => rw [ho] at h; exact valN h
 | store t x y => rw [ho] at h; exact untN h
 | fieldAddr t x f => rw [ho] at h; exact valN h
 | extract x k => rw [ho] at h; exact valN h
 | build t ps => rw [ho] at h; exact valN h
 | unOp u t x => rw [ho] at h; exact valN h
 | nilCheck x =>
  rw [ho] at h
  simp only at h
  split at h
  ·cases h
  ·cases h
  ·cases h
  ·split at h
   ·cases h
   ·refine ND.no ?_ h
    repeat' first
     | exact nd_val _
     | refine nd_bind fun _ => ?_
     | split
   ·cases h
  ·cases h
 | _ => rw [ho] at hc; cases hc
def frQ (D1 D2 : List Deferred) (Q : Exit → Act → World → Prop) : Exit → Act → World → Prop := fun e a w => match e with
 | .outgrown => ∃ a0 w0, Q .outgrown a0 w0
 | e => a.defers = D2 ∧ Q e { a with defers := D1 } w
theorem put_df (a : Act) (D : List Deferred) (d : Option Tmp) (v : Value) : ({ a with defers := D } : Act).put d v = { a.put d v with defers := D } := by cases d <;> rfl
section
variable {P : Program} {ops : Array Oper} {Q : Exit → Act → World → Prop} {D1 D2 : List Deferred}
theorem wpListR_frame : ∀ (l : List Oper) (a : Act) (w : World), (l.all fun o => calm o.op) = true → wpListR P ops Q l { a with defers := D1 } w → wpListR P ops (frQ D1 D2 Q) l { a with defers := D2 } w
 | [], a, w, hl, h => ⟨rfl, h⟩
 | o :: l, a, w, hl, h => by
  rw [List.all_cons, Bool.and_eq_true] at hl
  unfold wpListR at h ⊢
  split at h
  ·rename_i hw
   rw [if_pos hw]
   refine ⟨h.1, ?_⟩
   have h2 := h.2
   have next : ∀ (a : Act) (v : Value) (w : World), wpListR P ops Q l (({ a with defers := D1 } : Act).put o.dst v) w → wpListR P ops (frQ D1 D2 Q) l (({ a with defers := D2 } : Act).put o.dst v) w := fun a v w h => by
    rw [put_df] at h ⊢
    exact wpListR_frame l (a.put o.dst v) w hl.2 h
   have out : LetsOut Q → LetsOut (frQ D1 D2 Q) := fun ⟨a0, w0, h0⟩ => ⟨a0, w0, a0, w0, h0⟩
   have he : ({ a with defers := D2 } : Act).eval = ({ a with defers := D1 } : Act).eval := rfl
   rw [he]
   have hcalm := fun d w' => calm_next (P := P) (w := w) (w' := w') (ρ := ({ a with defers := D1 } : Act).eval) (o := o) (d := d) hl.1
   generalize (execOp ({ a with defers := D1 } : Act).eval o).run P w = res at *
   cases res with
   | ok x w' =>
    cases x with
    | value v => exact next a v w' h2
    | skip => exact next a _ w' h2
    | defer d => exact (hcalm d w' rfl).elim
    | enter f args => exact ⟨h2.1, h2.2.mono fun e w'' he => by
      cases e with
      | returned v => exact next a v w'' he
      | panicked c => exact ⟨rfl, he⟩
      | outgrown => exact out he⟩
    | row r args => exact ⟨h2.1, h2.2.mono fun v w'' he => next a v w'' he⟩
    | round l2 f tmps assign body => exact ⟨h2.1, h2.2.mono fun e w'' he => by
      cases e with
      | returned v => exact next a v w'' he
      | panicked c => exact ⟨rfl, he⟩
      | outgrown => exact out he⟩
    | _ => exact h2.elim
   | halt x w' =>
    cases x with
    | panic v => exact ⟨rfl, h2⟩
    | _ => exact h2.elim
  ·rename_i hw
   rw [if_neg hw, put_df]
   rw [put_df] at h
   exact wpListR_frame l (a.put o.dst undef) w hl.2 h
end
end Go.Pv

namespace Go.Pv
open Go.Proofs
set_option linter.unusedVariables false
set_option linter.unusedSimpArgs false
set_option maxRecDepth 100000
theorem whole1_idle (v0 v1 v2 v3 v4 : Value) (w : World) : CallsDIn (fen none) 0 Tryz.prog 199 #[v0, v1, v2, v3, v4] .returning w fun e u' w' => e = .returned (.tuple #[]) ∧ u' = .returning ∧ w' = w := by
 refine callsDIn_of_wpSIn Tryz.func199 rfl trivial fun c₀ cs hu => ?_
 apply wpSIn_seq
 apply wpSIn_region
 simp [wpOpsSIn, go_sem, recoverD, hu, Tryz.ntmps199, Exit.thenS]
 apply wpSIn_seq
 apply wpSIn_region
 simp [wpOpsSIn, go_sem, Exit.thenS, Array.replicate]
 refine wpSIn_cond (t := false) (by simp [Act.eval, Array.replicate]) ?_
 simp only [Bool.false_eq_true, if_false]
 refine wpSIn_of_wpIn rfl (wpIn_skip ?_)
 cases c₀
 simp_all [bodyPostS, results, Tryz.results199]
theorem holds_grow {g : G} {s : St} {w w' : World} (hH : Holds g s w) (hb : ∀ k, k < w.heap.size → w'.heap[k]? = w.heap[k]?) (hs : w.heap.size ≤ w'.heap.size) (h1 : w'.os = w.os) (h2 : w'.tape = w.tape) (h3 : w'.output = w.output) : Holds g s w' ∧ LE g w g w' := by
 have hle : LEv g w g w' := ⟨Nat.le_refl _, fun _ _ => rfl, fun _ h => h, fun k hk => hb k (hH.zlt k hk)⟩
 refine ⟨⟨hH.fresh, fun k hk => Nat.lt_of_lt_of_le (hH.zlt k hk) hs, fun i b hi => ?_, hH.inj, hH.apart⟩, ⟨hle, h1, h2, h3, hs⟩⟩
 have hB := hH.blk i b hi
 have hn : i < g.n := by
  rcases Nat.lt_or_ge i g.n with h | h
  ·exact h
  ·rw [hH.fresh i h] at hi; cases hi
 exact hB.le hle hn (hb _ hB.lt)
theorem holds_alloc {g : G} {s : St} {w : World} (o : Obj) (hH : Holds g s w) : Holds g s (w.alloc o) ∧ LE g w g (w.alloc o) := by
 have e : (w.alloc o).heap = w.heap.push o := rfl
 exact holds_grow hH (fun k hk => by rw [e]; simp [Array.getElem?_push, Nat.ne_of_lt hk]) (by rw [e]; simp) rfl rfl rfl
def fiveE (p0 p1 p2 p3 p4 : PV) : Env := fun t => match t with
 | 0 => p0
 | 1 => p1
 | 2 => p2
 | 3 => p3
 | 4 => p4
 | _ => .junk
theorem ta_run (w : World) : (Instr.typeAssert (.iface 247 (.agg #[])) 20 247 true).run Tryz.prog w = .ok (.tuple #[.agg #[], .bool true]) w := by
 kernel_rfl
theorem whole1_pan {g : G} {w : World} {s : St} {c : Cx} {i0 i1 i2 i3 i4 ir : Nat} {a n a' : Int} {k' : Int} {cs3 : List PV} {bb : Bool} {v0 v1 v2 v3 v4 : Value} (hH : Holds g s w) (h0 : s i0 = some (.row 3 1 [[.lit (.int .i64 a)]])) (h1 : s i1 = some (.row 3 1 [[.lit (.int .i64 n)]])) (h2 : s i2 = some (.row 121 1 [[.pt ir 0 0]])) (h3 : s i3 = some (.row 26 6 [cs3])) (hl3 : cs3.length = 6) (h4 : s i4 = some (.row 4 1 [[.lit (.bool bb)]])) (hr : s ir = some (rdRow c a' k'))
  (r0 : VR w g (.pt i0 0 0) v0) (r1 : VR w g (.pt i1 0 0) v1) (r2 : VR w g (.pt i2 0 0) v2) (r3 : VR w g (.pt i3 0 0) v3) (r4 : VR w g (.pt i4 0 0) v4) :
  CallsDIn (fen none) 0 Tryz.prog 199 #[v0, v1, v2, v3, v4] (.panicking [flt]) w fun e u' w' => e = .returned (.tuple #[]) ∧ u' = .panicking [{ flt with recovered := true }] ∧ ∃ g', LE g w g' w' ∧ Holds g' (((s.upd ir (some (rdRow c a n))).upd i3 (some (.row 26 6 [zeroN.cells]))).upd i4 (some (.row 4 1 [[.lit (.bool false)]]))) w' := by
 refine callsDIn_of_wpSIn Tryz.func199 rfl trivial fun c₀ cs hu => ?_
 apply wpSIn_seq
 apply wpSIn_region
 simp [wpOpsSIn, go_sem, recoverD, hu, Tryz.ntmps199, Exit.thenS, flt]
 apply wpSIn_seq
 apply wpSIn_region
 simp [wpOpsSIn, go_sem, Exit.thenS, Array.replicate]
 refine wpSIn_cond (t := true) (by simp [Act.eval, Array.replicate]) ?_
 simp only [if_true]
 apply wpSIn_seq
 apply wpSIn_seq
 apply wpSIn_region
 have hta := ta_run
 simp [wpOpsSIn, go_sem, Exit.thenS, Array.replicate, hta]
 apply wpSIn_seq
 apply wpSIn_region
 simp [wpOpsSIn, go_sem, Exit.thenS, Array.replicate]
 refine wpSIn_cond (t := false) (by simp [Act.eval]) ?_
 simp only [Bool.false_eq_true, if_false]
 refine wpSIn_of_wpIn rfl (wpIn_skip ?_)
 show Code.wpSIn _ _ _ _ _ _ _ _
 clear hta
 obtain ⟨hHa, hLa⟩ := holds_alloc (.cells #[] 247) hH
 generalize w.alloc (.cells #[] 247) = wa at *
 have hER : ER wa g 28 (fiveE (.pt i0 0 0) (.pt i1 0 0) (.pt i2 0 0) (.pt i3 0 0) (.pt i4 0 0)) { tmps := #[v0, v1, v2, v3, v4, Value.iface 247 (Value.agg #[]), Value.pointer (some { block := w.heap.size, off := 0 }), Value.bool true, Value.iface 247 (Value.agg #[]), Value.iface 247 (Value.agg #[]), Value.bool true, Value.tuple #[Value.agg #[], Value.bool true], Value.iface 247 (Value.agg #[]), Value.tuple #[Value.agg #[], Value.bool true], Value.agg #[], Value.bool true, Value.bool true, Value.bool false, undef, undef, undef, undef, undef, undef, undef, undef, undef, undef], defers := [] } := by
  refine ⟨rfl, fun t => ?_⟩
  match t with
  | 0 => exact r0.le hLa.toLEv
  | 1 => exact r1.le hLa.toLEv
  | 2 => exact r2.le hLa.toLEv
  | 3 => exact r3.le hLa.toLEv
  | 4 => exact r4.le hLa.toLEv
  | _ + 5 => exact .junk _
 generalize hA : Act.mk _ [] = A at hER ⊢
 have hAd : A.defers = [] := by rw [← hA]
 clear hA
 have n3 : ir ≠ i3 := fun e => by rw [← e, hr] at h3; cases h3
 have n4 : ir ≠ i4 := fun e => by rw [← e, hr] at h4; cases h4
 have n34 : i3 ≠ i4 := fun e => by rw [← e, h3] at h4; cases h4
 refine wpSIn_of_wpIn rfl ?_
 have hAA : ({ A with defers := [] } : Act) = A := by rw [← hAd]
 refine wpIn_seq (wpIn_mono (Q := frQ [] [] (PQ 28 wa.heap.size g wa (fun x e s' => x = .normal ∧ e 3 = .pt i3 0 0 ∧ e 4 = .pt i4 0 0 ∧ s' = s.upd ir (some (rdRow c a n))))) ?_ ?_)
 ·rw [← hAA]
  refine wpR_region (wpListR_frame _ A wa (by rfl) ?_)
  rw [hAA]
  refine pws_sound g wa _ _ s g A wa (.refl _ _) hHa hER (by rw [hAd]; exact ⟨Nat.le_refl _, trivial⟩) ?_
  simp [fiveE, h0, h1, h2, hr]
 ·rintro ex a1 w1 hq
  cases ex with
  | normal =>
   obtain ⟨hd1, e1, s1, g1, l1, H1, E1, D1, _, e3, e4, rfl⟩ := hq
   have hA1 : ({ a1 with defers := [] } : Act) = a1 := by rw [← hd1]
   rw [hA1] at E1
   clear hER hHa
   refine wpIn_mono (Q := frQ [] [] (PQ 28 w1.heap.size g1 w1 (fun x e s' => x = .normal ∧ s' = ((s.upd ir (some (rdRow c a n))).upd i3 (some (.row 26 6 [zeroN.cells]))).upd i4 (some (.row 4 1 [[.lit (.bool false)]]))))) ?_ ?_
   ·rw [← hA1]
    refine wpR_region (wpListR_frame _ a1 w1 (by rfl) ?_)
    rw [hA1]
    refine pws_sound g1 w1 _ _ _ g1 a1 w1 (.refl _ _) H1 E1 (by rw [hd1]; exact ⟨Nat.le_refl _, trivial⟩) ?_
    have b3 : (s.upd ir (some (rdRow c a n))) i3 = some (.row 26 6 [cs3]) := by rw [St.upd_ne _ _ (Ne.symm n3)]; exact h3
    have b4 : (s.upd ir (some (rdRow c a n))) i4 = some (.row 4 1 [[.lit (.bool bb)]]) := by rw [St.upd_ne _ _ (Ne.symm n4)]; exact h4
    generalize s.upd ir (some (rdRow c a n)) = σ at *
    have hdr : List.drop 6 cs3 = [] := List.drop_eq_nil_of_le (by omega)
    simp [e3, e4, b3, b4, hl3, zeroN, Ne.symm n34, hdr]
   ·rintro ex a2 w2 hq
    cases ex with
    | normal =>
     obtain ⟨hd2, e2, s2, g2, l2, H2, E2, D2, _, rfl⟩ := hq
     refine ⟨hd2, _, rfl, .tuple #[], by simp [results, Tryz.results199], rfl, rfl, g2, (hLa.trans l1).trans l2, H2⟩
    | outgrown => obtain ⟨a0, w0, _, _, _, _, _, _, _, h, _⟩ := hq; cases h
    | exit i => obtain ⟨_, _, _, _, _, _, _, _, h, _⟩ := hq; cases h
    | goto i => obtain ⟨_, _, _, _, _, _, _, _, h, _⟩ := hq; cases h
    | ret => obtain ⟨_, _, _, _, _, _, _, _, h, _⟩ := hq; cases h
    | panic i => obtain ⟨_, _, _, _, _, _, _, _, h, _⟩ := hq; cases h
  | outgrown => obtain ⟨a0, w0, _, _, _, _, _, _, _, h, _⟩ := hq; cases h
  | exit i => obtain ⟨_, _, _, _, _, _, _, _, h, _⟩ := hq; cases h
  | goto i => obtain ⟨_, _, _, _, _, _, _, _, h, _⟩ := hq; cases h
  | ret => obtain ⟨_, _, _, _, _, _, _, _, h, _⟩ := hq; cases h
  | panic i => obtain ⟨_, _, _, _, _, _, _, _, h, _⟩ := hq; cases h
end Go.Pv

namespace Go.Pv
open Go.Proofs
set_option linter.unusedVariables false
set_option linter.unusedSimpArgs false
set_option maxRecDepth 100000
def PQK (N : Nat) (D : List Deferred) (g : G) (w : World) (Q : Exit → Env → St → Prop) : Exit → Act → World → Prop := fun ex a' w' =>
 ∃ e' s' g', LE g w g' w' ∧ Holds g' s' w' ∧ ER w' g' N e' a' ∧ a'.defers = D ∧ Q ex e' s'
section
variable {P : Program} {N : Nat}
theorem pws_keep {D : List Deferred} {ops : Array Oper} (g0 : G) (w0 : World) {Q : Exit → Env → St → Prop} : ∀ (l : List Oper) (e : Env) (s : St) (g : G) (a : Act) (w : World), LE g0 w0 g w → Holds g s w → ER w g N e a → a.defers = D →
  pws P (fun j => (ops[j]?).bind (·.dst)) N l e s (Q .normal) (fun c e s => Q (.panic c) e s) → wpListR P ops (PQK N D g0 w0 Q) l a w
 | [], e, s, g, a, w, hle, hH, hE, hd, h => ⟨e, s, g, hle, hH, hE, hd, h⟩
 | o :: os, e, s, g, a, w, hle, hH, hE, hd, h => by
  obtain ⟨hdst, h⟩ := h
  have main : opw P e s (fun v s' => pws P (fun j => (ops[j]?).bind (·.dst)) N os (e.put o.dst v) s' (Q .normal) (fun c e s => Q (.panic c) e s)) (fun c s' => Q (.panic c) e s') o.op → wpR P o a w (wpListR P ops (PQK N D g0 w0 Q) os) (PQK N D g0 w0 Q) := fun h =>
   opw_sound hH hE o h (fun p v s' g' w' k1 k2 k3 k4 => pws_keep g0 w0 os _ s' g' _ w' (hle.trans k1) k2 ((hE.le k1.toLEv).put hdst k3) (by rw [put_defers]; exact hd) k4)
    (fun c s' g' w' k1 k2 k3 => ⟨e, s', g', hle.trans k1, k2, hE.le k1.toLEv, hd, k3⟩)
  unfold wpListR
  split at h
  ·rename_i hg
   rw [if_pos (by simp [Region.wanted, hg])]
   exact main h
  ·rename_i j want hg
   obtain ⟨d, hdj, h⟩ := okv_ex h
   have hu : VR w g (.tup []) undef := .tup [] #[] rfl (by simp)
   split at h
   case h_3 => exact h.elim
   case h_2 hed =>
    have hv := hE.vr d
    rw [hed] at hv
    have hvd : a.tmps.getD d undef = .tuple #[] := by
     generalize a.tmps.getD d undef = u at hv
     cases hv with
     | tup _ vs h1 h3 =>
      have : vs = #[] := Array.eq_empty_of_size_eq_zero (by simpa using h1)
      rw [this]
    have hy : yielded ops a.tmps j = none := by
     unfold yielded
     have hdj' : (ops[j]?).bind (·.dst) = some d := hdj
     rw [hdj']
     simp only [Option.bind_some]
     rw [Array.getD_eq_getD_getElem?] at hvd
     cases ht : a.tmps[d]? with
     | none => rfl
     | some v => rw [ht] at hvd; cases hvd; rfl
    rw [if_neg (by simp [Region.wanted, hg, hy])]
    exact pws_keep g0 w0 os _ s g _ w hle hH (hE.put hdst hu) (by rw [put_defers]; exact hd) h
   rename_i t hed
   obtain ⟨h1, h2⟩ := h
   have hv := hE.vr d
   rw [hed] at hv
   obtain ⟨hvd, _⟩ := hv.lit_inv
   have hy : yielded ops a.tmps j = some t := by
    unfold yielded
    have hdj' : (ops[j]?).bind (·.dst) = some d := hdj
    rw [hdj']
    simp only [Option.bind_some]
    rw [Array.getD_eq_getD_getElem?] at hvd
    cases ht : a.tmps[d]? with
    | none => rw [ht] at hvd; cases hvd
    | some v => rw [ht] at hvd; cases hvd; rfl
   by_cases hw : t = want
   ·rw [if_pos (by simp [Region.wanted, hg, hy, hw])]
    exact main (h1 hw)
   ·rw [if_neg (by simp [Region.wanted, hg, hy, hw])]
    exact pws_keep g0 w0 os _ s g _ w hle hH (hE.put hdst hu) (by rw [put_defers]; exact hd) (h2 (by cases t <;> cases want <;> simp_all))
end
section
variable {c : Cx} {s : St} {ir : Nat} {at_ : Nat} {k : Int}
def WR (c : Cx) (s : St) (ir : Nat) (o : Out Nd) (r : Res) (s' : St) : Prop := match o with
 | .fuel => True
 | .bad => s' = s ∧ r = .ret (.tup [zeroN, .lit (.bool false)])
 | .ok x i => ∃ k', s' = s.upd ir (some (rdRow c (i : Nat) k')) ∧ r = .ret (.tup [encU x, .lit (.bool true)])
theorem whole_c (hc : c.ok) {q : FuncId} {o : Out Nd} (hq : MC c q [] at_ (o.map encU)) (hn : o ≠ .fuel) (he : c.env s) (hs : s ir = some (rdRow c (at_ : Nat) k)) : PCalls Tryz.prog 126 [.pt ir 0 0, .fn q [.pt ir 0 0] []] s (WR c s ir o) := by
 refine .inl ⟨by unfold enters; rw [Tryz.func126]; rfl, fun g w vs hH hA => ?_⟩
 have hE := start_er hA (n := 19) (by simp)
 refine callsIn_wide.1 (callsIn_of_wp_marks (F := fen none) (n := 0) Tryz.func126 rfl trivial ?_)
 refine wpIn_seq (wpIn_mono (PW.region (N := 19) (Q := fun x e s' => x = .normal ∧ ∃ i2 i4 i5, e 0 = .pt ir 0 0 ∧ e 1 = .fn q [.pt ir 0 0] [] ∧ e 2 = .pt i2 0 0 ∧ e 4 = .pt i4 0 0 ∧ e 5 = .pt i5 0 0 ∧ s' i2 = some (.row 121 1 [[.pt ir 0 0]]) ∧ s' i4 = some (.row 26 6 [zeroN.cells]) ∧ s' i5 = some (.row 4 1 [[.lit (.bool false)]]) ∧ s.sub s' ∧ s i4 = none ∧ s i5 = none) ?_ none w.heap.size g _ w (.inr rfl) hH hE ⟨Nat.le_refl _, trivial⟩) ?_)
 ·simp [Env.start]
  intro i2 h2 i4 h24 h42 h4 i5 h25 h52 h45 h54 h5
  refine ⟨by simp [h54, h42], by simp [h52, zeroN], ((St.sub.set (fun _ _ h => h) h2).set h4).set h5, h4, h5⟩
 rintro x a1 w1 ⟨e1, s1, g1, l1, H1, E1, D1, hx, i2, i4, i5, e0, ee1, e2, e4, e5, b2, b4, b5, hsub1, z4, z5⟩
 subst hx
 have br := hsub1 _ _ hs
 refine wpIn_seq (wpIn_mono (PW.drawnA (N := 19) (Q := fun x e s' => x = .normal ∧ ∃ i6 i7, e 1 = .fn q [.pt ir 0 0] [] ∧ e 2 = .pt i2 0 0 ∧ e 4 = .pt i4 0 0 ∧ e 5 = .pt i5 0 0 ∧ e 6 = .pt i6 0 0 ∧ e 7 = .pt i7 0 0 ∧ s' i6 = some (.row 3 1 [[.lit (.int .i64 (at_ : Nat))]]) ∧ s' i7 = some (.row 3 1 [[.lit (.int .i64 k)]]) ∧ s1.sub s') s1 (fun i => match i with | 0 => 3 | 3 => 3 | 4 => 3 | 7 => 3 | _ => 0) [0, 1, 2, 3, 4, 5, 6, 7, 8, 9, 10, 11] mixed_ (fun _ _ _ _ h => by cases h.1) (by kernel_rfl) (fun _ _ h => h) ?_ none w.heap.size g1 a1 w1 (.inr rfl) H1 E1 D1) ?_)
 ·simp [e0, ee1, e2, e4, e5, b2, br]
  intro i6 h6 i7 h76 h67 h7
  have q1 := ((St.sub.set (s := s1) (fun _ _ h => h) h6 (b := some (.row 3 1 [[.lit (.int .i64 0)]]))).set h7 (b := some (.row 3 1 [[.lit (.int .i64 0)]]))).set h6 (b := some (.row 3 1 [[.lit (.int .i64 (at_ : Nat))]]))
  refine ⟨q1, ?_⟩
  have q2 := q1.set h7 (b := some (.row 3 1 [[.lit (.int .i64 k)]]))
  simp [h76, h67]
  exact q2
 rintro x a2 w2 ⟨e3, s2, g2, l2, H2, E2, D2, hx, i6, i7, f1, f2, f4, f5, f6, f7, b6, b7, hsub2⟩
 subst hx
 have hmf : ∀ (fn : Fn) (first cap : Array Value) (w : World), (Instr.makeFunc fn first cap).run Tryz.prog w = .ok (.func fn first cap) w := fun _ _ _ _ => rfl
 refine wpIn_seq ?_
 apply wpIn_region
 have h16 : 16 < a2.tmps.size := by rw [E2.size]; decide
 simp [wpOpsIn, Oper.wpIn, Oper.uponIn, go_sem, Region.wanted, hmf, Oper.semAt, h16, Act.put]
 have getv : ∀ t, VR w2 g2 (e3 t) (a2.tmps[t]?.getD undef) := fun t => by have := E2.vr t; rw [Array.getD_eq_getD_getElem?] at this; exact this
 have r6 := getv 6; have r7 := getv 7; have r2 := getv 2; have r4 := getv 4; have r5 := getv 5
 rw [f6] at r6; rw [f7] at r7; rw [f2] at r2; rw [f4] at r4; rw [f5] at r5
 have E3 := E2.put (d := some 16) (fun t ht => by cases ht; decide) (p := .junk) (v := Value.func (Fn.func 199) #[] #[a2.tmps[6]?.getD undef, a2.tmps[7]?.getD undef, a2.tmps[2]?.getD undef, a2.tmps[4]?.getD undef, a2.tmps[5]?.getD undef]) (.junk _)
 have E3' : ER w2 g2 19 (e3.put (some 16) .junk) { tmps := a2.tmps.setIfInBounds 16 (Value.func (Fn.func 199) #[] #[a2.tmps[6]?.getD undef, a2.tmps[7]?.getD undef, a2.tmps[2]?.getD undef, a2.tmps[4]?.getD undef, a2.tmps[5]?.getD undef]), defers := { target := Target.fn (Fn.func 199) #[a2.tmps[6]?.getD undef, a2.tmps[7]?.getD undef, a2.tmps[2]?.getD undef, a2.tmps[4]?.getD undef, a2.tmps[5]?.getD undef], args := #[] } :: a2.defers } := ⟨E3.size, E3.vr⟩
 clear E3 hmf h16 getv
 generalize a2.tmps[6]?.getD undef = v6 at *
 generalize a2.tmps[7]?.getD undef = v7 at *
 generalize a2.tmps[2]?.getD undef = v2 at *
 generalize a2.tmps[4]?.getD undef = v4 at *
 generalize a2.tmps[5]?.getD undef = v5 at *
 generalize a2.tmps.setIfInBounds 16 _ = tm at *
 generalize hds : a2.defers = ds at *
 clear E2
 have br2 := hsub2 _ _ br
 have c2 := hsub2 _ _ b2
 have c4 := hsub2 _ _ b4
 have c5 := hsub2 _ _ b5
 have hss2 : s.sub s2 := fun i x h => hsub2 _ _ (hsub1 _ _ h)
 refine wpIn_seq (wpIn_mono (Q := PQK 19 ({ target := Target.fn (Fn.func 199) #[v6, v7, v2, v4, v5], args := #[] } :: ds) g2 w2 (fun x e s' => (x = .normal ∧ ∃ y i k', o = .ok y i ∧ e 4 = .pt i4 0 0 ∧ e 5 = .pt i5 0 0 ∧ s' = ((s2.upd ir (some (rdRow c (i : Nat) k'))).upd i4 (some (.row 26 6 [encC y]))).upd i5 (some (.row 4 1 [[.lit (.bool true)]]))) ∨ (∃ a' k', x = .panic [flt] ∧ o = .bad ∧ e 4 = .pt i4 0 0 ∧ e 5 = .pt i5 0 0 ∧ s' = s2.upd ir (some (rdRow c a' k'))))) (wpR_region (pws_keep g2 w2 _ _ _ g2 _ w2 (.refl _ _) H2 E3' rfl ?_)) ?_)
 ·simp [f1, f4, f5]
  refine (hq (by cases o <;> simp_all) s2 ir k (he.sub hss2) br2).mono ?_
  intro r s9 hr
  cases o with
  | fuel => exact absurd rfl hn
  | bad =>
   obtain ⟨a', k', rfl, rfl⟩ := hr
   exact ⟨rfl, rfl, by simp [f4], by simp [f5], a', k', rfl⟩
  | ok y i =>
   obtain ⟨k', rfl, rfl⟩ := hr
   have n4 : i4 ≠ ir := fun e => by rw [e, br2] at c4; cases c4
   have n5 : i5 ≠ ir := fun e => by rw [e, br2] at c5; cases c5
   have n45 : i5 ≠ i4 := fun e => by rw [e, c4] at c5; cases c5
   have d4 : (s2.upd ir (some (rdRow c (i : Nat) k'))) i4 = some (.row 26 6 [zeroN.cells]) := by rw [St.upd_ne _ _ n4]; exact c4
   have d5 : (s2.upd ir (some (rdRow c (i : Nat) k'))) i5 = some (.row 4 1 [[.lit (.bool false)]]) := by rw [St.upd_ne _ _ n5]; exact c5
   have key : ∀ σ : St, σ = s2.upd ir (some (rdRow c (i : Nat) k')) → ∃ x, (σ.upd i4 (some (.row 26 6 [encC y]))).upd i5 (some (.row 4 1 [[.lit (.bool true)]])) = ((s2.upd ir (some (rdRow c (i : Nat) x))).upd i4 (some (.row 26 6 [encC y]))).upd i5 (some (.row 4 1 [[.lit (.bool true)]])) := fun σ h => ⟨k', by rw [h]⟩
   obtain ⟨σ, hσ⟩ : ∃ σ, σ = s2.upd ir (some (rdRow c (i : Nat) k')) := ⟨_, rfl⟩
   have hk := key σ hσ
   rw [← hσ] at d4 d5 ⊢
   clear key hσ
   simp [f4, f5, d4, d5, n45, zeroN]
   exact ⟨y, i, ⟨rfl, rfl⟩, hk⟩
 -- the deferred call, then the results
 have hD : ∀ {g3 : G} {w3 : World}, LE g2 w2 g3 w3 → DK w.heap.size g3 w3 ds := fun h => D2.le h
 have fin : ∀ (g4 : G) (w4 : World) (s4 : St) (a3 : Act) (e4' : Env) (nv bv : PV), LE g2 w2 g4 w4 → Holds g4 s4 w4 → ER w4 g4 19 e4' a3 → e4' 4 = .pt i4 0 0 → e4' 5 = .pt i5 0 0 → (∃ cs, s4 i4 = some (.row 26 6 [cs]) ∧ cs.length = 6 ∧ nv = .agg cs) → s4 i5 = some (.row 4 1 [[bv]]) → (∃ sF, sF.sub s4 ∧ WR c s ir o (.ret (.tup [nv, bv])) sF) →
   LeavesInM (fen none) 0 Tryz.prog Tryz.f126 a3.tmps (fun e w' => ∃ res s' g', LE g w g' w' ∧ Holds g' s' w' ∧ RR w' g' res e ∧ WR c s ir o res s') ds .returning w4 := by
  rintro g4 w4 s4 a3 e4' nv bv l4 H4 E4 x4 x5 ⟨cs, y4, y6, rfl⟩ y5 ⟨sF, z1, z2⟩
  have lw := ((l1.trans l2).trans l4)
  refine leaves_drop hH (by simp) ds g4 w4 (hD l4).2 lw H4 (ds0 := a3.defers) E4 (fun g5 w5 l5 H5 E5 => ?_)
  have hres : resP Tryz.prog e4' s4 Tryz.f126.results.toList = some [.agg cs, bv] := by
   show resP Tryz.prog e4' s4 [.cell 4 26, .cell 5 4] = _
   have ht : cs.take 6 = cs := List.take_of_length_le (by omega)
   simp [resP, resP1, x4, x5, cellsAt, y4, y5, y6, ht, pack]
  obtain ⟨vs', m1, m2, m3⟩ := resP_sound (P := Tryz.prog) H5 E5 _ _ hres
  exact ⟨_, results_run Tryz.f126 a3.tmps m1, _, sF, g5, l5, H5.sub z1, .ret _ _ (one_vr m2 m3), z2⟩
 have hinv : ∀ w : World, (invoke (Target.fn (Fn.func 199) #[v6, v7, v2, v4, v5]) #[]).run Tryz.prog w = .ok (.enter 199 #[v6, v7, v2, v4, v5]) w := fun w => by
  simp [go_sem]
 rintro x a3 w3 ⟨e4', s3, g3, l3, H3, E4, hdf, hQ⟩
 rcases hQ with ⟨rfl, y, i, k', rfl, x4, x5, rfl⟩ | ⟨a', k', rfl, rfl, x4, x5, rfl⟩
 ·refine wpIn_ret ?_
  show LeavesInM _ _ _ _ _ _ _ _ _
  rw [hdf]
  refine ⟨by simp, .inr ⟨by simp, _, _, _, _, rfl, hinv w3, fun _ _ => trivial, (whole1_idle v6 v7 v2 v4 v5 w3).mono ?_⟩⟩
  rintro e u' w'' ⟨rfl, rfl, rfl⟩
  refine fin g3 w'' _ a3 e4' (encU y) (.lit (.bool true)) l3 H3 E4 x4 x5 ⟨encC y, ?_, rfl, rfl⟩ (St.upd_same _ _ _) ⟨s.upd ir (some (rdRow c (i : Nat) k')), ?_, k', rfl, rfl⟩
  ·have n45 : i4 ≠ i5 := fun e => by rw [e, c5] at c4; cases c4
   rw [St.upd_ne _ _ n45]; exact St.upd_same _ _ _
  ·intro j x hj
   by_cases h1 : j = ir
   ·subst h1
    have n4 : j ≠ i4 := fun e => by rw [e, z4] at hs; cases hs
    have n5 : j ≠ i5 := fun e => by rw [e, z5] at hs; cases hs
    rw [St.upd_same] at hj
    rw [St.upd_ne _ _ n5, St.upd_ne _ _ n4, St.upd_same]; exact hj
   ·rw [St.upd_ne _ _ h1] at hj
    have n4 : j ≠ i4 := fun e => by rw [e, z4] at hj; cases hj
    have n5 : j ≠ i5 := fun e => by rw [e, z5] at hj; cases hj
    rw [St.upd_ne _ _ n5, St.upd_ne _ _ n4, St.upd_ne _ _ h1]; exact hss2 _ _ hj
 ·show LeavesInM _ _ _ _ _ _ _ _ _
  rw [hdf]
  have m6 : i6 ≠ ir := fun e => by rw [e, br2] at b6; cases b6
  have m7 : i7 ≠ ir := fun e => by rw [e, br2] at b7; cases b7
  have m2 : i2 ≠ ir := fun e => by rw [e, br2] at c2; cases c2
  have m4 : i4 ≠ ir := fun e => by rw [e, br2] at c4; cases c4
  have m5 : i5 ≠ ir := fun e => by rw [e, br2] at c5; cases c5
  refine ⟨by simp, .inr ⟨by simp, _, _, _, _, rfl, hinv w3, fun _ _ => trivial, (whole1_pan H3 (by rw [St.upd_ne _ _ m6]; exact b6) (by rw [St.upd_ne _ _ m7]; exact b7) (by rw [St.upd_ne _ _ m2]; exact c2) (by rw [St.upd_ne _ _ m4]; exact c4) rfl (by rw [St.upd_ne _ _ m5]; exact c5) (St.upd_same _ _ _) (r6.le l3.toLEv) (r7.le l3.toLEv) (r2.le l3.toLEv) (r4.le l3.toLEv) (r5.le l3.toLEv)).mono ?_⟩⟩
  rintro e u' w'' ⟨rfl, rfl, g5, l5, H5⟩
  have n45 : i4 ≠ i5 := fun e => by rw [e, c5] at c4; cases c4
  refine fin g5 w'' _ a3 e4' zeroN (.lit (.bool false)) (l3.trans l5) H5 (E4.le l5.toLEv) x4 x5 ⟨zeroN.cells, ?_, rfl, rfl⟩ (St.upd_same _ _ _) ⟨s, ?_, rfl, rfl⟩
  ·rw [St.upd_ne _ _ n45]; exact St.upd_same _ _ _
  ·intro j x hj
   have n4 : j ≠ i4 := fun e => by rw [e, z4] at hj; cases hj
   have n5 : j ≠ i5 := fun e => by rw [e, z5] at hj; cases hj
   rw [St.upd_ne _ _ n5, St.upd_ne _ _ n4]
   by_cases h1 : j = ir
   ·subst h1; rw [St.upd_same, ← hs]; exact hj
   ·rw [St.upd_ne _ _ h1, St.upd_ne _ _ h1]; exact hss2 _ _ hj
end
end Go.Pv

namespace Go.Pv
open Go.Proofs
set_option linter.unusedVariables false
set_option linter.unusedSimpArgs false
set_option maxRecDepth 100000
set_option maxHeartbeats 4000000
namespace Cx
section
variable (c : Cx) (p : NT → Nat → Out Nd) (n : Nat)
def altF : Nat → Nat → Out Nd
 | 0 => c.typedefS p
 | 1 => c.structS p n
 | 2 => c.funcS p n
 | 3 => p (.decl .always)
 | 4 => c.declarerS p
 | _ => c.emptyS
def itemG : Nat → Nat → Out Nd
 | 0, i => .ok (c.rawN i) (c.rawE i)
 | m + 1, i => match c.altF p n (5 - m) i with
  | .fuel => .fuel
  | .bad => itemG m i
  | .ok x j => if 60 < x.lev then .ok (c.rawN i) (c.rawE i) else .ok x j
end
def itemS (c : Cx) (n : Nat) (i : Nat) : Out Nd := c.itemG (c.run n) n 6 i
def after (c : Cx) (x : Nd) : Cx := if x.op = 5 then (match x.l[1]? with
 | some y => { c with ty := y.s :: c.ty }
 | none => c) else c
end Cx
def altFn : Nat → FuncId
 | 0 => 120
 | 1 => 121
 | 2 => 122
 | 3 => 123
 | 4 => 124
 | _ => 125
section
variable {c : Cx} {p : NT → Nat → Out Nd} {s : St} {ir : Nat} {at_ n : Nat} {k : Int}
theorem alt_c (hc : c.ok) (hn : n ≤ 1000000000) (h0 : at_ < c.v.length) : ∀ q, MC c (altFn q) [] at_ ((c.altF (c.run n) n q at_).map encU)
 | 0 => typedef_c hc (ph_run hc n hn) (by omega)
 | 1 => struct_c hc (ph_run hc n hn) hn (by omega)
 | 2 => func_c hc (ph_run hc n hn) hn (by omega)
 | 3 => outer_c hc (ph_run hc n hn) (by omega)
 | 4 => declarer_c hc (ph_run hc n hn) h0
 | _ + 5 => empty_c hc (by omega)
theorem alt_sz (hc : c.ok) (h0 : at_ < c.v.length) : ∀ q, OP (c.altF (c.run n) n q at_) fun x j => at_ < j ∧ j ≤ c.v.length ∧ x.size ≤ 2 * (j - at_) ∧ (x.op = 5 → ∃ t y, x.l = [t, y])
 | 0 => (typedef_sz hc (pz_run hc n) (by omega)).mono fun x j h => ⟨h.1, h.2.1, h.2.2.1, fun _ => h.2.2.2.2⟩
 | 1 => (struct_sz hc (pz_run hc n) (by omega)).mono fun x j h => ⟨h.1, h.2.1, h.2.2.1, fun e => by rw [h.2.2.2] at e; cases e⟩
 | 2 => (func_sz hc (pz_run hc n) (by omega)).mono fun x j h => ⟨h.1, h.2.1, h.2.2.1, fun e => by rw [h.2.2.2] at e; cases e⟩
 | 3 => (outer_sz hc (by omega)).mono fun x j h => ⟨h.1, h.2.1, h.2.2.1, fun e => by rw [h.2.2.2] at e; cases e⟩
 | 4 => (declarer_sz hc (pz_run hc n) (by omega)).mono fun x j h => ⟨h.1, h.2.1, h.2.2.1, fun e => by rw [h.2.2.2] at e; cases e⟩
 | _ + 5 => (empty_sz hc (by omega)).mono fun x j h => ⟨h.1, h.2.1, h.2.2.1, fun e => by rw [h.2.2.2] at e; cases e⟩
theorem raw_lt (hc : c.ok) (h0 : at_ < c.v.length) : at_ < c.rawE at_ ∧ c.rawE at_ ≤ c.v.length := by
 unfold Cx.rawE
 rw [show c.v.length - at_ = (c.v.length - (at_ + 1)) + 1 by omega]
 unfold Cx.rawF
 rw [if_neg (by omega)]
 have he : at_ + 1 ≤ c.eat (at_ + 1) ⟨#[59]⟩ ∧ c.eat (at_ + 1) ⟨#[59]⟩ ≤ c.v.length := by
  unfold Cx.eat
  cases hh : c.is (at_ + 1) ⟨#[59]⟩ with
  | true => have := hc.lt hh; simp only [cond_true]; omega
  | false => simp only [cond_false]; omega
 have i0 := rawF_le hc (c.v.length - (at_ + 1)) (at_ + 1) 0 (by omega)
 have i1 := rawF_le hc (c.v.length - (at_ + 1)) (at_ + 1) (0 + 1) (by omega)
 have i2 := rawF_le hc (c.v.length - (at_ + 1)) (at_ + 1) (0 - 1) (by omega)
 repeat' split
 all_goals omega
theorem item_sz (hc : c.ok) (h0 : at_ < c.v.length) : ∀ m, OP (c.itemG (c.run n) n m at_) fun x j => at_ < j ∧ j ≤ c.v.length ∧ x.size ≤ 2 * (j - at_) ∧ (x.op = 5 → ∃ t y, x.l = [t, y])
 | 0 => by
  have := raw_lt hc h0
  refine .ok ⟨this.1, this.2, ?_, fun e => by cases e⟩
  unfold Cx.rawN
  simp
  omega
 | m + 1 => by
  unfold Cx.itemG
  have hz := alt_sz (n := n) hc h0 (5 - m)
  cases ha : c.altF (c.run n) n (5 - m) at_ with
  | fuel => exact .fuel
  | bad => exact item_sz hc h0 m
  | ok x j => exact .ite (fun _ => item_sz hc h0 0) fun _ => .ok (hz x j ha)
end
section
variable {P : Program} {imp : List Nat} {f : FuncId} {args : List SV} {ps : List PV} {st : SS} {b : St} {K : SV → SS → St → Prop} {Kp : List PanicEntry → SS → St → Prop}
theorem srel_upd {σ : Nat → Nat} {s : St} {ir : Nat} {x0 x : Blk} (hb : b ir = some x0) (hR : SRel imp σ st b s) : SRel imp σ st (b.upd ir (some x)) (s.upd ir (some x)) := by
 have hsn : ∀ k l, st[k]? = some (some l) → l.has = true → σ k ≠ ir := fun k l hk hl e => by
  have := hR.fr k l hk hl
  rw [e] at this
  rw [show b ir = none from this] at hb; cases hb
 refine ⟨fun k c hk => ?_, hR.imp, fun k l hk hl => ?_, hR.inj, fun k l hk => ?_⟩
 ·by_cases hki : k = ir
  ·subst hki; rw [St.upd_same] at hk ⊢; exact hk
  ·rw [St.upd_ne _ _ hki] at hk ⊢; exact hR.sub k c hk
 ·show (b.upd ir _) _ = none
  rw [St.upd_ne _ _ (hsn k l hk hl)]; exact hR.fr k l hk hl
 ·have := hR.loc k l hk
  cases l with
  | cel ty sz cs => obtain ⟨ps, h1, h2⟩ := this; exact ⟨ps, h1, by rw [St.upd_ne _ _ (hsn k _ hk rfl)]; exact h2⟩
  | lst ty sz els =>
   cases els with
   | nil => exact trivial
   | cons c els => show (s.upd ir _) (σ k) = _; rw [St.upd_ne _ _ (hsn k _ hk rfl)]; exact this
theorem sc_eqb {b2 : St} (h : b = b2) (hs : SC P imp f args st b2 K Kp) : SC P imp f args st b K Kp := by rw [h]; exact hs
theorem sc_out {ir : Nat} {x0 : Blk} {R : PV → Blk → Prop} (hb : b ir = some x0) (ha : args = pvs ps) (hl : ps.all PV.live = true)
  (h : ∀ s, b.sub s → PCalls P f ps s fun r s' => ∃ v x, r = .ret v ∧ s' = s.upd ir (some x) ∧ R v x) (hK : ∀ v x, R v x → K (.av (.pv v)) st (b.upd ir (some x))) : SC P imp f args st b K Kp := by
 intro σ s qs hR hA
 subst ha
 rw [pvs_rel hl hA]
 refine (h s hR.sub).mono ?_
 rintro _ s' ⟨v, x, rfl, rfl, hx⟩
 exact ⟨σ, st, _, .av (.pv v), .refl, srel_upd hb hR, Or.inr rfl, hK v x hx⟩
end
section
variable {c : Cx} {p : NT → Nat → Out Nd} {s : St} {ir : Nat} {at_ n : Nat} {k : Int}
@[reducible] def altP (ir : Nat) : List PV := [.fn (altFn 0) [.pt ir 0 0] [], .fn (altFn 1) [.pt ir 0 0] [], .fn (altFn 2) [.pt ir 0 0] [], .fn (altFn 3) [.pt ir 0 0] [], .fn (altFn 4) [.pt ir 0 0] [], .fn (altFn 5) [.pt ir 0 0] []]
theorem altP_get : ∀ q, q < 6 → (altP ir)[q]? = some (.fn (altFn q) [.pt ir 0 0] [])
 | 0, _ => rfl
 | 1, _ => rfl
 | 2, _ => rfl
 | 3, _ => rfl
 | 4, _ => rfl
 | 5, _ => rfl
 | _ + 6, h => absurd h (by omega)
def IR (c : Cx) (s : St) (ir : Nat) (o : Out Nd) (r : Res) (s' : St) : Prop := ∃ x j k', o = .ok x j ∧ r = .ret (encU x) ∧ ((x.op ≠ 5 ∧ s' = s.upd ir (some (rdRow c (j : Nat) k'))) ∨ (x.op = 5 ∧ ∃ t y es, x.l = [t, y] ∧ s c.it = some (.dict es) ∧ s' = (s.upd ir (some (rdRow c (j : Nat) k'))).upd c.it (some (.dict (dset es y.s (.lit (.bool true)))))))
theorem item_c (hc : c.ok) (hn9 : n ≤ 1000000000) (h0 : at_ < c.v.length) (hn : c.itemS n at_ ≠ .fuel) (he : c.env s) (hs : s ir = some (rdRow c (at_ : Nat) k)) : PCalls Tryz.prog 70 [.pt ir 0 0] s (IR c s ir (c.itemS n at_)) := by
 have hvl := hc.vl
 obtain ⟨o, ho⟩ : ∃ o, c.itemS n at_ = o := ⟨_, rfl⟩
 rw [ho] at hn ⊢
 unfold Cx.itemS at ho
 have hne : c.it ≠ ir := fun e => by obtain ⟨es, h, _⟩ := he; rw [e, hs] at h; cases h
 refine PCalls.fun (D := [(10, ([0, 1, 2, 4, 3, 5, 6, 7, 8, 9], [], []))]) ti_ok Tryz.func70 rfl (by kernel_rfl) ?_
 refine sw_loop (D := [(10, ([0, 1, 2, 4, 3, 5, 6, 7, 8, 9], [], []))]) ti_ok (by kernel_rfl) (fun m env st b => ∃ q : Nat, q + m = 6 ∧ c.itemG (c.run n) n m at_ = o ∧ env = [(0, .av (.pv (.pt ir 0 0))), (2, .av (.cell 0 0)), (20, .av (.pv (.vec .tight (altP ir)))), (21, intV 6), (22, intV (q : Nat))] ∧ st = [zLoc] ∧ s = b) 6 ⟨[0], [0, 2, 20, 21, 22], rfl, 0, rfl, ho, rfl, rfl, rfl⟩ ?_
 rintro m env st b ⟨q, hq, hm, rfl, rfl, rfl⟩
 clear ho
 rintro (_ | _) ht
 ·have hm0 : m = 0 := by have := of_decide_eq_false ht; omega
  subst hm0
  unfold Cx.itemG at hm
  subst hm
  refine sc_eqb (b2 := s.upd ir (some (rdRow c (at_ : Nat) k))) (St.upd_self hs).symm ?_
  refine sc_out (ps := [.pt ir 0 0]) (R := fun v x => v = encU (c.rawN at_) ∧ ∃ k', x = rdRow c (c.rawE at_ : Nat) k') (St.upd_same _ _ _) rfl rfl (fun s hs' => ?_) ?_
  ·refine (raw_c hc (show at_ ≤ c.v.length by omega) (by simp) s ir _ (Cx.env.sub ?_ hs') (hs' _ _ (St.upd_same _ _ _))).mono ?_
   ·obtain ⟨es, h1, h2⟩ := he; exact ⟨es, by rw [St.upd_ne _ _ hne]; exact h1, h2⟩
   ·rintro r s' ⟨k', rfl, rfl⟩; exact ⟨_, _, rfl, rfl, rfl, k', rfl⟩
  rintro v x ⟨rfl, k', rfl⟩
  exact ⟨_, _, k', rfl, rfl, .inl ⟨by unfold Cx.rawN Cx.nodeN; simp, by rw [St.upd_upd]⟩⟩
 have hq6 : q < 6 := by have := of_decide_eq_true ht; omega
 obtain ⟨m, rfl⟩ : ∃ m', m = m' + 1 := ⟨m - 1, by omega⟩
 unfold Cx.itemG at hm
 rw [show 5 - m = q by omega] at hm
 refine ⟨.fn (altFn q) [.pt ir 0 0] [], ⟨by omega, by rw [Int.toNat_natCast]; exact altP_get q hq6, rfl⟩, ?_⟩
 refine ⟨[.lit (.int .i64 (at_ : Nat))], .lit (.int .i64 (at_ : Nat)), by simp only [cellsAt, hs]; rfl, rfl, ?_⟩
 have hsz := alt_sz (n := n) hc h0 q
 have hq1 := alt_c (n := n) hc hn9 h0 q
 cases ha : c.altF (c.run n) n q at_ with
 | fuel => rw [ha] at hm; exact absurd hm.symm hn
 | bad =>
  rw [ha] at hm hq1
  simp only at hm
  refine sc_out (ps := [.pt ir 0 0, .fn (altFn q) [.pt ir 0 0] []]) (R := fun v x => v = .tup [zeroN, .lit (.bool false)] ∧ x = rdRow c (at_ : Nat) k) hs rfl rfl (fun s1 hs1 => ?_) ?_
  ·refine (whole_c hc hq1 (by simp) (he.sub hs1) (hs1 _ _ hs)).mono ?_
   rintro r s' ⟨rfl, rfl⟩
   exact ⟨_, _, rfl, (St.upd_self (hs1 _ _ hs)).symm, rfl, rfl⟩
  rintro v x ⟨rfl, rfl⟩
  refine ⟨m, by omega, [0], [0, 2, 20, 21, 22], rfl, q + 1, by omega, hm, ?_, rfl, (St.upd_self hs).symm⟩
  rw [← inc (show q ≤ 1000000000 by omega)]; rfl
 | ok x j =>
  rw [ha] at hm hq1
  simp only at hm
  obtain ⟨z1, z2, z3, z4⟩ := hsz x j ha
  refine sc_out (ps := [.pt ir 0 0, .fn (altFn q) [.pt ir 0 0] []]) (R := fun v y => v = .tup [encU x, .lit (.bool true)] ∧ ∃ k', y = rdRow c (j : Nat) k') hs rfl rfl (fun s1 hs1 => ?_) ?_
  ·refine (whole_c hc hq1 (by simp) (he.sub hs1) (hs1 _ _ hs)).mono ?_
   rintro r s' ⟨k', rfl, rfl⟩
   exact ⟨_, _, rfl, rfl, rfl, k', rfl⟩
  rintro v y ⟨rfl, k', rfl⟩
  refine sc_pure (fun s _ => lev_c x (by omega) s) rfl rfl ?_
  rintro (_ | _) hl
  ·have hl := of_decide_eq_false hl
   rw [if_neg (by omega)] at hm
   subst hm
   rintro (_ | _) h5
   ·have h5 : x.op ≠ 5 := of_decide_eq_false h5
    exact ⟨x, j, k', rfl, rfl, .inl ⟨h5, rfl⟩⟩
   ·have h5 : x.op = 5 := of_decide_eq_true h5
    obtain ⟨t, y, hxl⟩ := z4 h5
    obtain ⟨es, he1, he2⟩ := he
    refine ⟨by kernel_rfl, ?_⟩
    refine ⟨[.mp c.it], .mp c.it, by simp only [cellsAt, St.upd_same]; rfl, rfl, ?_⟩
    refine ⟨encU y, ⟨by omega, by rw [hxl]; exact congrArg some (enc_eq y), rfl⟩, ?_⟩
    refine ⟨es, by rw [St.upd_ne _ _ hne]; exact he1, ?_⟩
    exact ⟨x, j, k', rfl, rfl, .inr ⟨h5, t, y, es, hxl, he1, rfl⟩⟩
  ·have hl := of_decide_eq_true hl
   rw [if_pos (by omega)] at hm
   subst hm
   refine ⟨_, _, _, _, _, rfl, St.upd_same _ _ _, rfl, by show 5 ≤ 8; omega, ?_⟩
   refine sc_eqb (b2 := s.upd ir (some (rdRow c (at_ : Nat) k'))) (by rw [St.upd_upd]; rfl) ?_
   refine sc_out (ps := [.pt ir 0 0]) (R := fun v x => v = encU (c.rawN at_) ∧ ∃ k', x = rdRow c (c.rawE at_ : Nat) k') (St.upd_same _ _ _) rfl rfl (fun s hs' => ?_) ?_
   ·refine (raw_c hc (show at_ ≤ c.v.length by omega) (by simp) s ir _ (Cx.env.sub ?_ hs') (hs' _ _ (St.upd_same _ _ _))).mono ?_
    ·obtain ⟨es, h1, h2⟩ := he; exact ⟨es, by rw [St.upd_ne _ _ hne]; exact h1, h2⟩
    ·rintro r s' ⟨k', rfl, rfl⟩; exact ⟨_, _, rfl, rfl, rfl, k', rfl⟩
   rintro v x ⟨rfl, k', rfl⟩
   exact ⟨_, _, k', rfl, rfl, .inl ⟨by unfold Cx.rawN Cx.nodeN; simp, by rw [St.upd_upd]⟩⟩
end
end Go.Pv

namespace Go.Pv
open Go.Proofs
set_option linter.unusedVariables false
set_option linter.unusedSimpArgs false
set_option maxRecDepth 100000
set_option maxHeartbeats 4000000
def endP (l : List Tk) (v : List Int) : Nat := if 0 < v.length ∧ (tokV l v (v.length - 1)).kind = 0 then (v.getD (v.length - 1) 0).toNat else l.length
def seenL (l : List Tk) (v : List Int) : List Nat := (sightL l v).map fun x => (v.getD x.1 0).toNat
def cxOf (kk k0 : VK) (l : List Tk) (v : List Int) (it : Nat) : Cx := ⟨kk, k0, k0, l, seenL l v, sgL (sightL l v), endP l v, it, [], .lit (.map none)⟩
theorem sightF_mem (l : List Tk) (v : List Int) : ∀ (n k : Nat), ∀ x ∈ sightF l v n k, x.1 < v.length
 | 0, k, x, h => by cases h
 | n + 1, k, x, h => by
  unfold sightF at h
  split at h
  ·split at h
   ·exact sightF_mem l v n _ x h
   ·split at h
    ·rcases List.mem_cons.1 h with rfl | h
     ·assumption
     ·exact sightF_mem l v n _ x h
    ·exact sightF_mem l v n _ x h
  ·cases h
theorem sightF_len (l : List Tk) (v : List Int) : ∀ (n k : Nat), (sightF l v n k).length ≤ n
 | 0, k => by simp [sightF]
 | n + 1, k => by
  unfold sightF
  split
  ·split
   ·have := sightF_len l v n (callT l v k).1.toNat; omega
   ·split
    ·have := sightF_len l v n (k + 1); simp; omega
    ·have := sightF_len l v n (k + 1); omega
  ·simp
theorem seen_natL {l : List Tk} {v : List Int} (hv : AscV l.length v) (k0 : VK) : ints k0 (svL v (sightL l v)) = natL k0 (seenL l v) := by
 unfold svL seenL ints natL
 rw [List.map_map, List.map_map]
 congr 1
 refine List.map_congr_left fun x hx => ?_
 have hlt := sightF_mem l v _ _ x hx
 have hg := List.getElem?_eq_getElem hlt
 have hr := hv.rng _ (List.getElem_mem hlt)
 simp only [Function.comp, List.getD, hg, Option.getD]
 congr 2
 omega
theorem cxOf_ok {kk k0 : VK} {l : List Tk} {v : List Int} {it : Nat} (hv : AscV l.length v) (h1 : l.length ≤ 1000000000) (h2 : v.length ≤ 1000000) (h3 : ∀ t ∈ l, t.text.size ≤ 1000000) : (cxOf kk k0 l v it).ok := by
 refine ⟨fun p hp => ?_, h1, ?_, h3, ?_, ?_, rfl⟩
 ·obtain ⟨x, hx, rfl⟩ := List.mem_map.1 hp
  have hlt := sightF_mem l v _ _ x hx
  have hg := List.getElem?_eq_getElem hlt
  have hr := hv.rng _ (List.getElem_mem hlt)
  show (v.getD x.1 0).toNat < l.length
  simp only [List.getD, hg, Option.getD]
  omega
 ·show (seenL l v).length ≤ _
  have := sightF_len l v v.length 0
  unfold seenL
  rw [List.length_map]
  show (sightF l v v.length 0).length ≤ _
  omega
 ·show endP l v ≤ _
  unfold endP
  split
  ·rename_i h
   have hlt : v.length - 1 < v.length := by omega
   have hg := List.getElem?_eq_getElem hlt
   have hr := hv.rng _ (List.getElem_mem hlt)
   simp only [List.getD, hg, Option.getD]
   omega
  ·exact h1
 ·show (sgL (sightL l v)).length = (seenL l v).length
  simp [sgL, seenL]
theorem begin_c (kk kv : VK) (l : List Tk) (v : List Int) (hv : SiteV l v) (hx : ∀ t ∈ l, t.text.size ≤ 1000000) (hl : v.length ≤ 1000000) (s : St) : PCalls Tryz.prog 68 [toks kk l, ints kv v] s (fun r s' => ∃ k0 it ir, s it = none ∧ (s.upd it (some (.dict []))) ir = none ∧ s' = (s.upd it (some (.dict []))).upd ir (some (rdRow (cxOf kk k0 l v it) 0 0)) ∧ r = .ret (.tup [.pt ir 0 0, .lit (.int .i64 0)])) := by
 refine PCalls.funG (D := []) ti_ok Tryz.func68 rfl (by kernel_rfl) ?_
 refine sc_pureR (ps := [toks kk l, ints kv v]) (R := fun x => ∃ k0 : VK, x = .tup [ints k0 (svL v (sightL l v)), ints k0 (sgL (sightL l v)), .lit (.int .i64 0)]) (fun s2 _ => (sight_c kk kv l v hv hx hl s2).mono ?_) rfl rfl ?_
 ·rintro r s' ⟨rfl, k0, rfl⟩
  exact ⟨rfl, _, ⟨k0, rfl⟩, rfl⟩
 rintro _ ⟨k0, rfl⟩
 rintro (_ | _) h0
 ·exact absurd h0 (by decide)
 have hn := seen_natL hv.asc k0
 rintro (_ | _) h1
 ·have h1 := of_decide_eq_false h1
  rw [List.length_map] at h1
  intro it hit
  refine Gh.cellOut (k := 0) (ps := [toks kk l, ints k0 (svL v (sightL l v)), ints k0 (sgL (sightL l v)), .mp it, .lit (.int .i64 0), .lit (.int .i64 ((l.map encT).length : Nat)), .lit (.int .i64 0), .lit (.map none)]) rfl rfl (fun ir hir => Gh.ret ⟨k0, it, ir, hit, hir, ?_, rfl⟩)
  rw [hn]
  have he : (endP l v : Int) = ((l.map encT).length : Nat) := by
   unfold endP
   rw [if_neg (by omega), List.length_map]
  show _ = St.upd _ _ (some (.row _ _ [[toks kk l, natL k0 (seenL l v), ints k0 (sgL (sightL l v)), .mp it, .lit (.int .i64 0), .lit (.int .i64 (endP l v : Nat)), .lit (.int .i64 0), .lit (.map none)]]))
  rw [he]
  rfl
 have h1 := of_decide_eq_true h1
 rw [List.length_map] at h1
 have hvl : v.length - 1 < v.length := by omega
 obtain ⟨q, g1, g2, g3⟩ := tokV_get hv.asc hvl
 have w1 : IntKind.i64.wrap ((v.length : Int) - 1) = ((v.length - 1 : Nat) : Int) := by rw [wrap_i64 (by omega) (by omega)]; omega
 have ix : 0 ≤ IntKind.i64.wrap (((v.map fun n => PV.lit (.int .i64 n)).length : Int) - 1) ∧ (v.map fun n => PV.lit (.int .i64 n))[(IntKind.i64.wrap (((v.map fun n => PV.lit (.int .i64 n)).length : Int) - 1)).toNat]? = some (.lit (.int .i64 (q : Nat))) := by
  rw [List.length_map, w1]
  exact ⟨by omega, by rw [Int.toNat_natCast, List.getElem?_map, g1]; rfl⟩
 refine ⟨.lit (.int .i64 (q : Nat)), ⟨ix.1, ix.2, rfl⟩, ?_⟩
 refine ⟨encT (tokV l v (v.length - 1)), ⟨by omega, by rw [Int.toNat_natCast, List.getElem?_map, g3]; rfl, rfl⟩, ?_⟩
 rintro (_ | _) h2
 ·have h2 : ¬ (tokV l v (v.length - 1)).kind = 0 := of_decide_eq_false h2
  intro it hit
  refine Gh.cellOut (k := 0) (ps := [toks kk l, ints k0 (svL v (sightL l v)), ints k0 (sgL (sightL l v)), .mp it, .lit (.int .i64 0), .lit (.int .i64 ((l.map encT).length : Nat)), .lit (.int .i64 0), .lit (.map none)]) rfl rfl (fun ir hir => Gh.ret ⟨k0, it, ir, hit, hir, ?_, rfl⟩)
  rw [hn]
  have he : (endP l v : Int) = ((l.map encT).length : Nat) := by
   unfold endP
   rw [if_neg (by omega), List.length_map]
  show _ = St.upd _ _ (some (.row _ _ [[toks kk l, natL k0 (seenL l v), ints k0 (sgL (sightL l v)), .mp it, .lit (.int .i64 0), .lit (.int .i64 (endP l v : Nat)), .lit (.int .i64 0), .lit (.map none)]]))
  rw [he]
  rfl
 have h2 : (tokV l v (v.length - 1)).kind = 0 := of_decide_eq_true h2
 refine ⟨.lit (.int .i64 (q : Nat)), ⟨ix.1, ix.2, rfl⟩, ?_⟩
 intro it hit
 refine Gh.cellOut (k := 0) (ps := [toks kk l, ints k0 (svL v (sightL l v)), ints k0 (sgL (sightL l v)), .mp it, .lit (.int .i64 0), .lit (.int .i64 (q : Nat)), .lit (.int .i64 0), .lit (.map none)]) rfl rfl (fun ir hir => Gh.ret ⟨k0, it, ir, hit, hir, ?_, rfl⟩)
 rw [hn]
 have he : (endP l v : Int) = (q : Nat) := by
  unfold endP
  rw [if_pos ⟨by omega, h2⟩]; simp [List.getD, g1]
 show _ = St.upd _ _ (some (.row _ _ [[toks kk l, natL k0 (seenL l v), ints k0 (sgL (sightL l v)), .mp it, .lit (.int .i64 0), .lit (.int .i64 (endP l v : Nat)), .lit (.int .i64 0), .lit (.map none)]]))
 rw [he]
 rfl
end Go.Pv

namespace Go.Pv
open Go.Proofs
set_option linter.unusedVariables false
set_option linter.unusedSimpArgs false
set_option maxRecDepth 100000
set_option maxHeartbeats 400000
theorem prefix_beg (t : ByteArray) (x : List UInt8) (a : Nat) (ha : a ≤ t.size) : x.isPrefixOf (t.data.toList.drop a) = beg t a ⟨x.toArray⟩ := by
 have hl : t.data.toList.length = t.size := by simp
 have hx : (⟨x.toArray⟩ : ByteArray).size = x.length := by simp [ByteArray.size]
 have he : (t.extract a (a + x.length)).data.toList = (t.data.toList.drop a).take x.length := by
  rw [ByteArray.data_extract]
  simp
 unfold beg
 rw [hx, Bool.eq_iff_iff, List.isPrefixOf_iff_prefix]
 simp only [Bool.and_eq_true, decide_eq_true_eq]
 constructor
 ·rintro ⟨r, hr⟩
  have h1 : a + x.length ≤ t.size := by
   have := congrArg List.length hr
   simp at this
   omega
  refine ⟨h1, ?_⟩
  apply ByteArray.ext
  apply Array.ext'
  rw [he, ← hr]
  simp
 ·rintro ⟨h1, h2⟩
  have h3 := congrArg (fun y : ByteArray => y.data.toList) h2
  simp only [he] at h3
  refine ⟨(t.data.toList.drop a).drop x.length, ?_⟩
  have : x = (t.data.toList.drop a).take x.length := h3.symm
  conv => lhs; arg 1; rw [this]
  exact List.take_append_drop _ _
theorem index_drop (t : ByteArray) (x : List UInt8) (hx : x ≠ []) : ∀ (m a : Nat), t.size - a = m → Lib.index (t.data.toList.drop a) x = (if scanW (fun j => !beg t j ⟨x.toArray⟩) t.size a < t.size then ((scanW (fun j => !beg t j ⟨x.toArray⟩) t.size a - a : Nat) : Int) else -1)
 | 0, a, hm => by
  have hl : t.data.toList.length = t.size := by simp
  rw [List.drop_eq_nil_of_le (by omega), scanW_end (by omega), if_neg (by omega)]
  unfold Lib.index
  cases x with
  | nil => exact absurd rfl hx
  | cons => rfl
 | m + 1, a, hm => by
  have hl : t.data.toList.length = t.size := by simp
  have ha : a < t.data.toList.length := by omega
  have ih := index_drop t x hx m (a + 1) (by omega)
  have hp := prefix_beg t x a (by omega)
  rw [List.drop_eq_getElem_cons ha] at hp ⊢
  rw [Lib.index, ih, hp]
  by_cases hc : beg t a ⟨x.toArray⟩ = true
  ·rw [scanW_stop (i := a) (by simp [hc]), if_pos hc, if_pos (by omega), Nat.sub_self]
   rfl
  ·rw [scanW_step (i := a) (by omega) (by simp [hc])]
   have hge := scanW_ge (fun j => !beg t j ⟨x.toArray⟩) t.size (a + 1)
   generalize scanW (fun j => !beg t j ⟨x.toArray⟩) t.size (a + 1) = k at *
   rw [if_neg hc]
   by_cases hk : k < t.size
   ·simp only [hk, if_true]
    have h1 : ¬ ((k - (a + 1) : Nat) : Int) = -1 := by omega
    simp [h1]
    omega
   ·simp [hk]
theorem index_rest (t : ByteArray) (x : List UInt8) (hx : x ≠ []) (a : Nat) : Lib.index (t.extract a t.size).data.toList x = (if scanW (fun j => !beg t j ⟨x.toArray⟩) t.size a < t.size then ((scanW (fun j => !beg t j ⟨x.toArray⟩) t.size a - a : Nat) : Int) else -1) := by
 rw [ext_list]; exact index_drop t x hx _ a rfl
theorem scanW_congr {p q : Nat → Bool} {n : Nat} : ∀ (m i : Nat), n - i = m → (∀ j, i ≤ j → j < n → p j = q j) → scanW p n i = scanW q n i
 | 0, i, hm, h => by rw [scanW_end (by omega), scanW_end (by omega)]
 | m + 1, i, hm, h => by
  have h1 := h i (Nat.le_refl _) (by omega)
  by_cases hp : p i = true
  ·rw [scanW_step (p := p) (i := i) (by omega) hp, scanW_step (p := q) (i := i) (by omega) (by rw [← h1]; exact hp)]
   exact scanW_congr m (i + 1) (by omega) (fun j hj hn => h j (by omega) hn)
  ·rw [scanW_stop (p := p) (i := i) (by simpa using hp), scanW_stop (p := q) (i := i) (by rw [← h1]; simpa using hp)]
theorem bt_ext (t : ByteArray) (e : Nat) (he : e ≤ t.size) (j : Nat) (hj : j < e) : bt (t.extract 0 e) j = bt t j := by
 have h1 : j < (t.extract 0 e).size := by simp; omega
 rw [← bt_get _ j h1, ← bt_get t j (by omega)]
 simp [ByteArray.getElem_eq_getElem_data]
theorem nl_ext (t : ByteArray) (a e : Nat) (hae : a ≤ e) (he : e ≤ t.size) : decide (0 ≤ Lib.indexByte (t.extract a e).data.toList 10) = hasNL t a e := by
 have h1 : t.extract a e = (t.extract 0 e).extract a (t.extract 0 e).size := by
  rw [ByteArray.extract_extract]
  simp
  congr 1 <;> omega
 have hs : (t.extract 0 e).size = e := by simp; omega
 rw [h1, idxB_rest, hs, show (((10 : UInt8).toNat : Nat) : Int) = 10 from rfl]
 rw [scanW_congr (q := fun j => decide (bt t j ≠ 10)) (e - a) a rfl (fun j h2 h3 => by rw [bt_ext t e he j h3])]
 unfold hasNL
 generalize scanW (fun j => decide (bt t j ≠ 10)) e a = k
 by_cases h : k < e
 ·rw [if_pos h]
  simp [h]
 ·rw [if_neg h]
  simp [h]
theorem beg_byte {t : ByteArray} {a : Nat} {b : UInt8} {x : List UInt8} (h : beg t a ⟨(b :: x).toArray⟩ = true) : bt t a = (b.toNat : Int) := by
 have ha : a ≤ t.size := by have := beg_le h; omega
 rw [← prefix_beg t _ a ha, List.isPrefixOf_iff_prefix] at h
 obtain ⟨r, hr⟩ := h
 have hl : t.data.toList.length = t.size := by simp
 have hlt : a < t.data.toList.length := by
  have := congrArg List.length hr
  simp at this
  omega
 rw [List.drop_eq_getElem_cons hlt] at hr
 simp at hr
 rw [← bt_list t a hlt]
 have h1 := hr.1
 simp at h1 ⊢
 rw [← h1]
section
variable {t : ByteArray} {a : Nat} {M S : PV} {c : Bool} {s : St} {p : Nat}
def isC1 (t : ByteArray) (a : Nat) : Bool := beg t a ⟨#[47, 47]⟩
def isC2 (t : ByteArray) (a : Nat) : Bool := beg t a ⟨#[47, 42]⟩
theorem comment_c (hv : Vars s) (hb : s p = some (scB t a M S c)) (ht : t.size ≤ 1000000) (ha : a ≤ t.size) : PCalls Tryz.prog 172 [.pt p 0 0] s (fun r s' => r = .ret (.lit (.bool (isC1 t a || isC2 t a))) ∧
  s' = s.upd p (some (scB t (cmtEnd t a) M S (if isC1 t a then c else if isC2 t a then c || hasNL t a (cmtEnd t a) else c)))) := by
 refine PCalls.of Tryz.func172 rfl (by rfl) (by simp [Tryz.ntmps172]) ?_
 refine PW.cutR fun R hR hC => ?_
 simp [Tryz.ntmps172]
 refine hR _ _ ?_
 clear hR hC R
 refine PW.cutR fun R hR hC => ?_
 simp
 refine (rest_c hb ht ha).mono ?_
 rintro _ s1 ⟨hs1, rfl⟩
 rw [hs1]
 clear hs1 s1
 have husz : (t.extract a t.size).size = t.size - a := by simp
 simp
 refine hR _ _ ?_
 clear hR hC R
 refine PW.cutR fun R hR hC => ?_
 simp
 refine (prefix_c _ _ _).mono ?_
 rintro _ s1 ⟨hs1, rfl⟩
 rw [hs1]
 clear hs1 s1
 rw [prefB_rest t a _ ha]
 by_cases h1 : beg t a ⟨#[47, 47]⟩ = true
 ·have hE : cmtEnd t a = scanW (fun j => decide (bt t j ≠ 10)) t.size a := by unfold cmtEnd; rw [if_pos h1]
  have hge := scanW_ge (fun j => decide (bt t j ≠ 10)) t.size a
  have hle := scanW_le (fun j => decide (bt t j ≠ 10)) ha
  rw [hE]
  simp [h1, isC1]
  refine (idxByte_c _ 10 _).mono ?_
  rintro _ s1 ⟨hs1, rfl⟩
  rw [hs1]
  clear hs1 s1
  rw [show (10 : Int).toNat.toUInt8 = 10 from rfl, idxB_rest, show (((10 : UInt8).toNat : Nat) : Int) = 10 from rfl]
  generalize scanW (fun j => decide (bt t j ≠ 10)) t.size a = J at *
  by_cases hJ : J < t.size
  ·rw [if_pos hJ]
   have hn : ¬ ((J - a : Nat) : Int) < 0 := by omega
   have w1 : IntKind.i64.wrap ((a : Int) + ((J - a : Nat) : Int)) = (J : Int) := by rw [wrap_i64 (by omega) (by omega)]; omega
   simp [hn, hb, w1, h1]
  ·rw [if_neg hJ]
   have hJ2 : J = t.size := by omega
   subst hJ2
   have w1 : IntKind.i64.wrap ((a : Int) + ((t.size - a : Nat) : Int)) = (t.size : Int) := by rw [wrap_i64 (by omega) (by omega)]; omega
   simp [hb, husz, w1, h1]
 ·simp [h1, isC1]
  refine (prefix_c _ _ _).mono ?_
  rintro _ s1 ⟨hs1, rfl⟩
  rw [hs1]
  clear hs1 s1
  rw [prefB_rest t a _ ha]
  by_cases h2 : beg t a ⟨#[47, 42]⟩ = true
  ·have hsz := beg_le h2
   have h22 : (⟨#[47, 42]⟩ : ByteArray).size = 2 := rfl
   rw [h22] at hsz
   have hE : cmtEnd t a = (if scanW (fun j => !beg t j ⟨#[42, 47]⟩) t.size (a + 2) < t.size then scanW (fun j => !beg t j ⟨#[42, 47]⟩) t.size (a + 2) + 2 else t.size) := by unfold cmtEnd; rw [if_neg h1, if_pos h2]
   have hle := cmtEnd_le (t := t) (i := a) ha
   have hu1 : (t.extract a t.size).extract 2 (t.size - a) = t.extract (a + 2) t.size := by
    rw [ByteArray.extract_extract]; congr 1; omega
   have h2s : 2 ≤ t.size - a := by omega
   simp [h1, h2, husz, h2s]
   rw [hu1]
   refine (index_c (t.extract (a + 2) t.size) ⟨#[42, 47]⟩ (by simp; omega) _ hv).mono ?_
   rintro _ s1 ⟨hs1, rfl⟩
   rw [hs1]
   clear hs1 s1
   rw [show (⟨#[42, 47]⟩ : ByteArray).data.toList = [42, 47] from rfl, index_rest t [42, 47] (by simp), show (⟨[42, 47].toArray⟩ : ByteArray) = ⟨#[42, 47]⟩ from rfl]
   have hge := scanW_ge (fun j => !beg t j ⟨#[42, 47]⟩) t.size (a + 2)
   have hend : ∀ E : Nat, E = cmtEnd t a → a ≤ E → (t.extract a t.size).extract 0 (E - a) = t.extract a E := fun E hE1 hE2 => by
    rw [ByteArray.extract_extract]; congr 1 <;> omega
   generalize scanW (fun j => !beg t j ⟨#[42, 47]⟩) t.size (a + 2) = J at *
   have fin : ∀ (E : Nat), E = cmtEnd t a → a ≤ E → True := fun _ _ _ => trivial
   by_cases hJ : J < t.size
   ·rw [if_pos hJ] at hE ⊢
    rw [hE] at hle
    obtain ⟨E, hEE⟩ : ∃ E, E = J + 2 := ⟨_, rfl⟩
    rw [← hEE] at hE hle
    have w1 : IntKind.i64.wrap (((J - (a + 2) : Nat) : Int) + 4) = ((E - a : Nat) : Int) := by rw [wrap_i64 (by omega) (by omega)]; omega
    have hn : ¬ ((E - a : Nat) : Int) < 4 := by omega
    have hn' : ¬ (E - a) < 4 := by omega
    have hx := hend E hE.symm (by omega)
    have hlez : E - a ≤ t.size - a := by omega
    have w2 : IntKind.i64.wrap ((a : Int) + ((E - a : Nat) : Int)) = (E : Int) := by rw [wrap_i64 (by omega) (by omega)]; omega
    rw [hE]
    cases c with
    | true =>
     simp [hb, w1, hn, hn', h1, h2, isC1, isC2, w2]
    | false =>
     simp [hb, w1, hn, hn', husz, hlez, hx]
     refine (contains1_c _ 10 _).mono ?_
     rintro _ s1 ⟨hs1, rfl⟩
     rw [hs1]
     clear hs1 s1
     rw [nl_ext t a E (by omega) hle]
     simp [hb, w1, hn, hn', h1, h2, isC1, isC2, w2]
   ·rw [if_neg hJ] at hE ⊢
    have hx := hend t.size hE.symm ha
    have w1 : IntKind.i64.wrap 3 = 3 := by decide
    have w2 : IntKind.i64.wrap ((a : Int) + ((t.size - a : Nat) : Int)) = (t.size : Int) := by rw [wrap_i64 (by omega) (by omega)]; omega
    rw [hE]
    cases c with
    | true =>
     simp [hb, w1, h1, h2, isC1, isC2, w2, husz]
    | false =>
     simp [hb, w1, husz, hx]
     refine (contains1_c _ 10 _).mono ?_
     rintro _ s1 ⟨hs1, rfl⟩
     rw [hs1]
     clear hs1 s1
     rw [nl_ext t a t.size ha (Nat.le_refl _)]
     simp [hb, w1, h1, h2, isC1, isC2, w2, husz]
  ·have hE : cmtEnd t a = a := by unfold cmtEnd; rw [if_neg h1, if_neg h2]
   rw [hE] at hR
   simp [h1, h2]
   refine hR _ _ ?_
   refine pwC_sound _ _ _ _ ?_
   simp [h1, h2, isC1, isC2, St.upd_self hb]
end
end Go.Pv

namespace Go.Pv
open Go.Proofs
set_option linter.unusedVariables false
set_option linter.unusedSimpArgs false
set_option maxRecDepth 100000
set_option maxHeartbeats 400000
theorem scanW_cut {p : Nat → Bool} {n : Nat} : ∀ (m i : Nat), n - i = m → scanW p (scanW p n i) i = scanW p n i
 | 0, i, hm => by rw [scanW_end (n := n) (by omega)]; exact scanW_end (Nat.le_refl _)
 | m + 1, i, hm => by
  by_cases hp : p i = true
  ·rw [scanW_step (n := n) (i := i) (by omega) hp]
   have hge := scanW_ge p n (i + 1)
   rw [scanW_step (i := i) (by omega) hp]
   exact scanW_cut m (i + 1) (by omega)
  ·rw [scanW_stop (n := n) (i := i) (by simpa using hp)]
   exact scanW_stop (by simpa using hp)
theorem c1_facts {t : ByteArray} {i : Nat} (c : Bool) (h : isC1 t i = true) : i < pieceEnd t i ∧ pieceEnd t i = cmtEnd t i ∧ clearB t i (pieceEnd t i) c = c := by
 have hb : bt t i = 47 := beg_byte h
 have hle := beg_le h
 have h2 : (⟨#[47, 47]⟩ : ByteArray).size = 2 := rfl
 unfold isC1 at h
 have hE : cmtEnd t i = scanW (fun j => decide (bt t j ≠ 10)) t.size i := by unfold cmtEnd; rw [if_pos h]
 have hP : pieceEnd t i = cmtEnd t i := by simp [pieceEnd, isB, hb]
 have hgt : i < cmtEnd t i := by
  rw [hE, scanW_step (by omega) (by simp [hb])]
  exact scanW_ge _ _ (i + 1)
 refine ⟨by rw [hP]; exact hgt, hP, ?_⟩
 have hN : hasNL t i (cmtEnd t i) = false := by
  unfold hasNL
  rw [hE, scanW_cut _ i rfl]
  simp
 rw [hP]
 simp [clearB, hb, hN]
theorem c2_facts {t : ByteArray} {i : Nat} (c : Bool) (h1 : ¬ isC1 t i = true) (h : isC2 t i = true) : i < pieceEnd t i ∧ pieceEnd t i = cmtEnd t i ∧ clearB t i (pieceEnd t i) c = (c || hasNL t i (cmtEnd t i)) := by
 have hb : bt t i = 47 := beg_byte h
 have hle := beg_le h
 have h2 : (⟨#[47, 42]⟩ : ByteArray).size = 2 := rfl
 have hP : pieceEnd t i = cmtEnd t i := by simp [pieceEnd, isB, hb]
 unfold isC1 at h1
 unfold isC2 at h
 have hgt : i < cmtEnd t i := by
  unfold cmtEnd
  rw [if_neg h1, if_pos h]
  have hge := scanW_ge (fun j => !beg t j ⟨#[42, 47]⟩) t.size (i + 2)
  simp only
  split <;> omega
 refine ⟨by rw [hP]; exact hgt, hP, ?_⟩
 rw [hP]
 cases hN : hasNL t i (cmtEnd t i) <;> simp [clearB, hb, hN]
theorem c0_facts {t : ByteArray} {i : Nat} (h1 : ¬ isC1 t i = true) (h2 : ¬ isC2 t i = true) : cmtEnd t i = i := by
 unfold isC1 at h1
 unfold isC2 at h2
 unfold cmtEnd
 rw [if_neg h1, if_neg h2]
theorem nl_here {t : ByteArray} {i j e : Nat} (hij : i ≤ j) (hje : j < e) (h : bt t j = 10) : hasNL t i e = true := by
 unfold hasNL
 have hsub : ∀ (m i : Nat), j - i = m → i ≤ j → scanW (fun k => decide (bt t k ≠ 10)) e i ≤ j := by
  intro m
  induction m with
  | zero =>
   intro i hm hi
   have : i = j := by omega
   subst this
   rw [scanW_stop (by simp [h])]
   exact Nat.le_refl _
  | succ m ih =>
   intro i hm hi
   by_cases hb : bt t i = 10
   ·rw [scanW_stop (by simp [hb])]; exact hi
   ·rw [scanW_step (by omega) (by simp [hb])]
    exact ih (i + 1) (by omega) (by omega)
 have := hsub _ i rfl hij
 simp only [decide_eq_true_eq]
 omega
section
variable {t : ByteArray} {a : Nat} {M S : PV} {c : Bool} {s : St} {p : Nat}
def BefI (t : ByteArray) (a : Nat) (M S : PV) (c : Bool) (s : St) (p n : Nat) (e : Env) (s' : St) : Prop := ∃ (i : Nat) (d : Bool), i + n = t.size ∧ a ≤ i ∧ e 0 = .pt p 0 0 ∧ e 3 = .lit (.int .i64 a) ∧ s' = s.upd p (some (scB t i M S d)) ∧ bef t i d = bef t a c
theorem before_c (hv : Vars s) (hb : s p = some (scB t a M S c)) (ht : t.size ≤ 1000000) (ha : a ≤ t.size) : PCalls Tryz.prog 109 [.pt p 0 0] s (fun r s' => r = .ret (.lit (.string (t.extract a (bef t a c).1))) ∧
  s' = s.upd p (some (scB t (bef t a c).1 M S (bef t a c).2))) := by
 refine PCalls.of Tryz.func109 rfl (by rfl) (by simp [Tryz.ntmps109]) ?_
 refine PW.cutR fun R hR hC => ?_
 simp [Tryz.ntmps109]
 refine hR _ _ ?_
 clear hR hC R
 refine PW.cutR fun R hR hC => ?_
 simp [hb]
 refine hR _ _ ?_
 clear hR hC R
 refine PW.cutR fun R hR hC => ?_
 simp
 obtain ⟨hp0, hp2⟩ := hv.ne hb
 refine PW.loop (BefI t a M S c s p) (t.size - a) ⟨a, c, by omega, by omega, by simp, by simp, (St.upd_self hb).symm, rfl⟩ ?_
 rintro n e s' ⟨i, d, hn, hai, e0, e3, rfl, hbef⟩
 have hvi : Vars (s.upd p (some (scB t i M S d))) := hv.upd hp0 hp2
 have hbi : (s.upd p (some (scB t i M S d))) p = some (scB t i M S d) := St.upd_same _ _ _
 refine pwC_sound _ _ _ _ ?_
 simp
 refine PW.drawn (fun i => 0) [0, 1, 2, 3, 4, 5, 6, 7, 8, 9] mixed_ (fun _ _ _ _ h => h) (by kernel_rfl) ?_
 by_cases hi : i < t.size
 ·have hi' : (i : Int) < t.size := by omega
  simp [e0, hi, hi']
  refine PW.drawn (fun i => 0) [0, 1, 2, 3, 4, 5, 6, 7, 8, 9] mixed_ (fun _ _ _ _ h => h) (by kernel_rfl) ?_
  have w1 : IntKind.i64.wrap ((i : Int) + 1) = ((i + 1 : Nat) : Int) := by rw [wrap_i64 (by omega) (by omega)]; omega
  have w2 : IntKind.i64.wrap ((i : Int) + 2) = ((i + 2 : Nat) : Int) := by rw [wrap_i64 (by omega) (by omega)]; omega
  have w3 : IntKind.i64.wrap ((i : Int) + 3) = ((i + 3 : Nat) : Int) := by rw [wrap_i64 (by omega) (by omega)]; omega
  have step : ∀ (e' : Nat) (d' : Bool), pieceEnd t i = e' → clearB t i e' d = d' → i < e' → e' ≤ t.size ∧ bef t e' d' = bef t a c := fun e' d' h1 h2 h3 => by
   have h4 := pieceEnd_le (t := t) (i := i) (by omega)
   rw [h1] at h4
   refine ⟨h4.2, ?_⟩
   rw [← hbef, bef_step (t := t) (i := i) (c := d) (by omega) (by rw [h1]; exact h3), h1, h2]
  by_cases q1 : bt t i = 10
  ·obtain ⟨s1, s2⟩ := step (i + 1) true (by simp [pieceEnd, isB, q1]) (by simp [clearB, q1, nl_here (Nat.le_refl i) (Nat.lt_succ_self i) q1]) (by omega)
   simp [e0, e3, hi, q1, w1]
   exact ⟨n - 1, by omega, i + 1, true, by omega, by omega, by simp [e0], by simp [e3], by first | rfl | simp, s2⟩
  have no10 : hasNL t i (i + 1) = false := by
   unfold hasNL
   rw [scanW_step (by omega) (by simp [q1]), scanW_end (Nat.le_refl _)]
   simp
  by_cases q2 : bt t i = 32
  ·obtain ⟨s1, s2⟩ := step (i + 1) d (by simp [pieceEnd, isB, q2]) (by simp [clearB, q2, no10]) (by omega)
   simp [e0, e3, hi, q2, w1]
   exact ⟨n - 1, by omega, i + 1, d, by omega, by omega, by simp [e0], by simp [e3], by first | rfl | simp, s2⟩
  by_cases q3 : bt t i = 9
  ·obtain ⟨s1, s2⟩ := step (i + 1) d (by simp [pieceEnd, isB, q3]) (by simp [clearB, q3, no10]) (by omega)
   simp [e0, e3, hi, q3, w1]
   exact ⟨n - 1, by omega, i + 1, d, by omega, by omega, by simp [e0], by simp [e3], by first | rfl | simp, s2⟩
  by_cases q4 : bt t i = 11
  ·obtain ⟨s1, s2⟩ := step (i + 1) false (by simp [pieceEnd, isB, q4]) (by simp [clearB, q4]) (by omega)
   simp [e0, e3, hi, q4, w1]
   exact ⟨n - 1, by omega, i + 1, false, by omega, by omega, by simp [e0], by simp [e3], by first | rfl | simp, s2⟩
  by_cases q5 : bt t i = 12
  ·obtain ⟨s1, s2⟩ := step (i + 1) false (by simp [pieceEnd, isB, q5]) (by simp [clearB, q5]) (by omega)
   simp [e0, e3, hi, q5, w1]
   exact ⟨n - 1, by omega, i + 1, false, by omega, by omega, by simp [e0], by simp [e3], by first | rfl | simp, s2⟩
  by_cases q6 : bt t i = 13
  ·obtain ⟨s1, s2⟩ := step (i + 1) false (by simp [pieceEnd, isB, q6]) (by simp [clearB, q6]) (by omega)
   simp [e0, e3, hi, q6, w1]
   exact ⟨n - 1, by omega, i + 1, false, by omega, by omega, by simp [e0], by simp [e3], by first | rfl | simp, s2⟩
  have hB : isB (bt t i) = false := by simp [isB, q1, q2, q3, q4, q5, q6]
  have nx1 := next_c hbi 1 ht (by omega) (by omega)
  have nx2 := next_c hbi 2 ht (by omega) (by omega)
  by_cases q7 : bt t i = 92
  ·simp [e0, e3, hi, q7]
   refine nx1.mono ?_
   rintro _ s1 ⟨hs1, rfl⟩
   rw [hs1]
   clear hs1 s1
   by_cases d1 : bt t (i + 1) = 10
   ·have hlt : i + 1 < t.size := bt_lt (by omega)
    obtain ⟨s1, s2⟩ := step (i + 2) true (by simp [pieceEnd, q7, d1, isB]) (by simp [clearB, q7, nl_here (t := t) (i := i) (j := i + 1) (e := i + 2) (by omega) (by omega) d1]) (by omega)
    simp [e0, e3, d1, w2]
    exact ⟨n - 2, by omega, i + 2, true, by omega, by omega, by simp [e0], by simp [e3], by first | rfl | simp, s2⟩
   ·simp [e0, e3, d1]
    refine nx1.mono ?_
    rintro _ s1 ⟨hs1, rfl⟩
    rw [hs1]
    clear hs1 s1
    by_cases d2 : bt t (i + 1) = 13
    ·simp [e0, e3, d2]
     refine nx2.mono ?_
     rintro _ s1 ⟨hs1, rfl⟩
     rw [hs1]
     clear hs1 s1
     by_cases d3 : bt t (i + 2) = 10
     ·have hlt : i + 2 < t.size := bt_lt (by omega)
      obtain ⟨s1, s2⟩ := step (i + 3) true (by simp [pieceEnd, q7, d2, d3, isB]) (by simp [clearB, q7, nl_here (t := t) (i := i) (j := i + 2) (e := i + 3) (by omega) (by omega) d3]) (by omega)
      simp [e0, e3, d3, w3]
      exact ⟨n - 3, by omega, i + 3, true, by omega, by omega, by simp [e0], by simp [e3], by first | rfl | simp, s2⟩
     ·have hst : bef t i d = (i, d) := bef_stop (by simp [pieceEnd, q7, d2, d3, isB])
      have f1 : isC1 t i = false := by
       cases h : isC1 t i with
       | false => rfl
       | true => have := beg_byte h; rw [q7] at this; cases this
      have f2 : isC2 t i = false := by
       cases h : isC2 t i with
       | false => rfl
       | true => have := beg_byte h; rw [q7] at this; cases this
      have f0 := c0_facts (by rw [f1]; simp) (by rw [f2]; simp)
      rw [hst] at hbef
      simp [e0, e3, d3]
      refine (comment_c hvi hbi ht (by omega)).mono ?_
      rintro _ _ ⟨rfl, rfl⟩
      simp [f1, f2, f0]
      refine PW.drawn (fun i => 0) [0, 1, 2, 3, 4, 5, 6, 7, 8, 9, 10] mixed_ (fun _ _ _ _ h => h) (by kernel_rfl) ?_
      have hil : i ≤ t.size := by omega
      simp [e0, e3, hai, hil, ← hbef]
    ·have hst : bef t i d = (i, d) := bef_stop (by simp [pieceEnd, q7, d1, d2, isB])
     have f1 : isC1 t i = false := by
      cases h : isC1 t i with
      | false => rfl
      | true => have := beg_byte h; rw [q7] at this; cases this
     have f2 : isC2 t i = false := by
      cases h : isC2 t i with
      | false => rfl
      | true => have := beg_byte h; rw [q7] at this; cases this
     have f0 := c0_facts (by rw [f1]; simp) (by rw [f2]; simp)
     rw [hst] at hbef
     simp [e0, e3, d2]
     refine (comment_c hvi hbi ht (by omega)).mono ?_
     rintro _ _ ⟨rfl, rfl⟩
     simp [f1, f2, f0]
     refine PW.drawn (fun i => 0) [0, 1, 2, 3, 4, 5, 6, 7, 8, 9, 10] mixed_ (fun _ _ _ _ h => h) (by kernel_rfl) ?_
     have hil : i ≤ t.size := by omega
     simp [e0, e3, hai, hil, ← hbef]
  ·have hP : pieceEnd t i = cmtEnd t i := by simp [pieceEnd, hB, q7]
   simp [e0, e3, hi, q1, q2, q3, q4, q5, q6, q7]
   refine (comment_c hvi hbi ht (by omega)).mono ?_
   rintro _ _ ⟨rfl, rfl⟩
   by_cases f1 : isC1 t i = true
   ·obtain ⟨g1, g2, g3⟩ := c1_facts d f1
    obtain ⟨s1, s2⟩ := step (cmtEnd t i) d hP (by rw [← hP]; exact g3) (by rw [← hP]; exact g1)
    simp [e0, e3, f1]
    exact ⟨n - (cmtEnd t i - i), by omega, cmtEnd t i, d, by omega, by omega, by simp [e0], by simp [e3], by first | rfl | simp, s2⟩
   by_cases f2 : isC2 t i = true
   ·obtain ⟨g1, g2, g3⟩ := c2_facts d f1 f2
    obtain ⟨s1, s2⟩ := step (cmtEnd t i) (d || hasNL t i (cmtEnd t i)) hP (by rw [← hP]; rw [hP] at g3 ⊢; exact g3) (by rw [← hP]; exact g1)
    simp [e0, e3, f1, f2]
    exact ⟨n - (cmtEnd t i - i), by omega, cmtEnd t i, _, by omega, by omega, by simp [e0], by simp [e3], by first | rfl | simp, s2⟩
   have f0 := c0_facts f1 f2
   have hst : bef t i d = (i, d) := bef_stop (by rw [hP, f0]; omega)
   rw [hst] at hbef
   simp [f1, f2, f0]
   refine PW.drawn (fun i => 0) [0, 1, 2, 3, 4, 5, 6, 7, 8, 9, 10] mixed_ (fun _ _ _ _ h => h) (by kernel_rfl) ?_
   have hil : i ≤ t.size := by omega
   simp [e0, e3, hai, hil, ← hbef]
 ·have hit : i = t.size := by omega
  subst hit
  have hst : bef t t.size d = (t.size, d) := bef_stop (by have := pieceEnd_le (t := t) (i := t.size) (Nat.le_refl _); omega)
  rw [hst] at hbef
  simp [e0, hi]
  refine hR _ _ ?_
  refine pwC_sound _ _ _ _ ?_
  simp [e0, e3, ha, ← hbef]
end
end Go.Pv

namespace Go.Pv
open Go.Proofs
set_option linter.unusedVariables false
set_option linter.unusedSimpArgs false
set_option maxRecDepth 100000
set_option maxHeartbeats 1000000
section
variable {t : ByteArray} {a : Nat} {M S : PV} {c : Bool} {s : St} {p : Nat}
def numLen (t : ByteArray) (a : Nat) : Nat := if isD (bt t a) = true ∨ (bt t a = 46 ∧ isD (bt t (a + 1)) = true) then numEnd t a - a else 0
set_option maxHeartbeats 400000
theorem number_c (hb : s p = some (scB t a M S c)) (ht : t.size ≤ 1000000) (ha : a < t.size) : PCalls Tryz.prog 112 [.pt p 0 0] s (fun r s' => s' = s ∧ r = .ret (.lit (.int .i64 (numLen t a : Nat)))) := by
  refine PCalls.of Tryz.func112 rfl (by rfl) (by simp [Tryz.ntmps112]) ?_
  refine pwC_sound _ _ _ _ ?_
  refine pwC_cut fun K hK => ?_
  simp [Tryz.ntmps112]
  refine hK _ _ ?_
  clear hK K
  refine pwC_cut fun K hK => ?_
  have fin : ∀ e : Env, e 0 = .pt p 0 0 → numLen t a = numEnd t a - a → K e s := by
    intro e e0 hN
    refine hK _ _ ?_
    clear hK K
    rw [hN]
    refine pwC_cut fun K hK => ?_
    simp [e0]
    refine hK _ _ ?_
    clear hK K
    simp
    refine PW.loop (fun n e s' => ∃ j : Nat, 1 ≤ j ∧ a + j + n = t.size ∧ e 0 = .pt p 0 0 ∧ e 3 = .lit (.int .i64 j) ∧ scanW (numP t) t.size (a + j) = numEnd t a ∧ s' = s) (t.size - (a + 1)) ⟨1, by omega, by omega, by simp [e0], by simp, rfl, rfl⟩ ?_
    clear e0 e
    rintro n e s' ⟨j, hj1, hj, e0, e3, hs, rfl⟩
    refine pwC_sound _ _ _ _ ?_
    have w1 : IntKind.i64.wrap ((j : Int) + 1) = ((j + 1 : Nat) : Int) := by rw [wrap_i64 (by omega) (by omega)]; omega
    have w2 : IntKind.i64.wrap ((j : Int) - 1) = ((j - 1 : Nat) : Int) := by rw [wrap_i64 (by omega) (by omega)]; omega
    simp [e0, e3]
    refine (next_c hb j ht (by omega) (by omega)).mono ?_
    rintro _ s1 ⟨hs1, rfl⟩
    rw [hs1]
    clear hs1 s1
    simp [e0, e3, w2]
    refine (next_c hb (j - 1) ht (by omega) (by omega)).mono ?_
    rintro _ s1 ⟨hs1, rfl⟩
    rw [hs1]
    clear hs1 s1
    simp [e0, e3, w2]
    refine (pletter_c _ _).mono ?_
    rintro _ s1 ⟨hs1, rfl⟩
    rw [hs1]
    clear hs1 s1
    have hpj : a + j - 1 = a + (j - 1) := by omega
    have hgo : numP t (a + j) = true → a + j < t.size := fun h => bt_lt (by
      intro h0
      have hl0 : isL 0 = false := by decide
      have hd0 : isD 0 = false := by decide
      simp [numP, h0, hl0, hd0] at h)
    have hnx : numP t (a + j) = true → scanW (numP t) t.size (a + (j + 1)) = numEnd t a := fun h => by
      rw [scanW_step (hgo h) h] at hs; exact hs
    have hno : numP t (a + j) = false → numEnd t a - a = j := fun h => by rw [scanW_stop h] at hs; omega
    have hX : numP t (a + j) = (isL (bt t (a + j)) || isD (bt t (a + j)) || decide (bt t (a + j) = 46) || ((decide (bt t (a + j) = 43) || decide (bt t (a + j) = 45)) && (decide (bt t (a + (j - 1)) = 101) || decide (bt t (a + (j - 1)) = 69)))) := by unfold numP; rw [hpj]
    rw [hX] at hnx hno hgo
    clear hX
    by_cases hl : isL (bt t (a + j)) = true
    · simp [e0, e3, hl, w1]
      have := hgo (by simp [hl])
      exact ⟨n - 1, by omega, j + 1, by omega, by omega, by omega, hnx (by simp [hl])⟩
    · simp [e0, e3, hl, w1]
      refine (pdigit_c _ _).mono ?_
      rintro _ s1 ⟨hs1, rfl⟩
      rw [hs1]
      clear hs1 s1
      by_cases hd : isD (bt t (a + j)) = true
      · simp [e0, e3, hl, hd, w1]
        have := hgo (by simp [hd])
        exact ⟨n - 1, by omega, j + 1, by omega, by omega, by omega, hnx (by simp [hd])⟩
      · by_cases h46 : bt t (a + j) = 46
        · rw [h46] at hl hd
          simp [e0, e3, hl, hd, h46, w1]
          have := hgo (by simp [h46])
          exact ⟨n - 1, by omega, j + 1, by omega, by omega, by omega, hnx (by simp [h46])⟩
        · by_cases a1 : bt t (a + j) = 43 <;> by_cases a2 : bt t (a + j) = 45 <;> by_cases a3 : bt t (a + (j - 1)) = 101 <;> by_cases a4 : bt t (a + (j - 1)) = 69 <;> (try (exfalso; omega)) <;>
          (simp [a1, a2] at hl hd
           simp [e0, e3, hl, hd, h46, w1, a1, a2, a3, a4]
           first
           | (have := hgo (by simp [hl, hd, h46, a1, a2, a3, a4]); exact ⟨n - 1, by omega, j + 1, by omega, by omega, by omega, hnx (by simp [hl, hd, h46, a1, a2, a3, a4])⟩)
           | (rw [hno (by simp [hl, hd, h46, a1, a2, a3, a4])]; exact ⟨_, sub_refl, rfl, rfl⟩)
           | (rw [hno (by simp [hl, hd, h46, a1, a2, a3, a4])]; done))
  clear hK
  simp
  refine (next_c hb 0 ht (by omega) (by omega)).mono ?_
  rintro _ s1 ⟨hs1, rfl⟩
  rw [hs1]
  clear hs1 s1
  simp
  refine (pdigit_c _ _).mono ?_
  rintro _ s1 ⟨hs1, rfl⟩
  rw [hs1]
  clear hs1 s1
  by_cases hd : isD (bt t a) = true
  · simp [hd]
    exact fin _ (by simp) (by simp [numLen, hd])
  · simp [hd]
    refine (next_c hb 0 ht (by omega) (by omega)).mono ?_
    rintro _ s1 ⟨hs1, rfl⟩
    rw [hs1]
    clear hs1 s1
    by_cases h46 : bt t a = 46
    · rw [h46] at hd
      simp [hd, h46]
      refine (next_c hb 1 ht (by omega) (by omega)).mono ?_
      rintro _ s1 ⟨hs1, rfl⟩
      rw [hs1]
      clear hs1 s1
      simp [hd, h46]
      refine (pdigit_c _ _).mono ?_
      rintro _ s1 ⟨hs1, rfl⟩
      rw [hs1]
      clear hs1 s1
      by_cases hd1 : isD (bt t (a + 1)) = true
      · simp [hd, h46, hd1]
        exact fin _ (by simp) (by simp [numLen, h46, hd1])
      · simp [hd, h46, hd1, numLen]
    · simp [hd, h46, numLen]
end
end Go.Pv

namespace Go.Pv
open Go.Proofs
set_option linter.unusedVariables false
set_option linter.unusedSimpArgs false
set_option maxRecDepth 100000
set_option maxHeartbeats 400000
section
variable {t : ByteArray} {a : Nat} {M S : PV} {c : Bool} {s : St} {p : Nat}
def quotLen (t : ByteArray) (a : Nat) (q : Int) : Nat := if bt t a = q then (match quotE t q (a + 1) with | some e => e - a | none => 0) else 0
theorem pquoted_c (hb : s p = some (scB t a M S c)) (q : Int) (hq : q ≠ 10) (ht : t.size ≤ 1000000) (ha : a < t.size) : PCalls Tryz.prog 179 [.pt p 0 0, .lit (.int .u8 q)] s (fun r s' => s' = s ∧ r = .ret (.lit (.int .i64 (quotLen t a q : Nat)))) := by
 refine PCalls.of Tryz.func179 rfl (by rfl) (by simp [Tryz.ntmps179]) ?_
 refine pwC_sound _ _ _ _ ?_
 refine pwC_cut fun K hK => ?_
 simp [Tryz.ntmps179]
 refine hK _ _ ?_
 clear hK K
 refine pwC_cut fun K hK => ?_
 simp
 refine (next_c hb 0 ht (by omega) (by omega)).mono ?_
 rintro _ s1 ⟨hs1, rfl⟩
 rw [hs1]
 clear hs1 s1
 by_cases hc : bt t a = q
 ·have hN : quotLen t a q = (match quotE t q (a + 1) with | some e => e - a | none => 0) := if_pos hc
  rw [hN] at hK
  simp [hc]
  refine hK _ _ ?_
  clear hK K hN
  refine pwC_cut fun K hK => ?_
  simp
  refine PW.loop (fun n e s' => ∃ j : Nat, 1 ≤ j ∧ a + j + n = t.size + 1 ∧ e 0 = .pt p 0 0 ∧ e 1 = .lit (.int .u8 q) ∧ e 5 = .lit (.int .i64 j) ∧ quotE t q (a + j) = quotE t q (a + 1) ∧ s' = s) (t.size - a) ⟨1, by omega, by omega, by simp, by simp, by simp, rfl, rfl⟩ ?_
  rintro n e s' ⟨j, hj1, hj, e0, e1, e5, hs, rfl⟩
  refine pwC_sound _ _ _ _ ?_
  rw [quotE_eq] at hs
  have w0 : IntKind.i64.wrap ((a : Int) + (j : Int)) = (a : Int) + (j : Int) := wrap_i64 (by omega) (by omega)
  have w1 : IntKind.i64.wrap ((j : Int) + 1) = ((j + 1 : Nat) : Int) := by rw [wrap_i64 (by omega) (by omega)]; omega
  have w2 : IntKind.i64.wrap ((j : Int) + 1 + 1) = ((j + 2 : Nat) : Int) := by rw [wrap_i64 (by omega) (by omega)]; omega
  refine pwC_cut fun K1 hK1 => ?_
  refine pwC_cut fun K2 hK2 => ?_
  simp
  refine PW.drawn (fun i => 0) [0, 1, 2, 3, 4, 5, 6, 7, 8, 9, 10, 11] mixed_ (fun _ _ _ _ h => h) (by kernel_rfl) ?_
  by_cases hlt : a + j < t.size
  ·have hlt' : (a : Int) + (j : Int) < t.size := by omega
   simp [e0, e1, e5, hb, w0, hlt, hlt']
   refine hK2 _ _ ?_
   clear hK2 K2
   rw [if_pos hlt] at hs
   simp
   refine hK1 _ _ ?_
   clear hK1 K1
   refine pwC_cut fun K1 hK1 => ?_
   simp [e0, e5]
   refine (next_c hb j ht (by omega) (by omega)).mono ?_
   rintro _ s1 ⟨hs1, rfl⟩
   rw [hs1]
   clear hs1 s1
   by_cases h1 : bt t (a + j) = q
   ·rw [if_pos h1] at hs
    simp [e0, e1, e5, h1, w1, ← hs]
    exact ⟨_, sub_refl, rfl, by rw [show a + j + 1 - a = j + 1 by omega]; rfl⟩
   ·rw [if_neg h1] at hs
    by_cases h2 : bt t (a + j) = 10
    ·rw [if_pos h2] at hs
     have hq' : ¬ (10 : Int) = q := fun h => hq h.symm
     simp [e0, e1, e5, h2, hq', ← hs]
    ·rw [if_neg h2] at hs
     by_cases h3 : bt t (a + j) = 92
     ·rw [if_pos h3] at hs
      rw [h3] at h1
      simp [e0, e1, e5, h1, h3, w1]
      refine (next_c hb (j + 1) ht (by omega) (by omega)).mono ?_
      rintro _ s1 ⟨hs1, rfl⟩
      rw [hs1]
      clear hs1 s1
      by_cases h4 : bt t (a + (j + 1)) = 10
      ·rw [if_pos (by rw [← h4]; rfl)] at hs
       simp [e0, e1, e5, h1, h3, h4, w1, ← hs]
      ·rw [if_neg (fun h => h4 (by rw [← h]; rfl))] at hs
       simp [e0, e1, e5, h1, h3, h4, w1]
       refine hK1 _ _ ?_
       clear hK1 K1
       simp [e0, e1, e5, w1, w2]
       exact ⟨n - 2, by omega, j + 2, by omega, by omega, by omega, hs⟩
     ·rw [if_neg h3] at hs
      simp [e0, e1, e5, h1, h2, h3, w1]
      refine hK1 _ _ ?_
      clear hK1 K1
      simp [e0, e1, e5, w1]
      exact ⟨n - 1, by omega, j + 1, by omega, by omega, by omega, hs⟩
  ·have hlt' : ¬ (a : Int) + (j : Int) < t.size := by omega
   rw [if_neg hlt] at hs
   simp [e0, e1, e5, hb, w0, hlt, hlt']
   refine hK2 _ _ ?_
   simp
   refine hK _ _ ?_
   simp [← hs]
 ·have hN : quotLen t a q = 0 := if_neg hc
  rw [hN]
  simp [hc]
theorem char_c (hb : s p = some (scB t a M S c)) (ht : t.size ≤ 1000000) (ha : a < t.size) : PCalls Tryz.prog 113 [.pt p 0 0] s (fun r s' => s' = s ∧ r = .ret (.lit (.int .i64 (quotLen t a 39 : Nat)))) := by
 refine PCalls.of Tryz.func113 rfl (by rfl) (by simp [Tryz.ntmps113]) ?_
 refine pwC_sound _ _ _ _ ?_
 simp [Tryz.ntmps113]
 refine (pquoted_c hb 39 (by decide) ht ha).mono ?_
 rintro _ s1 ⟨hs1, rfl⟩
 rw [hs1]
 simp
theorem str_c (hb : s p = some (scB t a M S c)) (ht : t.size ≤ 1000000) (ha : a < t.size) : PCalls Tryz.prog 114 [.pt p 0 0] s (fun r s' => s' = s ∧ r = .ret (.lit (.int .i64 (quotLen t a 34 : Nat)))) := by
 refine PCalls.of Tryz.func114 rfl (by rfl) (by simp [Tryz.ntmps114]) ?_
 refine pwC_sound _ _ _ _ ?_
 simp [Tryz.ntmps114]
 refine (pquoted_c hb 34 (by decide) ht ha).mono ?_
 rintro _ s1 ⟨hs1, rfl⟩
 rw [hs1]
 simp
end
end Go.Pv

namespace Go.Pv
open Go.Proofs
set_option linter.unusedVariables false
set_option linter.unusedSimpArgs false
set_option maxRecDepth 100000
set_option maxHeartbeats 400000
def lens (t : ByteArray) (b : Nat) (d : Bool) : List (Nat × Nat) := [(7, lineLen t b d), (1, if isL (bt t b) then wordEnd t b - b else 0), (3, numLen t b), (4, quotLen t b 39), (5, quotLen t b 34), (6, signLen t b signsL)]
def firstK : List (Nat × Nat) → Nat × Nat
 | [] => (8, 1)
 | (k, m) :: r => if 0 < m then (k, m) else firstK r
theorem beg_bt0 {t : ByteArray} {i : Nat} {x : ByteArray} (h : beg t i x = true) (hx : 0 < x.size) : bt t i = bt x 0 := by
 obtain ⟨⟨l⟩⟩ := x
 cases l with
 | nil => exact absurd hx (by decide)
 | cons b r =>
  rw [beg_byte h]
  rfl
theorem signLen_zero {t : ByteArray} {i : Nat} : ∀ (L : List ByteArray) (n : Nat), (∀ x ∈ L, 0 < x.size ∧ bt x 0 ≠ bt t i) → L.foldl (fun n s => if n < s.size ∧ beg t i s = true then s.size else n) n = n
 | [], n, h => rfl
 | x :: L, n, h => by
  obtain ⟨h1, h2⟩ := h x List.mem_cons_self
  rw [List.foldl_cons, if_neg (fun q => h2 (beg_bt0 q.2 h1).symm)]
  exact signLen_zero L n (fun y hy => h y (List.mem_cons_of_mem _ hy))
theorem signs_first : ∀ x ∈ signsL, 0 < x.size ∧ bt x 0 ≠ 39 ∧ bt x 0 ≠ 34 := by decide
theorem signLen_quote {t : ByteArray} {i : Nat} (h : bt t i = 39 ∨ bt t i = 34) : signLen t i signsL = 0 := by
 refine signLen_zero signsL 0 fun x hx => ?_
 obtain ⟨h1, h2, h3⟩ := signs_first x hx
 refine ⟨h1, ?_⟩
 rcases h with h | h <;> rw [h] <;> assumption
theorem tokE_first {t : ByteArray} {b : Nat} (d : Bool) (hb : b < t.size) : tokE keysL signsL t b d =
  (if (firstK (lens t b d)).1 = 1 ∧ (keysL.any fun k => decide (k = t.extract b (b + (firstK (lens t b d)).2))) = true then 2 else (firstK (lens t b d)).1, b + (firstK (lens t b d)).2) := by
 unfold tokE
 by_cases h1 : bt t b = 35 ∧ d = true
 ·have hgt := lineEnd_gt hb (by omega)
  have hf : firstK (lens t b d) = (7, lineEnd t b - b) := by
   unfold lens firstK
   rw [if_pos (by unfold lineLen; rw [if_pos h1]; omega)]
   unfold lineLen
   rw [if_pos h1]
  rw [if_pos h1, hf]
  simp
  omega
 ·have f1 : ¬ 0 < lineLen t b d := by unfold lineLen; rw [if_neg h1]; omega
  rw [if_neg h1]
  by_cases h2 : isL (bt t b) = true
  ·have hgt : b < wordEnd t b := by
    unfold wordEnd
    rw [scanW_step hb (by simp [h2])]
    exact scanW_ge _ _ (b + 1)
   have hf : firstK (lens t b d) = (1, wordEnd t b - b) := by
    unfold lens firstK
    rw [if_neg f1]
    unfold firstK
    rw [if_pos (by rw [if_pos h2]; omega), if_pos h2]
   have hw : b + (wordEnd t b - b) = wordEnd t b := by omega
   rw [if_pos h2, hf]
   simp only [hw]
   by_cases hk : (keysL.any fun k => decide (k = t.extract b (wordEnd t b))) = true <;> simp [hk]
  ·have f2 : ¬ 0 < (if isL (bt t b) = true then wordEnd t b - b else 0) := by rw [if_neg h2]; omega
   rw [if_neg h2]
   by_cases h3 : isD (bt t b) = true ∨ (bt t b = 46 ∧ isD (bt t (b + 1)) = true)
   ·have hgt : b < numEnd t b := by unfold numEnd; have := scanW_ge (numP t) t.size (b + 1); omega
    have hf : firstK (lens t b d) = (3, numEnd t b - b) := by
     unfold lens firstK
     rw [if_neg f1]
     unfold firstK
     rw [if_neg f2]
     unfold firstK
     have : numLen t b = numEnd t b - b := by unfold numLen; rw [if_pos h3]
     rw [if_pos (by omega), this]
    have hw : b + (numEnd t b - b) = numEnd t b := by omega
    rw [if_pos h3, hf]
    simp [hw]
   ·have f3 : ¬ 0 < numLen t b := by unfold numLen; rw [if_neg h3]; omega
    rw [if_neg h3]
    have hf3 : firstK (lens t b d) = firstK [(4, quotLen t b 39), (5, quotLen t b 34), (6, signLen t b signsL)] := by
     unfold lens firstK
     rw [if_neg f1]
     unfold firstK
     rw [if_neg f2]
     conv => lhs; unfold firstK
     rw [if_neg f3]
     rfl
    rw [hf3]
    by_cases h4 : bt t b = 39
    ·have h34 : ¬ bt t b = 34 := by omega
     have z := signLen_quote (.inl h4)
     have q34 : quotLen t b 34 = 0 := by unfold quotLen; rw [if_neg h34]
     rw [if_pos (.inl h4), h4]
     have q39 : quotLen t b 39 = (match quotE t 39 (b + 1) with | some e => e - b | none => 0) := by unfold quotLen; rw [if_pos h4]; all_goals rfl
     cases hq : quotE t 39 (b + 1) with
     | none =>
      rw [hq] at q39
      simp only at q39
      simp [firstK, q39, q34, z]
     | some e =>
      rw [hq] at q39
      simp only at q39
      have hin := quotF_in t 39 _ _ _ hq
      have h5 : 0 < quotLen t b 39 := by omega
      simp [firstK, h5]
      omega
    ·have q39 : quotLen t b 39 = 0 := by unfold quotLen; rw [if_neg h4]
     by_cases h5 : bt t b = 34
     ·have z := signLen_quote (.inr h5)
      rw [if_pos (.inr h5), h5]
      have q34 : quotLen t b 34 = (match quotE t 34 (b + 1) with | some e => e - b | none => 0) := by unfold quotLen; rw [if_pos h5]; all_goals rfl
      cases hq : quotE t 34 (b + 1) with
      | none =>
       rw [hq] at q34
       simp only at q34
       simp [firstK, q39, q34, z]
      | some e =>
       rw [hq] at q34
       simp only at q34
       have hin := quotF_in t 34 _ _ _ hq
       have h6 : 0 < quotLen t b 34 := by omega
       simp [firstK, q39, h6]
       omega
     ·have q34 : quotLen t b 34 = 0 := by unfold quotLen; rw [if_neg h5]
      rw [if_neg (by omega)]
      by_cases h6 : signLen t b signsL = 0
      ·simp [firstK, q39, q34, h6]
      ·have h7 : 0 < signLen t b signsL := by omega
       simp [firstK, q39, q34, h6, h7]
theorem firstK_in {t : ByteArray} {b : Nat} (d : Bool) (hb : b < t.size) : 0 < (firstK (lens t b d)).2 ∧ b + (firstK (lens t b d)).2 ≤ t.size := by
 have h := tokE_in keysL signsL d hb
 rw [tokE_first d hb] at h
 simp only at h
 omega
end Go.Pv

namespace Go.Pv
open Go.Proofs
set_option linter.unusedVariables false
set_option linter.unusedSimpArgs false
set_option maxRecDepth 100000
set_option maxHeartbeats 1000000
theorem befF_in (t : ByteArray) : ∀ (k i : Nat) (c : Bool), i ≤ t.size → i ≤ (befF t k i c).1 ∧ (befF t k i c).1 ≤ t.size
 | 0, i, c, h => ⟨Nat.le_refl _, h⟩
 | k + 1, i, c, h => by
  have hp := pieceEnd_le h
  unfold befF
  split
  ·have := befF_in t k (pieceEnd t i) (clearB t i (pieceEnd t i) c) hp.2
   omega
  ·exact ⟨Nat.le_refl _, h⟩
theorem bef_in {t : ByteArray} {i : Nat} (c : Bool) (h : i ≤ t.size) : i ≤ (bef t i c).1 ∧ (bef t i c).1 ≤ t.size := befF_in t _ i c h
def KeyMap (s : St) (M : PV) : Prop := ∃ (i : Nat) (es : List (ByteArray × PV)), M = .mp i ∧ s i = some (.dict es) ∧ ∀ b, dget es b = if (keysL.any fun k => decide (k = b)) = true then some (.lit (.bool true)) else none
theorem KeyMap.sub {s s' : St} {M : PV} (h : KeyMap s M) (hs : s.sub s') : KeyMap s' M := by
 obtain ⟨i, es, h1, h2, h3⟩ := h
 exact ⟨i, es, h1, hs _ _ h2, h3⟩
theorem KeyMap.upd {s : St} {M : PV} (h : KeyMap s M) {p : Nat} {ty : TypeId} {sz : Nat} {els : List (List PV)} (hp : s p = some (.row ty sz els)) {b : Option Blk} : KeyMap (s.upd p b) M := by
 obtain ⟨i, es, h1, h2, h3⟩ := h
 refine ⟨i, es, h1, ?_, h3⟩
 rw [St.upd_ne _ _ (fun e => by subst e; rw [h2] at hp; cases hp)]
 exact h2
@[reducible] def kindV (p : Nat) (k : Int) (f : FuncId) : PV := .agg [.lit (.int .i64 k), .fn f [.pt p 0 0] []]
@[reducible] def kindsV (p : Nat) : PV := .vec .tight [kindV p 7 110, kindV p 1 111, kindV p 3 112, kindV p 4 113, kindV p 5 114, kindV p 6 115]
section
variable {t : ByteArray} {a : Nat} {M : PV} {c : Bool} {s : St} {p : Nat}
@[reducible] def tokC (k : Int) (b x : ByteArray) (n : Nat) : List PV := [.lit (.int .i64 k), .lit (.string b), .lit (.string x), .lit (.int .i64 n)]
theorem ptoken_c {vk : VK} (hv : Vars s) (hM : KeyMap s M) (hb : s p = some (scB t a M (strs vk signsL) c)) (ht : t.size ≤ 1000000) (ha : a ≤ t.size) : PCalls Tryz.prog 66 [.pt p 0 0] s (fun r s' =>
  if (bef t a c).1 = t.size then r = .ret (encT ⟨0, t.extract a (bef t a c).1, ⟨#[]⟩, (bef t a c).1⟩) ∧ s' = s.upd p (some (scB t (bef t a c).1 M (strs vk signsL) (bef t a c).2))
  else r = .ret (encT ⟨(tokE keysL signsL t (bef t a c).1 (bef t a c).2).1, t.extract a (bef t a c).1, t.extract (bef t a c).1 (tokE keysL signsL t (bef t a c).1 (bef t a c).2).2, (bef t a c).1⟩) ∧
   s' = s.upd p (some (scB t (tokE keysL signsL t (bef t a c).1 (bef t a c).2).2 M (strs vk signsL) false))) := by
 obtain ⟨hbge, hble⟩ := bef_in c ha
 have hbefc := fun (s : St) => before_c (t := t) (a := a) (M := M) (S := strs vk signsL) (c := c) (p := p) (s := s)
 generalize hbq : bef t a c = bq at *
 obtain ⟨b, d⟩ := bq
 simp only at *
 refine PCalls.mono (R := fun r s' => (b = t.size → r = .ret (encT ⟨0, t.extract a b, ⟨#[]⟩, b⟩) ∧ s' = s.upd p (some (scB t b M (strs vk signsL) d))) ∧
  (b ≠ t.size → r = .ret (encT ⟨(tokE keysL signsL t b d).1, t.extract a b, t.extract b (tokE keysL signsL t b d).2, b⟩) ∧ s' = s.upd p (some (scB t (tokE keysL signsL t b d).2 M (strs vk signsL) false)))) ?_ (fun r s' h => by
   by_cases hend : b = t.size
   ·rw [if_pos hend]; exact h.1 hend
   ·rw [if_neg hend]; exact h.2 hend)
 refine PCalls.of Tryz.func66 rfl (by rfl) (by simp [Tryz.ntmps66]) ?_
 refine PW.cutR fun R hR hC => ?_
 simp [Tryz.ntmps66]
 intro i2 h2
 refine hR _ _ ?_
 clear hR hC R
 have n2p := fresh_ne h2 hb
 refine PW.cutR fun R hR hC => ?_
 simp
 refine (hbefc (s.upd i2 _) (hv.upd (hv.fresh h2).1 (hv.fresh h2).2) (by rw [St.upd_ne _ _ n2p.symm]; exact hb) ht ha).mono ?_
 rintro _ _ ⟨rfl, rfl⟩
 simp
 refine hR _ _ ?_
 clear hR hC R
 refine PW.cutR fun R hR hC => ?_
 simp
 intro i4 h4p hp4 h42 h24 h4
 refine hR _ _ ?_
 clear hR hC R
 generalize hτ : St.upd (St.upd (St.upd s i2 _) p _) i4 _ = τ
 generalize hBq : s.upd p (some (scB t b M (strs vk signsL) d)) = B
 have tp : τ p = some (scB t b M (strs vk signsL) d) := by rw [← hτ]; simp [h4p, hp4]
 have t2 : τ i2 = some (.row 32 4 [tokC 0 ⟨#[]⟩ ⟨#[]⟩ 0]) := by rw [← hτ]; simp [h42, h24, n2p]
 have t4 : τ i4 = some (.row 32 4 [tokC 0 (t.extract a b) ⟨#[]⟩ b]) := by rw [← hτ]; simp
 have hBp : B p = some (scB t b M (strs vk signsL) d) := by rw [← hBq]; simp
 have hB2 : B i2 = none := by rw [← hBq, St.upd_ne _ _ n2p]; exact h2
 have hB4 : B i4 = none := by rw [← hBq, St.upd_ne _ _ h4p]; exact h4
 have hBτ : B.sub τ := by
  rw [← hBq, ← hτ]
  intro k z hk
  by_cases k1 : k = p
  ·subst k1
   rw [St.upd_same] at hk
   rw [St.upd_ne _ _ hp4, St.upd_same]; exact hk
  ·rw [St.upd_ne _ _ k1] at hk
   have k2 : k ≠ i2 := fun e => by rw [e, show s i2 = none from h2] at hk; cases hk
   have k4 : k ≠ i4 := fun e => by rw [e, show s i4 = none from h4] at hk; cases hk
   rw [St.upd_ne _ _ k4, St.upd_ne _ _ k1, St.upd_ne _ _ k2]; exact hk
 have hMB : KeyMap B M := by rw [← hBq]; exact hM.upd hb
 clear hτ
 generalize hE : Env.put _ _ _ = E
 have g0 : E 0 = .pt p 0 0 := by rw [← hE]; simp
 have g2 : E 2 = .pt i2 0 0 := by rw [← hE]; simp
 have g4 : E 4 = .pt i4 0 0 := by rw [← hE]; simp
 clear hE
 refine PW.cutR fun R hR hC => ?_
 simp
 refine PW.drawn (fun i => 0) [0, 1, 2, 4, 5, 6, 3, 7, 8, 9] mixed_ (fun _ _ _ _ h => h) (by kernel_rfl) ?_
 by_cases hend : b = t.size
 ·have hend' : (b : Int) = (t.size : Nat) := by omega
  simp [g0, g2, g4, tp, t2, t4, h42, h24, hend']
  exact ⟨B, St.sub.upd_of hBτ hB2, fun _ => rfl, fun h => absurd hend h⟩
 ·have hend' : ¬ (b : Int) = (t.size : Nat) := by omega
  simp [g0, g2, g4, tp, t2, t4, h42, h24, hend']
  refine hR _ _ ?_
  clear hR hC R
  have hbt : b < t.size := by omega
  refine PW.cutR fun R hR hC => ?_
  simp
  refine hR _ _ ?_
  clear hR hC R
  refine PW.cutR fun R hR hC => ?_
  simp [g0, g2, g4, tp, t2, t4, h42, h24]
  refine hR _ _ ?_
  clear hR hC R
  generalize hτ' : τ.upd i4 _ = τ1
  have tp1 : τ1 p = some (scB t b M (strs vk signsL) d) := by rw [← hτ', St.upd_ne _ _ hp4]; exact tp
  have t21 : τ1 i2 = some (.row 32 4 [tokC 0 ⟨#[]⟩ ⟨#[]⟩ 0]) := by rw [← hτ', St.upd_ne _ _ h24]; exact t2
  have t41 : τ1 i4 = some (.row 32 4 [tokC 8 (t.extract a b) ⟨#[]⟩ b]) := by rw [← hτ']; simp
  have hBτ1 : B.sub τ1 := by rw [← hτ']; exact St.sub.upd_of hBτ hB4
  clear hτ' tp t2 t4 hBτ
  generalize hE : Env.put _ _ _ = E1
  have f0 : E1 0 = .pt p 0 0 := by rw [← hE]; simp [g0]
  have f2 : E1 2 = .pt i2 0 0 := by rw [← hE]; simp [g2]
  have f4 : E1 4 = .pt i4 0 0 := by rw [← hE]; simp [g4]
  have f5 : E1 5 = .lit (.int .i64 1) := by rw [← hE]; simp
  clear hE g0 g2 g4 E
  refine PW.cutR fun R hR hC => ?_
  -- behind the search
  have fin : ∀ (E : Env) (s1 : St), E 0 = .pt p 0 0 → E 2 = .pt i2 0 0 → E 4 = .pt i4 0 0 → E 5 = .lit (.int .i64 ((firstK (lens t b d)).2 : Nat)) → B.sub s1 → s1 i2 = some (.row 32 4 [tokC 0 ⟨#[]⟩ ⟨#[]⟩ 0]) → s1 i4 = some (.row 32 4 [tokC ((firstK (lens t b d)).1 : Nat) (t.extract a b) ⟨#[]⟩ b]) → R E s1 := by
   intro E s1 f0 f2 f4 f5 hBs u2 u4
   obtain ⟨hm0, hm1⟩ := firstK_in d hbt
   have htok := tokE_first d hbt
   generalize firstK (lens t b d) = km at *
   obtain ⟨kd, m⟩ := km
   simp only at *
   have up := hBs _ _ hBp
   have hMs := hMB.sub hBs
   refine hR _ _ ?_
   clear hR hC R
   obtain ⟨en, hen⟩ : ∃ en, en = b + m := ⟨_, rfl⟩
   rw [← hen] at htok hm1
   have w1 : IntKind.i64.wrap ((b : Int) + (m : Int)) = (en : Int) := by rw [wrap_i64 (by omega) (by omega)]; omega
   refine PW.cutR fun R hR hC => ?_
   refine PW.drawn (fun i => 0) [0, 1, 2, 4, 5, 6, 8, 9, 10, 12, 3, 7, 11, 13, 14, 15, 16] mixed_ (fun _ _ _ _ h => h) (by kernel_rfl) ?_
   have hle1 : b ≤ en := by omega
   simp [f0, f2, f4, f5, up, u2, u4, w1, hm1, hle1]
   refine hR _ _ ?_
   clear hR hC R
   generalize hσ : s1.upd i4 _ = s2
   have v2 : s2 i2 = some (.row 32 4 [tokC 0 ⟨#[]⟩ ⟨#[]⟩ 0]) := by rw [← hσ, St.upd_ne _ _ h24]; exact u2
   have v4 : s2 i4 = some (.row 32 4 [tokC (kd : Nat) (t.extract a b) (t.extract b en) b]) := by rw [← hσ, St.upd_same]
   have hBs2 : B.sub s2 := by rw [← hσ]; exact St.sub.upd_of hBs hB4
   clear hσ u2 u4 up hMs hBs s1
   have vp := hBs2 _ _ hBp
   obtain ⟨im, es, rfl, hes, hkk⟩ := hMB.sub hBs2
   generalize hE : Env.put _ _ _ = E'
   have g0 : E' 0 = .pt p 0 0 := by rw [← hE]; simp [f0]
   have g2 : E' 2 = .pt i2 0 0 := by rw [← hE]; simp [f2]
   have g4 : E' 4 = .pt i4 0 0 := by rw [← hE]; simp [f4]
   have g5 : E' 5 = .lit (.int .i64 (m : Nat)) := by rw [← hE]; simp [f5]
   clear hE f0 f2 f4 f5 E
   refine PW.cutR fun R hR hC => ?_
   -- behind the look at the keys
   have tail : ∀ (E : Env) (s3 : St) (k' : Nat), E 0 = .pt p 0 0 → E 2 = .pt i2 0 0 → E 4 = .pt i4 0 0 → E 5 = .lit (.int .i64 (m : Nat)) → B.sub s3 → s3 i2 = some (.row 32 4 [tokC 0 ⟨#[]⟩ ⟨#[]⟩ 0]) → s3 i4 = some (.row 32 4 [tokC (k' : Nat) (t.extract a b) (t.extract b en) b]) →
     k' = (tokE keysL signsL t b d).1 → R E s3 := by
    intro E s3 k' f0 f2 f4 f5 hBs u2 u4 hk'
    have up := hBs _ _ hBp
    refine hR _ _ ?_
    refine pwC_sound _ _ _ _ ?_
    simp [f0, f2, f4, f5, up, u2, u4, w1, h24, h42, h4p, hp4, n2p, n2p.symm]
    rw [htok] at hk' ⊢
    refine ⟨s.upd p (some (scB t en (.mp im) (strs vk signsL) false)), fun k z hk => ?_, fun h => absurd h hend, fun _ => ⟨?_, rfl⟩⟩
    ·by_cases k1 : k = p
     ·subst k1
      rw [St.upd_same] at hk
      rw [St.upd_ne _ _ n2p.symm, St.upd_same]
      exact hk
     ·rw [St.upd_ne _ _ k1] at hk
      have k2 : k ≠ i2 := fun e => by rw [e, show s i2 = none from h2] at hk; cases hk
      have := hBs k z (by rw [← hBq, St.upd_ne _ _ k1]; exact hk)
      simp only [St.upd_ne _ _ k1, St.upd_ne _ _ k2]
      exact this
    ·simp only at hk'
     rw [← hk']
     exact ⟨rfl, rfl⟩
   refine PW.drawn (fun i => 0) [0, 1, 2, 3, 4, 5, 6, 8, 7, 9, 10, 11] mixed_ (fun _ _ _ _ h => h) (by kernel_rfl) ?_
   by_cases hk1 : kd = 1
   ·subst hk1
    by_cases hky : (keysL.any fun k => decide (k = t.extract b en)) = true
    ·have hg := hkk (t.extract b en)
     rw [if_pos hky] at hg
     simp [g0, g2, g4, g5, vp, v4, hes, hg]
     refine tail _ _ 2 (by simp [g0]) (by simp [g2]) (by simp [g4]) (by simp [g5]) (St.sub.upd_of hBs2 hB4) (by rw [St.upd_ne _ _ h24]; exact v2) (by rw [St.upd_same]; rfl) ?_
     rw [htok, if_pos ⟨rfl, hky⟩]
    ·have hg := hkk (t.extract b en)
     rw [if_neg hky] at hg
     simp [g0, g2, g4, g5, vp, v4, hes, hg]
     refine tail _ _ 1 (by simp [g0]) (by simp [g2]) (by simp [g4]) (by simp [g5]) hBs2 v2 v4 ?_
     rw [htok, if_neg (fun h => hky h.2)]
   ·have hk1' : ¬ (kd : Int) = 1 := by omega
    simp [g0, g2, g4, g5, vp, v4, hk1']
    refine tail _ _ kd (by simp [g0]) (by simp [g2]) (by simp [g4]) (by simp [g5]) hBs2 v2 v4 ?_
    rw [htok, if_neg (fun h => hk1 h.1)]
  simp [f0]
  refine PW.loop (fun n e s' => ∃ j : Nat, j + n = 6 ∧ e 0 = .pt p 0 0 ∧ e 2 = .pt i2 0 0 ∧ e 4 = .pt i4 0 0 ∧ e 5 = .lit (.int .i64 1) ∧ e 47 = kindsV p ∧ e 48 = .lit (.int .i64 6) ∧ e 49 = .lit (.int .i64 j) ∧ B.sub s' ∧
   s' i2 = some (.row 32 4 [tokC 0 ⟨#[]⟩ ⟨#[]⟩ 0]) ∧ s' i4 = some (.row 32 4 [tokC 8 (t.extract a b) ⟨#[]⟩ b]) ∧ firstK ((lens t b d).drop j) = firstK (lens t b d)) 6
   ⟨0, by omega, by simp [f0], by simp [f2], by simp [f4], by simp [f5], by simp, by simp, by simp, hBτ1, t21, t41, rfl⟩ ?_
  clear hBτ1 t21 t41 tp1 f0 f2 f4 f5
  rintro n e s' ⟨j, hj, e0, e2, e4, e5, e47, e48, e49, hBs, u2, u4, hf⟩
  have up := hBs _ _ hBp
  refine pwC_sound _ _ _ _ ?_
  by_cases h6 : j = 6
  ·subst h6
   simp [e0, e48, e49]
   refine fin _ s' (by simp [e0]) (by simp [e2]) (by simp [e4]) ?_ hBs u2 ?_
   ·rw [← hf]; simp [e5, lens, firstK]
   ·rw [u4, ← hf]; simp [lens, firstK]
  obtain rfl | rfl | rfl | rfl | rfl | rfl : j = 0 ∨ j = 1 ∨ j = 2 ∨ j = 3 ∨ j = 4 ∨ j = 5 := by omega
  ·generalize hm : lineLen t b d = m at hf
   have hfm : firstK (lens t b d) = if 0 < m then (7, m) else firstK ((lens t b d).drop 1) := by rw [← hf, ← hm]; rfl
   simp [e0, e47, e48, e49]
   intro i7 h7
   have n7p := fresh_ne h7 up
   have n72 := fresh_ne h7 u2
   have n74 := fresh_ne h7 u4
   refine (line_c (t := t) (a := b) (M := M) (c := d) (s := s'.upd i7 _) (p := p) (by rw [St.upd_ne _ _ n7p.symm]; exact up) ht hbt).mono ?_
   rintro _ s3 ⟨hs3, rfl⟩
   rw [hs3]
   clear hs3 s3
   rw [hm]
   by_cases hpos : 0 < m
   ·have hpos' : (0 : Int) < (m : Nat) := by omega
    rw [if_pos hpos] at hfm
    simp [e0, e4, hpos, hpos']
    refine PW.drawn (fun i => 0) [0, 1, 3, 2, 4, 5] mixed_ (fun _ _ _ _ h => h) (by kernel_rfl) ?_
    simp [e0, e4, n7p, n72, n74, n7p.symm, n72.symm, n74.symm, u4]
    refine fin _ _ (by simp [e0]) (by simp [e2]) (by simp [e4]) (by rw [hfm]; simp) (St.sub.upd_of (hBs.upd h7) hB4) (by simp [h24, n72.symm, u2]) ?_
    rw [hfm, St.upd_same]
    simp
   ·have hpos' : ¬ (0 : Int) < (m : Nat) := by omega
    have hm0 : m = 0 := by omega
    rw [if_neg hpos] at hfm
    have w1 : IntKind.i64.wrap 1 = 1 := by decide
    simp [e0, e4, e49, hpos, hpos', hm0, w1]
    exact ⟨n - 1, by omega, 1, by omega, e2, e5, e47, e48, rfl, hBs.upd h7, by simp [n72.symm, u2], by simp [n74.symm, u4], hfm.symm⟩
  ·generalize hm : (if isL (bt t b) = true then wordEnd t b - b else 0) = m at hf
   have hfm : firstK (lens t b d) = if 0 < m then (1, m) else firstK ((lens t b d).drop 2) := by rw [← hf, ← hm]; rfl
   simp [e0, e47, e48, e49]
   intro i7 h7
   have n7p := fresh_ne h7 up
   have n72 := fresh_ne h7 u2
   have n74 := fresh_ne h7 u4
   refine (lname_c (t := t) (a := b) (M := M) (c := d) (s := s'.upd i7 _) (p := p) (by rw [St.upd_ne _ _ n7p.symm]; exact up) ht hbt).mono ?_
   rintro _ s3 ⟨hs3, rfl⟩
   rw [hs3]
   clear hs3 s3
   rw [hm]
   by_cases hpos : 0 < m
   ·have hpos' : (0 : Int) < (m : Nat) := by omega
    rw [if_pos hpos] at hfm
    simp [e0, e4, hpos, hpos']
    refine PW.drawn (fun i => 0) [0, 1, 3, 2, 4, 5] mixed_ (fun _ _ _ _ h => h) (by kernel_rfl) ?_
    simp [e0, e4, n7p, n72, n74, n7p.symm, n72.symm, n74.symm, u4]
    refine fin _ _ (by simp [e0]) (by simp [e2]) (by simp [e4]) (by rw [hfm]; simp) (St.sub.upd_of (hBs.upd h7) hB4) (by simp [h24, n72.symm, u2]) ?_
    rw [hfm, St.upd_same]
    simp
   ·have hpos' : ¬ (0 : Int) < (m : Nat) := by omega
    have hm0 : m = 0 := by omega
    rw [if_neg hpos] at hfm
    have w1 : IntKind.i64.wrap 2 = 2 := by decide
    simp [e0, e4, e49, hpos, hpos', hm0, w1]
    exact ⟨n - 1, by omega, 2, by omega, e2, e5, e47, e48, rfl, hBs.upd h7, by simp [n72.symm, u2], by simp [n74.symm, u4], hfm.symm⟩
  ·generalize hm : numLen t b = m at hf
   have hfm : firstK (lens t b d) = if 0 < m then (3, m) else firstK ((lens t b d).drop 3) := by rw [← hf, ← hm]; rfl
   simp [e0, e47, e48, e49]
   intro i7 h7
   have n7p := fresh_ne h7 up
   have n72 := fresh_ne h7 u2
   have n74 := fresh_ne h7 u4
   refine (number_c (t := t) (a := b) (M := M) (c := d) (s := s'.upd i7 _) (p := p) (by rw [St.upd_ne _ _ n7p.symm]; exact up) ht hbt).mono ?_
   rintro _ s3 ⟨hs3, rfl⟩
   rw [hs3]
   clear hs3 s3
   rw [hm]
   by_cases hpos : 0 < m
   ·have hpos' : (0 : Int) < (m : Nat) := by omega
    rw [if_pos hpos] at hfm
    simp [e0, e4, hpos, hpos']
    refine PW.drawn (fun i => 0) [0, 1, 3, 2, 4, 5] mixed_ (fun _ _ _ _ h => h) (by kernel_rfl) ?_
    simp [e0, e4, n7p, n72, n74, n7p.symm, n72.symm, n74.symm, u4]
    refine fin _ _ (by simp [e0]) (by simp [e2]) (by simp [e4]) (by rw [hfm]; simp) (St.sub.upd_of (hBs.upd h7) hB4) (by simp [h24, n72.symm, u2]) ?_
    rw [hfm, St.upd_same]
    simp
   ·have hpos' : ¬ (0 : Int) < (m : Nat) := by omega
    have hm0 : m = 0 := by omega
    rw [if_neg hpos] at hfm
    have w1 : IntKind.i64.wrap 3 = 3 := by decide
    simp [e0, e4, e49, hpos, hpos', hm0, w1]
    exact ⟨n - 1, by omega, 3, by omega, e2, e5, e47, e48, rfl, hBs.upd h7, by simp [n72.symm, u2], by simp [n74.symm, u4], hfm.symm⟩
  ·generalize hm : quotLen t b 39 = m at hf
   have hfm : firstK (lens t b d) = if 0 < m then (4, m) else firstK ((lens t b d).drop 4) := by rw [← hf, ← hm]; rfl
   simp [e0, e47, e48, e49]
   intro i7 h7
   have n7p := fresh_ne h7 up
   have n72 := fresh_ne h7 u2
   have n74 := fresh_ne h7 u4
   refine (char_c (t := t) (a := b) (M := M) (c := d) (s := s'.upd i7 _) (p := p) (by rw [St.upd_ne _ _ n7p.symm]; exact up) ht hbt).mono ?_
   rintro _ s3 ⟨hs3, rfl⟩
   rw [hs3]
   clear hs3 s3
   rw [hm]
   by_cases hpos : 0 < m
   ·have hpos' : (0 : Int) < (m : Nat) := by omega
    rw [if_pos hpos] at hfm
    simp [e0, e4, hpos, hpos']
    refine PW.drawn (fun i => 0) [0, 1, 3, 2, 4, 5] mixed_ (fun _ _ _ _ h => h) (by kernel_rfl) ?_
    simp [e0, e4, n7p, n72, n74, n7p.symm, n72.symm, n74.symm, u4]
    refine fin _ _ (by simp [e0]) (by simp [e2]) (by simp [e4]) (by rw [hfm]; simp) (St.sub.upd_of (hBs.upd h7) hB4) (by simp [h24, n72.symm, u2]) ?_
    rw [hfm, St.upd_same]
    simp
   ·have hpos' : ¬ (0 : Int) < (m : Nat) := by omega
    have hm0 : m = 0 := by omega
    rw [if_neg hpos] at hfm
    have w1 : IntKind.i64.wrap 4 = 4 := by decide
    simp [e0, e4, e49, hpos, hpos', hm0, w1]
    exact ⟨n - 1, by omega, 4, by omega, e2, e5, e47, e48, rfl, hBs.upd h7, by simp [n72.symm, u2], by simp [n74.symm, u4], hfm.symm⟩
  ·generalize hm : quotLen t b 34 = m at hf
   have hfm : firstK (lens t b d) = if 0 < m then (5, m) else firstK ((lens t b d).drop 5) := by rw [← hf, ← hm]; rfl
   simp [e0, e47, e48, e49]
   intro i7 h7
   have n7p := fresh_ne h7 up
   have n72 := fresh_ne h7 u2
   have n74 := fresh_ne h7 u4
   refine (str_c (t := t) (a := b) (M := M) (c := d) (s := s'.upd i7 _) (p := p) (by rw [St.upd_ne _ _ n7p.symm]; exact up) ht hbt).mono ?_
   rintro _ s3 ⟨hs3, rfl⟩
   rw [hs3]
   clear hs3 s3
   rw [hm]
   by_cases hpos : 0 < m
   ·have hpos' : (0 : Int) < (m : Nat) := by omega
    rw [if_pos hpos] at hfm
    simp [e0, e4, hpos, hpos']
    refine PW.drawn (fun i => 0) [0, 1, 3, 2, 4, 5] mixed_ (fun _ _ _ _ h => h) (by kernel_rfl) ?_
    simp [e0, e4, n7p, n72, n74, n7p.symm, n72.symm, n74.symm, u4]
    refine fin _ _ (by simp [e0]) (by simp [e2]) (by simp [e4]) (by rw [hfm]; simp) (St.sub.upd_of (hBs.upd h7) hB4) (by simp [h24, n72.symm, u2]) ?_
    rw [hfm, St.upd_same]
    simp
   ·have hpos' : ¬ (0 : Int) < (m : Nat) := by omega
    have hm0 : m = 0 := by omega
    rw [if_neg hpos] at hfm
    have w1 : IntKind.i64.wrap 5 = 5 := by decide
    simp [e0, e4, e49, hpos, hpos', hm0, w1]
    exact ⟨n - 1, by omega, 5, by omega, e2, e5, e47, e48, rfl, hBs.upd h7, by simp [n72.symm, u2], by simp [n74.symm, u4], hfm.symm⟩
  ·generalize hm : signLen t b signsL = m at hf
   have hfm : firstK (lens t b d) = if 0 < m then (6, m) else firstK ((lens t b d).drop 6) := by rw [← hf, ← hm]; rfl
   simp [e0, e47, e48, e49]
   intro i7 h7
   have n7p := fresh_ne h7 up
   have n72 := fresh_ne h7 u2
   have n74 := fresh_ne h7 u4
   refine (lsign_c (t := t) (a := b) (M := M) (c := d) (s := s'.upd i7 _) (p := p) (by rw [St.upd_ne _ _ n7p.symm]; exact up) ht (by omega)).mono ?_
   rintro _ s3 ⟨hs3, rfl⟩
   rw [hs3]
   clear hs3 s3
   rw [hm]
   by_cases hpos : 0 < m
   ·have hpos' : (0 : Int) < (m : Nat) := by omega
    rw [if_pos hpos] at hfm
    simp [e0, e4, hpos, hpos']
    refine PW.drawn (fun i => 0) [0, 1, 3, 2, 4, 5] mixed_ (fun _ _ _ _ h => h) (by kernel_rfl) ?_
    simp [e0, e4, n7p, n72, n74, n7p.symm, n72.symm, n74.symm, u4]
    refine fin _ _ (by simp [e0]) (by simp [e2]) (by simp [e4]) (by rw [hfm]; simp) (St.sub.upd_of (hBs.upd h7) hB4) (by simp [h24, n72.symm, u2]) ?_
    rw [hfm, St.upd_same]
    simp
   ·have hpos' : ¬ (0 : Int) < (m : Nat) := by omega
    have hm0 : m = 0 := by omega
    rw [if_neg hpos] at hfm
    have w1 : IntKind.i64.wrap 6 = 6 := by decide
    simp [e0, e4, e49, hpos, hpos', hm0, w1]
    exact ⟨n - 1, by omega, 6, by omega, e2, e5, e47, e48, rfl, hBs.upd h7, by simp [n72.symm, u2], by simp [n74.symm, u4], hfm.symm⟩
end
end Go.Pv

namespace Go.Pv
open Go.Proofs
set_option linter.unusedVariables false
set_option linter.unusedSimpArgs false
set_option maxRecDepth 100000
set_option maxHeartbeats 1000000
theorem ascii_of {l : List UInt8} (h : l.all (fun b => decide (b.toNat < 128)) = true) : ∀ (j : Nat) b, l[j]? = some b → b.toNat < 128 := by
 intro j b hb
 rw [List.all_eq_true] at h
 simpa using h b (List.mem_of_getElem? hb)
theorem pkeys_c (s : St) (hv : Vars s) : PCalls Tryz.prog 65 [] s (fun r s' => s' = s ∧ r = .ret (strs .tight keysL)) := by
 refine PCalls.of Tryz.func65 rfl (by rfl) (by simp [Tryz.ntmps65]) ?_
 refine pwC_sound _ _ _ _ ?_
 simp [Tryz.ntmps65]
 refine (fields_c _ ?_ ?_ _ hv).mono ?_
 ·decide
 ·exact ascii_of (by kernel_rfl)
 rintro _ s1 ⟨hs1, rfl⟩
 rw [hs1]
 have : ∀ u : ByteArray, (Lib.fields u.data.toList).map (fun l => (⟨l.toArray⟩ : ByteArray)) = keysL → strs .tight ((Lib.fields u.data.toList).map fun l => (⟨l.toArray⟩ : ByteArray)) = strs .tight keysL := fun u h => by rw [h]
 rw [this _ (by kernel_rfl)]
 simp
theorem psigns_c (s : St) (hv : Vars s) : PCalls Tryz.prog 64 [] s (fun r s' => s' = s ∧ r = .ret (strs .tight signsL)) := by
 refine PCalls.of Tryz.func64 rfl (by rfl) (by simp [Tryz.ntmps64]) ?_
 refine pwC_sound _ _ _ _ ?_
 simp [Tryz.ntmps64]
 refine (fields_c _ ?_ ?_ _ hv).mono ?_
 ·decide
 ·exact ascii_of (by kernel_rfl)
 rintro _ s1 ⟨hs1, rfl⟩
 rw [hs1]
 have : ∀ u : ByteArray, (Lib.fields u.data.toList).map (fun l => (⟨l.toArray⟩ : ByteArray)) = signsL → strs .tight ((Lib.fields u.data.toList).map fun l => (⟨l.toArray⟩ : ByteArray)) = strs .tight signsL := fun u h => by rw [h]
 rw [this _ (by kernel_rfl)]
 simp
theorem dget_dset (es : List (ByteArray × PV)) (k b : ByteArray) (v : PV) : dget (dset es k v) b = if b = k then some v else dget es b := by
 induction es with
 | nil => simp [dset, dget]
 | cons q es ih =>
  obtain ⟨k', u⟩ := q
  by_cases h : k = k'
  ·subst h
   simp [dset, dget]
   by_cases hb : b = k <;> simp [hb]
  ·simp only [dset, if_neg h, dget, ih]
   by_cases hb : b = k'
   ·have : ¬ b = k := fun e => h (e.symm.trans hb)
    simp [hb, this]
    intro e
    exact absurd e.symm h
   ·simp [hb]
def keyD (l : List ByteArray) : List (ByteArray × PV) := l.foldl (fun es k => dset es k (.lit (.bool true))) []
theorem keyD_get (l : List ByteArray) (b : ByteArray) : dget (keyD l) b = if (l.any fun k => decide (k = b)) = true then some (.lit (.bool true)) else none := by
 have key : ∀ (l : List ByteArray) (es : List (ByteArray × PV)), dget (l.foldl (fun es k => dset es k (.lit (.bool true))) es) b = if (l.any fun k => decide (k = b)) = true then some (.lit (.bool true)) else dget es b := by
  intro l
  induction l with
  | nil => intro es; simp
  | cons x l ih =>
   intro es
   rw [List.foldl_cons, ih, dget_dset, List.any_cons]
   by_cases h : b = x
   ·subst h; simp
   ·have : ¬ x = b := fun e => h e.symm
    rw [if_neg h, show decide (x = b) = false from decide_eq_false this, Bool.false_or]
 exact (key l []).trans (by rfl)
theorem keyD_snoc (l : List ByteArray) (k : ByteArray) : keyD (l ++ [k]) = dset (keyD l) k (.lit (.bool true)) := by simp [keyD]
end Go.Pv

namespace Go.Pv
open Go.Proofs
set_option linter.unusedVariables false
set_option linter.unusedSimpArgs false
set_option maxRecDepth 100000
set_option maxHeartbeats 1000000
def ScanI (t : ByteArray) (M : PV) (p : Nat) (base : St) (n : Nat) (e : Env) (s' : St) : Prop :=
 ∃ (B : St) (i k : Nat) (c : Bool) (acc : List Tk) (v : PV), i ≤ t.size ∧ n = t.size + 1 - i ∧ n ≤ k ∧ e 4 = .pt p 0 0 ∧ e 7 = v ∧ acc ++ toksF keysL signsL t k i c = allT t ∧ acc.length ≤ 40000 ∧
  OwnL 32 4 B (acc.map encTC) v s' ∧ B p = some (scB t i M (strs .tight signsL) c) ∧ Vars B ∧ KeyMap B M ∧ base.sub B
theorem tokE_kd {t : ByteArray} (i : Nat) (c : Bool) : (tokE keysL signsL t i c).1 ≠ 0 := by
 unfold tokE
 repeat' split
 all_goals simp
theorem pscan_c (t : ByteArray) (ht : t.size ≤ 1000000000) (s : St) (hv : Vars s) : PCalls Tryz.prog 34 [.lit (.string t)] s (fun r s' => s' = s ∧ r = .ret (if 200000 < t.size ∨ 40000 < (allT t).length then .tup [.vec .nil [], .lit (.int .i64 2)] else .tup [toks .any (allT t), .lit (.int .i64 0)])) := by
 refine PCalls.conv (R := fun r s' => ∃ s2 : St, s2.sub s' ∧ (if 200000 < t.size ∨ 40000 < (allT t).length then s2 = s ∧ r = .ret (.tup [.vec .nil [], .lit (.int .i64 2)]) else ∃ v, r = .ret (.tup [v, .lit (.int .i64 0)]) ∧ OwnL 32 4 s ((allT t).map encTC) v s2)) ?_ ?_ ?_
 ·refine PCalls.of Tryz.func34 rfl (by rfl) (by simp [Tryz.ntmps34]) ?_
  refine pwC_sound _ _ _ _ ?_
  refine pwC_cut fun K hK => ?_
  simp [Tryz.ntmps34]
  refine hK _ _ ?_
  clear hK K
  refine pwC_cut fun K hK => ?_
  by_cases h1 : 200000 < t.size
  ·have h1' : (200000 : Int) < t.size := by omega
   clear hK
   simp [Tryz.ntmps34, h1, h1']
   exact ⟨_, sub_refl, sub_refl⟩
  have h1' : ¬ (200000 : Int) < t.size := by omega
  simp [Tryz.ntmps34, h1, h1']
  refine hK _ _ ?_
  clear hK K
  refine pwC_cut fun K hK => ?_
  simp
  intro im him
  refine (psigns_c _ (hv.upd (hv.fresh him).1 (hv.fresh him).2)).mono ?_
  rintro _ s1 ⟨hs1, rfl⟩
  rw [hs1]
  clear hs1 s1
  simp
  intro p hp0 hmp hps
  refine hK _ _ ?_
  clear hK K
  have him' := hv.fresh him
  have hpp' := hv.fresh hps
  have hpm : ¬ p = im := fun e => hmp e.symm
  generalize hE : Env.put _ _ _ = E
  have g2 : E 2 = .vec .nil [] := by rw [← hE]; simp
  have g4 : E 4 = .pt p 0 0 := by rw [← hE]; simp
  clear hE
  generalize hσ : St.upd (St.upd _ _ _) _ _ = σ
  have hσp : σ p = some (scB t 0 (.mp im) (strs .tight signsL) true) := by rw [← hσ]; simp
  have hσm : σ im = some (.dict []) := by rw [← hσ, St.upd_ne _ _ hmp]; simp
  have hσs : s.sub σ := by rw [← hσ]; exact ((sub_refl.upd_of him).upd_of hps)
  have hσv : Vars σ := hv.sub hσs
  clear hσ
  refine pwC_cut fun K hK => ?_
  simp
  refine (pkeys_c _ hσv).mono ?_
  rintro _ s1 ⟨hs1, rfl⟩
  rw [hs1]
  clear hs1 s1
  have hk200 : keysL.length ≤ 200 := by decide
  simp
  generalize hL : keysL = L at hk200 ⊢
  refine PW.loop (fun n e s' => ∃ j : Nat, j + n = L.length ∧ e 2 = .vec .nil [] ∧ e 4 = .pt p 0 0 ∧ e 17 = strs .tight L ∧ e 18 = .lit (.int .i64 (L.length : Nat)) ∧ e 19 = .lit (.int .i64 j) ∧ s' = σ.upd im (some (.dict (keyD (L.take j))))) L.length ⟨0, by omega, by simp [g2], by simp [g4], by simp, by simp, by simp, ?_⟩ ?_
  ·rw [List.take_zero]
   funext i
   by_cases hi : i = im
   ·subst hi; rw [St.upd_same]; exact hσm
   ·rw [St.upd_ne _ _ hi]
  ·rintro n e s' ⟨j, hj, e2, e4, e17, e18, e19, rfl⟩
   refine pwC_sound _ _ _ _ ?_
   by_cases hlt : j < L.length
   ·have hlt' : (j : Int) < L.length := by omega
    have hg : L[j]? = some L[j] := List.getElem?_eq_getElem hlt
    have w1 : IntKind.i64.wrap ((j : Int) + 1) = ((j + 1 : Nat) : Int) := by rw [wrap_i64 (by omega) (by omega)]; omega
    have hσp' : (σ.upd im (some (.dict (keyD (L.take j))))) p = some (scB t 0 (.mp im) (strs .tight signsL) true) := by rw [St.upd_ne _ _ hpm]; exact hσp
    simp [e2, e4, e17, e18, e19, hlt, hlt', hg, w1, hpm, hσp]
    refine ⟨n - 1, by omega, j + 1, by omega, by omega, ?_⟩
    rw [show L.take (j + 1) = L.take j ++ [L[j]] from by rw [List.take_add_one, hg]; rfl, keyD_snoc]
   ·have hlt' : ¬ (j : Int) < L.length := by omega
    have hjl : j = L.length := by omega
    simp [e2, e4, e17, e18, e19, hlt, hlt']
    refine hK _ _ ?_
    clear hK K
    have hkl := keyD_get L
    rw [hjl, List.take_length]
    have hM : KeyMap (σ.upd im (some (.dict (keyD L)))) (.mp im) := ⟨im, keyD L, rfl, by simp, fun b => by rw [hL]; exact hkl b⟩
    generalize hτ : St.upd _ _ _ = τ at hM ⊢
    have hτp : τ p = some (scB t 0 (.mp im) (strs .tight signsL) true) := by rw [← hτ, St.upd_ne _ _ hpm]; exact hσp
    have hτv : Vars τ := by rw [← hτ]; exact hσv.upd him'.1 him'.2
    have hτs : s.sub τ := by rw [← hτ]; exact hσs.upd_of him
    clear hτ hkl hσp hσm hσs hσv
    generalize hE' : Env.put e _ _ = E'
    have g2 : E' 2 = .vec .nil [] := by rw [← hE']; simp [e2]
    have g4 : E' 4 = .pt p 0 0 := by rw [← hE']; simp [e4]
    clear hE'
    refine pwC_cut fun K hK => ?_
    simp [g2, g4]
    refine hK _ _ ?_
    clear hK K
    simp
    refine PW.loop (fun n e s' => ScanI t (.mp im) p s n e s') (t.size + 1) ⟨τ, 0, t.size + 1, true, [], .vec .nil [], by omega, by omega, by omega, by simp [g4], by simp, by simp [allT], by simp, OwnL.nil _ _ _, hτp, hτv, hM, hτs⟩ ?_
    rintro n e s' ⟨B, i, k, c, acc, v, hi, hn, hk, e4, e7, hall, hacc, hO, hBp, hBv, hBM, hBs⟩
    refine pwC_sound _ _ _ _ ?_
    refine pwC_cut fun K hK => ?_
    simp [e4, e7]
    refine (ptoken_c (hBv.sub hO.sub) (hBM.sub hO.sub) (hO.at hBp) (by omega) hi).mono ?_
    intro r s1 hr
    obtain ⟨x, i2, c2, rfl, rfl, hx⟩ : ∃ (x : Tk) (i2 : Nat) (c2 : Bool), r = .ret (encT x) ∧ s1 = s'.upd p (some (scB t i2 (.mp im) (strs .tight signsL) c2)) ∧ ((x.kind = 0 ∧ acc ++ [x] = allT t) ∨ (x.kind ≠ 0 ∧ i < i2 ∧ i2 ≤ t.size ∧ (acc ++ [x]) ++ toksF keysL signsL t (k - 1) i2 c2 = allT t)) := by
     obtain ⟨hb1, hb2⟩ := bef_in c hi
     obtain ⟨k', rfl⟩ : ∃ k', k = k' + 1 := ⟨k - 1, by omega⟩
     rw [toksF_succ] at hall
     unfold restF at hall
     by_cases hend : (bef t i c).1 = t.size
     ·rw [if_pos hend] at hr hall
      exact ⟨_, _, _, hr.1, hr.2, .inl ⟨rfl, hall⟩⟩
     ·rw [if_neg hend] at hr hall
      have hin := tokE_in keysL signsL (bef t i c).2 (t := t) (i := (bef t i c).1) (by omega)
      exact ⟨_, _, _, hr.1, hr.2, .inr ⟨fun q => tokE_kd _ _ (Int.natCast_eq_zero.1 q), by omega, hin.2, by simpa using hall⟩⟩
    clear hr hall
    simp
    intro i8 h80 hp8 h8
    refine hK _ _ ?_
    clear hK K
    have hO2 := (hO.upd (k := p) (x := some (scB t i2 (.mp im) (strs .tight signsL) c2)) (.inr (by rw [hBp]; simp))).upd (k := i8) (x := some (.row 32 4 [encTC x])) (.inl (by rw [St.upd_ne _ _ (fun q => hp8 q.symm)]; exact h8))
    generalize hσ1 : St.upd (St.upd s' _ _) _ _ = σ1 at hO2 ⊢
    have h8B : Fresh B i8 := hO.sub.fresh h8
    have hp8' : ¬ i8 = p := fun q => hp8 q.symm
    have h8v := hBv.fresh h8B
    have hpv := hBv.ne hBp
    generalize hB1 : St.upd (St.upd B _ _) _ _ = B1 at hO2
    have hB1p : B1 p = some (scB t i2 (.mp im) (strs .tight signsL) c2) := by rw [← hB1, St.upd_ne _ _ hp8]; simp
    have hB18 : B1 i8 = some (.row 32 4 [encTC x]) := by rw [← hB1]; simp
    have hB1v : Vars B1 := by rw [← hB1]; exact (hBv.upd hpv.1 hpv.2).upd h8v.1 h8v.2
    have hB1m : KeyMap B1 (.mp im) := by rw [← hB1]; exact (hBM.upd hBp).sub (sub_refl.upd_of (by rw [St.upd_ne _ _ hp8']; exact h8B))
    have hB1s : s.sub B1 := by rw [← hB1]; exact (hBs.upd_of hps).upd_of (hBs.fresh h8B)
    clear hB1 hσ1
    have j8 := hO2.at hB18
    generalize hE : Env.put _ _ _ = E1
    have f4 : E1 4 = .pt p 0 0 := by rw [← hE]; simp [e4]
    have f7 : E1 7 = v := by rw [← hE]; simp [e7]
    have f8 : E1 8 = .pt i8 0 0 := by rw [← hE]; simp
    clear hE e4 e7
    refine pwC_cut fun K hK => ?_
    simp [f4, f7, f8, j8]
    refine appOwn (b := 48) (z := .agg #[.int .i64 0, .string ⟨#[]⟩, .string ⟨#[]⟩, .int .i64 0]) (ys := [encTC x]) hO2 (by simp) (by simp) (by simp) (by simp) rfl (by omega) (by simp) (fun s => by simp [elemsOf]) (by simp; omega) (fun v1 s2 hO3 => ?_)
    have k8 := hO3.at hB18
    refine hK _ _ ?_
    clear hK K
    generalize hE : Env.put _ _ _ = E2
    have g4 : E2 4 = .pt p 0 0 := by rw [← hE]; simp [f4]
    have g7 : E2 7 = v1 := by rw [← hE]; simp
    have g8 : E2 8 = .pt i8 0 0 := by rw [← hE]; simp [f8]
    clear hE f4 f7 f8 E1
    obtain ⟨j9, hv1⟩ : ∃ j9, v1 = .sl j9 4 0 (acc.length + 1) := by
     rcases hO3 with ⟨q, _⟩ | ⟨_, j9, _, q, _⟩
     ·simp at q
     ·exact ⟨j9, by rw [q]; simp⟩
    subst hv1
    have hacx : (acc ++ [x]).length = acc.length + 1 := by simp
    by_cases hbig : 40000 ≤ acc.length
    ·have hbig' : (40000 : Int) < (acc.length : Int) + 1 := by omega
     have hall : 40000 < (allT t).length := by
      rcases hx with ⟨_, q⟩ | ⟨_, _, _, q⟩ <;> rw [← q] <;> simp <;> omega
     simp [g4, g7, g8, hbig, hbig', hall, k8]
     exact ⟨s, hB1s.trans hO3.sub, sub_refl⟩
    have hbig' : ¬ (40000 : Int) < (acc.length : Int) + 1 := by omega
    rcases hx with ⟨hk0, hall⟩ | ⟨hk0, hi1, hi2, hall⟩
    ·have hlen : ¬ 40000 < (allT t).length := by rw [← hall, hacx]; omega
     simp [g4, g7, g8, hbig, hbig', hlen, h1, hk0, k8]
     obtain ⟨s3, q1, q2⟩ := hO3.shrink hB1s
     exact ⟨_, sub_refl, s3, q1, by rw [← hall]; simpa using q2⟩
    ·simp [g4, g7, g8, hbig, hbig', hk0, k8]
     exact ⟨t.size + 1 - i2, by omega, B1, i2, k - 1, c2, acc ++ [x], _, hi2, rfl, by omega, by simp [g4], rfl, hall, by omega, by simpa [g7] using hO3, hB1p, hB1v, hB1m, hB1s⟩
 ·rintro p s' ⟨s2, q1, q2⟩
  split at q2
  ·obtain ⟨rfl, q3⟩ := q2
   cases q3
   exact ⟨_, _, Conv.sub q1 _, rfl, by rw [if_pos (by assumption)]⟩
  ·obtain ⟨v, q3, q4⟩ := q2
   cases q3
   exact ⟨_, _, (Conv.sub q1 _).trans (Conv.ownTup q4 (xs := (allT t).map encT) (by simp) [] [.lit (.int .i64 0)] (by simp) (by simp [plainP])), rfl, by rw [if_neg (by assumption)]; rfl⟩
 ·rintro c s' ⟨s2, q1, q2⟩
  split at q2
  ·cases q2.2
  ·obtain ⟨v, q3, _⟩ := q2
   cases q3
end Go.Pv

namespace Go.Pv
open Go.Proofs
set_option linter.unusedVariables false
set_option linter.unusedSimpArgs false
set_option maxRecDepth 100000
set_option maxHeartbeats 4000000
def parseF (n : Nat) : Nat → Cx → Nat → Out (List Nd)
 | 0, c, at_ => if at_ < c.v.length then .fuel else .ok [] at_
 | m + 1, c, at_ => if at_ < c.v.length then (match c.itemS n at_ with
  | .fuel => .fuel
  | .bad => .bad
  | .ok x j => (match parseF n m (c.after x) j with
   | .fuel => .fuel
   | .bad => .bad
   | .ok l e => .ok (x :: l) e)) else .ok [] at_
theorem itemG_nb {c : Cx} {p : NT → Nat → Out Nd} {n i : Nat} : ∀ m, c.itemG p n m i ≠ .bad
 | 0 => by unfold Cx.itemG; simp
 | m + 1 => by
  unfold Cx.itemG
  split
  ·simp
  ·exact itemG_nb m
  ·split <;> simp
theorem after_ty (c : Cx) (x : Nd) : ∃ T, c.after x = { c with ty := T } := by
 unfold Cx.after
 split
 ·split
  ·exact ⟨_, rfl⟩
  ·exact ⟨c.ty, rfl⟩
 ·exact ⟨c.ty, rfl⟩
theorem after_v (c : Cx) (x : Nd) : (c.after x).v = c.v := by obtain ⟨T, h⟩ := after_ty c x; rw [h]
theorem ok_ty {c : Cx} (h : c.ok) (T : List ByteArray) : ({ c with ty := T } : Cx).ok := ⟨h.v, h.l, h.vl, h.tx, h.en, h.gl, h.mp⟩
theorem parseF_nb {n : Nat} : ∀ (m : Nat) (c : Cx) (at_ : Nat), parseF n m c at_ ≠ .bad
 | 0, c, at_ => by unfold parseF; split <;> simp
 | m + 1, c, at_ => by
  unfold parseF
  split
  ·split
   ·simp
   ·rename_i h; exact absurd h (itemG_nb 6)
   ·rename_i x j h
    have := parseF_nb (n := n) m (c.after x) j
    split
    ·simp
    ·rename_i h2; exact absurd h2 this
    ·simp
  ·simp
theorem parseF_fuel {n : Nat} : ∀ (m : Nat) (c : Cx), c.ok → ∀ (at_ : Nat) (k : Nat), c.v.length - at_ ≤ m → c.v.length - at_ ≤ k → parseF n m c at_ = parseF n k c at_
 | 0, c, hc, at_, 0, _, _ => rfl
 | 0, c, hc, at_, k + 1, h1, _ => by unfold parseF; rw [if_neg (by omega), if_neg (by omega)]
 | m + 1, c, hc, at_, 0, _, h2 => by unfold parseF; rw [if_neg (by omega), if_neg (by omega)]
 | m + 1, c, hc, at_, k + 1, h1, h2 => by
  unfold parseF
  by_cases h : at_ < c.v.length
  ·rw [if_pos h, if_pos h]
   cases hi : c.itemS n at_ with
   | fuel => rfl
   | bad => rfl
   | ok x j =>
    have hz := item_sz (n := n) hc h 6 x j hi
    obtain ⟨T, hT⟩ := after_ty c x
    have hok : (c.after x).ok := by rw [hT]; exact ok_ty hc T
    have hv : (c.after x).v.length = c.v.length := by rw [after_v]
    show (match parseF n m (c.after x) j with | .fuel => Out.fuel | .bad => .bad | .ok l e => .ok (x :: l) e) = (match parseF n k (c.after x) j with | .fuel => Out.fuel | .bad => .bad | .ok l e => .ok (x :: l) e)
    rw [parseF_fuel m (c.after x) hok j k (by omega) (by omega)]
  ·rw [if_neg h, if_neg h]
theorem parseF_step {n : Nat} {c : Cx} (hc : c.ok) {at_ : Nat} (h : at_ < c.v.length) {L : List Nd} {e : Nat} (hp : parseF n (c.v.length - at_) c at_ = .ok L e) : ∃ x j L', c.itemS n at_ = .ok x j ∧ L = x :: L' ∧ parseF n (c.v.length - j) (c.after x) j = .ok L' e := by
 rw [show c.v.length - at_ = (c.v.length - at_ - 1) + 1 by omega] at hp
 unfold parseF at hp
 rw [if_pos h] at hp
 cases hi : c.itemS n at_ with
 | fuel => rw [hi] at hp; cases hp
 | bad => rw [hi] at hp; cases hp
 | ok x j =>
  rw [hi] at hp
  have hz := item_sz (n := n) hc h 6 x j hi
  obtain ⟨T, hT⟩ := after_ty c x
  have hok : (c.after x).ok := by rw [hT]; exact ok_ty hc T
  have hv : (c.after x).v.length = c.v.length := by rw [after_v]
  cases hq : parseF n (c.v.length - at_ - 1) (c.after x) j with
  | fuel => simp only [hq] at hp; cases hp
  | bad => simp only [hq] at hp; cases hp
  | ok l e' =>
   simp only [hq] at hp
   cases hp
   exact ⟨x, j, l, rfl, rfl, by rw [← hq, ← hv]; exact parseF_fuel _ _ hok _ _ (by omega) (by omega)⟩
theorem parseF_end {n : Nat} {c : Cx} {at_ : Nat} (h : ¬ at_ < c.v.length) {L : List Nd} {e : Nat} {m : Nat} (hp : parseF n m c at_ = .ok L e) : L = [] ∧ e = at_ := by
 cases m with
 | zero => unfold parseF at hp; rw [if_neg h] at hp; cases hp; exact ⟨rfl, rfl⟩
 | succ m => unfold parseF at hp; rw [if_neg h] at hp; cases hp; exact ⟨rfl, rfl⟩
theorem known_cons {c : Cx} {y u : ByteArray} : ({ c with ty := y :: c.ty } : Cx).known u = (decide (y = u) || c.known u) := rfl
theorem env_after {c : Cx} {s : St} {t y : Nd} {x : Nd} {es : List (ByteArray × PV)} (he : c.env s) (h5 : x.op = 5) (hl : x.l = [t, y]) (hs : s c.it = some (.dict es)) {s' : St} (h' : s' c.it = some (.dict (dset es y.s (.lit (.bool true))))) : (c.after x).env s' := by
 obtain ⟨es', h1, h2⟩ := he
 rw [hs] at h1
 cases h1
 have ha : c.after x = { c with ty := y.s :: c.ty } := by unfold Cx.after; rw [if_pos h5, hl]; rfl
 rw [ha]
 refine ⟨_, h', fun u => ?_⟩
 rw [dget_dset, known_cons]
 by_cases hu : u = y.s
 ·subst hu
  simp
 ·rw [if_neg hu, h2 u]
  have hu' : decide (y.s = u) = false := decide_eq_false fun e => hu e.symm
  rw [hu', Bool.false_or]
theorem sc_item {imp : List Nat} {args : List SV} {st : SS} {b : St} {K : SV → SS → St → Prop} {Kp : List PanicEntry → SS → St → Prop} {c : Cx} {n at_ ir : Nat} {k : Int} {x : Nd} {j : Nat} (hc : c.ok) (hn9 : n ≤ 1000000000) (h0 : at_ < c.v.length) (hi : c.itemS n at_ = .ok x j) (he : c.env b) (hs : b ir = some (rdRow c (at_ : Nat) k)) (ha : args = [.av (.pv (.pt ir 0 0))])
  (hK : ∀ k' b', (c.after x).env b' → b' ir = some (rdRow c (j : Nat) k') → (∀ z y, z ≠ ir → z ≠ c.it → b z = some y → b' z = some y) → K (.av (.pv (encU x))) st b') : SC Tryz.prog imp 70 args st b K Kp := by
 intro σ s qs hR hA
 subst ha
 have hq : qs = [.pt ir 0 0] := pvs_rel (ps := [.pt ir 0 0]) rfl hA
 subst hq
 have hes := he
 obtain ⟨es0, g1, g2⟩ := hes
 have hne : c.it ≠ ir := fun e => by rw [e, hs] at g1; cases g1
 refine (item_c hc hn9 h0 (by rw [hi]; simp) (he.sub hR.sub) (hR.sub _ _ hs)).mono ?_
 rintro r s' ⟨x', j', k', ho, rfl, hh⟩
 rw [hi] at ho
 cases ho
 have r1 := srel_upd (x := rdRow c (j : Nat) k') hs hR
 rcases hh with ⟨h5, rfl⟩ | ⟨h5, t, y, es, hl, hs', rfl⟩
 ·refine ⟨σ, st, _, .av (.pv (encU x)), .refl, r1, Or.inr rfl, hK k' _ ?_ (St.upd_same _ _ _) (fun z y hz _ hy => by rw [St.upd_ne _ _ hz]; exact hy)⟩
  have ha : c.after x = c := by unfold Cx.after; rw [if_neg h5]
  rw [ha]
  exact ⟨es0, by rw [St.upd_ne _ _ hne]; exact g1, g2⟩
 ·have hbe : b c.it = some (.dict es) := by have := hR.sub _ _ g1; rw [hs'] at this; cases this; exact g1
  have r2 := srel_upd (x := .dict (dset es y.s (.lit (.bool true)))) (show (b.upd ir (some (rdRow c (j : Nat) k'))) c.it = some (.dict es) by rw [St.upd_ne _ _ hne]; exact hbe) r1
  refine ⟨σ, st, _, .av (.pv (encU x)), .refl, r2, Or.inr rfl, hK k' _ (env_after he h5 hl hbe (St.upd_same _ _ _)) (by rw [St.upd_ne _ _ (Ne.symm hne), St.upd_same]) (fun z y hz hz2 hy => by rw [St.upd_ne _ _ hz2, St.upd_ne _ _ hz]; exact hy)⟩
end Go.Pv

namespace Go.Pv
open Go.Proofs
set_option linter.unusedVariables false
set_option linter.unusedSimpArgs false
set_option maxRecDepth 100000
set_option maxHeartbeats 1000000
structure EqC (c c' : Cx) : Prop where
 v : c.v = c'.v
 g : c.g = c'.g
 en : c.en = c'.en
 ty : c.ty = c'.ty
 kind : Cx.kind c = Cx.kind c'
 text : Cx.text c = Cx.text c'
namespace EqC
section
variable {c c' : Cx} (E : EqC c c')
include E
theorem is : Cx.is c = Cx.is c' := by
 funext i u
 show ((decide (c.kind i = 6) || decide (c.kind i = 2)) && decide (c.text i = u)) = _
 rw [E.kind, E.text]; rfl
theorem sg : Cx.sg c = Cx.sg c' := by
 funext i u
 show (decide (c.kind i = 6) && decide (c.text i = u)) = _
 rw [E.kind, E.text]; rfl
theorem place : Cx.place c = Cx.place c' := by funext i; unfold Cx.place; rw [E.v, E.en]
theorem behind : Cx.behind c = Cx.behind c' := by funext i; cases i with | zero => unfold Cx.behind; rw [E.place] | succ i => unfold Cx.behind; rw [E.v]
theorem idx : Cx.idx c = Cx.idx c' := by
 funext i l
 induction l with
 | nil => rfl
 | cons u r ih => funext k; simp only [Cx.idx, E.is, ih]
theorem among : Cx.among c = Cx.among c' := by funext i l; unfold Cx.among; rw [E.idx]
theorem known : Cx.known c = Cx.known c' := by funext u; unfold Cx.known; rw [E.ty]
theorem skip : Cx.skip c = Cx.skip c' := by funext p i; unfold Cx.skip; rw [E.v]
theorem first : Cx.first c = Cx.first c' := by funext p i; unfold Cx.first; rw [E.is]
theorem nodeN : Cx.nodeN c = Cx.nodeN c' := by funext op u fr i l; unfold Cx.nodeN; simp only [E.behind, E.place]
theorem want : @Cx.want c = @Cx.want c' := by funext i u α f; unfold Cx.want; rw [E.is]
theorem eat : Cx.eat c = Cx.eat c' := by funext i u; unfold Cx.eat; rw [E.is]
theorem quals : Cx.quals c = Cx.quals c' := by funext i; simp only [Cx.quals, E.skip, E.among]
theorem wordsF : Cx.wordsF c = Cx.wordsF c' := by
 funext l n
 induction n with
 | zero => rfl
 | succ n ih => funext i a; simp only [Cx.wordsF, E.among, E.text, ih]
theorem words : Cx.words c = Cx.words c' := by funext l i; simp only [Cx.words, E.wordsF, E.v]
theorem typed : Cx.typed c = Cx.typed c' := by funext i; simp only [Cx.typed, E.known, E.text, E.kind, E.skip, E.sg]
theorem casted : Cx.casted c = Cx.casted c' := by funext i; simp only [Cx.casted, E.known, E.text, E.skip, E.sg]
theorem nm : Cx.nm c = Cx.nm c' := by funext m i; cases m <;> simp only [Cx.nm, E.typed, E.casted]
theorem begins : Cx.begins c = Cx.begins c' := by funext m i; simp only [Cx.begins, E.among, E.kind, E.nm]
theorem base : Cx.base c = Cx.base c' := by funext m i; simp only [Cx.base, E.quals, E.among, E.kind, E.text, E.words, E.nm]
theorem starsF : Cx.starsF c = Cx.starsF c' := by
 funext n
 induction n with
 | zero => rfl
 | succ n ih => funext i k; simp only [Cx.starsF, E.is, E.quals, ih]
theorem stars : Cx.stars c = Cx.stars c' := by funext i; simp only [Cx.stars, E.starsF, E.v]
theorem starred : Cx.starred c = Cx.starred c' := by funext m i; simp only [Cx.starred, E.base, E.nodeN, E.place, E.stars]
theorem simple : Cx.simple c = Cx.simple c' := by funext m i; simp only [Cx.simple, E.base, E.nodeN, E.place]
theorem ahead : Cx.ahead c = Cx.ahead c' := by funext i; simp only [Cx.ahead, E.is, E.begins]
theorem guessed : Cx.guessed c = Cx.guessed c' := by funext i; simp only [Cx.guessed, E.kind, E.g]
theorem strsF : Cx.strsF c = Cx.strsF c' := by
 funext n
 induction n with
 | zero => rfl
 | succ n ih => funext i a; simp only [Cx.strsF, E.kind, E.text, ih]
theorem commas : Cx.commas c = Cx.commas c' := by
 funext p n
 induction n with
 | zero => rfl
 | succ n ih => funext a i; simp only [Cx.commas, E.is, ih]
theorem partN : Cx.partN c = Cx.partN c' := by funext op fr i l; cases l <;> simp only [Cx.partN, E.nodeN]
theorem exprS : Cx.exprS c = Cx.exprS c' := by funext p n i; simp only [Cx.exprS, E.is, E.commas, E.nodeN, E.place]
theorem assignS : Cx.assignS c = Cx.assignS c' := by funext p i; simp only [Cx.assignS, E.first, E.nodeN, E.place]
theorem choiceS : Cx.choiceS c = Cx.choiceS c' := by funext p i; simp only [Cx.choiceS, E.is, E.want, E.nodeN, E.place]
theorem binF : Cx.binF c = Cx.binF c' := by
 funext p k fr n
 induction n with
 | zero => rfl
 | succ n ih => funext x i; simp only [Cx.binF, E.first, E.nodeN, ih]
theorem binaryS : Cx.binaryS c = Cx.binaryS c' := by funext p n k i; simp only [Cx.binaryS, E.binF, E.place]
theorem castS : Cx.castS c = Cx.castS c' := by funext p i; simp only [Cx.castS, E.ahead, E.starred, E.want, E.nodeN, E.place]
theorem unaryS : Cx.unaryS c = Cx.unaryS c' := by funext p i; simp only [Cx.unaryS, E.is, E.ahead, E.starred, E.want, E.first, E.nodeN, E.place]
theorem primaryS : Cx.primaryS c = Cx.primaryS c' := by funext p i; simp only [Cx.primaryS, E.kind, E.text, E.strsF, E.v, E.want, E.nodeN, E.place]
theorem postF : Cx.postF c = Cx.postF c' := by
 funext p fr n
 induction n with
 | zero => rfl
 | succ n ih => funext x i; simp only [Cx.postF, E.is, E.among, E.kind, E.text, E.want, E.nodeN, ih]
theorem postS : Cx.postS c = Cx.postS c' := by funext p n i; simp only [Cx.postS, E.postF, E.place]
theorem argsS : Cx.argsS c = Cx.argsS c' := by funext p n f fr i; simp only [Cx.argsS, E.is, E.want, E.commas, E.nodeN]
theorem sizesF : Cx.sizesF c = Cx.sizesF c' := by
 funext p n
 induction n with
 | zero => rfl
 | succ n ih => funext a i; simp only [Cx.sizesF, E.is, E.want, E.nodeN, E.place, ih]
theorem initialS : Cx.initialS c = Cx.initialS c' := by funext p i; simp only [Cx.initialS, E.nodeN, E.place]
theorem valueF : Cx.valueF c = Cx.valueF c' := by
 funext p n
 induction n with
 | zero => rfl
 | succ n ih => funext a i; simp only [Cx.valueF, E.is, ih]
theorem valueS : Cx.valueS c = Cx.valueS c' := by funext p n i; simp only [Cx.valueS, E.is, E.valueF, E.want, E.nodeN, E.place]
theorem dclrS : Cx.dclrS c = Cx.dclrS c' := by funext p b i; simp only [Cx.dclrS, E.is, E.skip, E.kind, E.text, E.nodeN, E.place]
theorem dclrsS : Cx.dclrsS c = Cx.dclrsS c' := by funext p n b i; simp only [Cx.dclrsS, E.commas, E.want]
theorem declS : Cx.declS c = Cx.declS c' := by funext p m i; simp only [Cx.declS, E.simple, E.words, E.nodeN, E.place]
theorem nestedS : Cx.nestedS c = Cx.nestedS c' := by funext p i; simp only [Cx.nestedS, E.want]
theorem usedS : Cx.usedS c = Cx.usedS c' := by funext p b i; simp only [Cx.usedS, E.kind, E.is, E.text, E.nodeN, E.place]
theorem markedS : Cx.markedS c = Cx.markedS c' := by funext p i; simp only [Cx.markedS, E.is, E.place]
theorem blockF : Cx.blockF c = Cx.blockF c' := by
 funext p n
 induction n with
 | zero => rfl
 | succ n ih => funext a i; simp only [Cx.blockF, E.is, ih]
theorem blockS : Cx.blockS c = Cx.blockS c' := by funext p n i; simp only [Cx.blockS, E.blockF, E.want, E.nodeN, E.place]
theorem perhaps : Cx.perhaps c = Cx.perhaps c' := by funext p u i; simp only [Cx.perhaps, E.is]
theorem loopS : Cx.loopS c = Cx.loopS c' := by funext p fr i; simp only [Cx.loopS, E.want, E.among, E.begins, E.nodeN, E.place, E.perhaps, E.partN]
theorem otherS : Cx.otherS c = Cx.otherS c' := by funext p fr i; simp only [Cx.otherS, E.kind, E.sg, E.text, E.nodeN, E.guessed, E.among, E.begins, E.want]
theorem statS : Cx.statS c = Cx.statS c' := by funext p i; simp only [Cx.statS, E.kind, E.text, E.is, E.want, E.nodeN, E.place]
theorem step : Cx.step c = Cx.step c' := by
 funext p n Y
 cases Y <;> simp only [Cx.step, E.exprS, E.assignS, E.choiceS, E.binaryS, E.castS, E.unaryS, E.postS, E.primaryS, E.valueS, E.initialS, E.sizesF, E.argsS, E.dclrS, E.dclrsS, E.declS, E.statS, E.blockS, E.otherS, E.loopS, E.markedS, E.nestedS, E.usedS]
theorem run : Cx.run c = Cx.run c' := by
 funext n
 induction n with
 | zero => rfl
 | succ n ih => simp only [Cx.run, E.step, ih]
theorem typedefS : Cx.typedefS c = Cx.typedefS c' := by funext p i; simp only [Cx.typedefS, E.want, E.simple, E.nodeN, E.place]
theorem fieldsF : Cx.fieldsF c = Cx.fieldsF c' := by
 funext p n
 induction n with
 | zero => rfl
 | succ n ih => funext a i; simp only [Cx.fieldsF, E.is, E.simple, E.nodeN, E.place, ih]
theorem structS : Cx.structS c = Cx.structS c' := by funext p n i; simp only [Cx.structS, E.want, E.kind, E.fieldsF, E.nodeN, E.text, E.place]
theorem paramS : Cx.paramS c = Cx.paramS c' := by funext p i; simp only [Cx.paramS, E.starred, E.kind, E.nodeN, E.text, E.place]
theorem paramsF : Cx.paramsF c = Cx.paramsF c' := by
 funext p n
 induction n with
 | zero => rfl
 | succ n ih => funext a i; simp only [Cx.paramsF, E.is, E.paramS, ih]
theorem paramsS : Cx.paramsS c = Cx.paramsS c' := by funext p n i; simp only [Cx.paramsS, E.is, E.sg, E.paramsF]
theorem funcS : Cx.funcS c = Cx.funcS c' := by funext p n i; simp only [Cx.funcS, E.starred, E.words, E.kind, E.want, E.paramsS, E.is, E.nodeN, E.text, E.place]
theorem declarerS : Cx.declarerS c = Cx.declarerS c' := by funext p i; simp only [Cx.declarerS, E.g, E.nodeN, E.place, E.eat]
theorem emptyS : Cx.emptyS c = Cx.emptyS c' := by funext i; simp only [Cx.emptyS, E.want, E.nodeN, E.place]
theorem rawF : Cx.rawF c = Cx.rawF c' := by
 funext n
 induction n with
 | zero => rfl
 | succ n ih => funext j o; simp only [Cx.rawF, E.v, E.kind, E.text, E.eat, ih]
theorem rawE : Cx.rawE c = Cx.rawE c' := by funext i; simp only [Cx.rawE, E.rawF, E.v]
theorem rawN : Cx.rawN c = Cx.rawN c' := by funext i; simp only [Cx.rawN, E.nodeN, E.place, E.rawE]
theorem altF : Cx.altF c = Cx.altF c' := by
 funext p n q i
 match q with
 | 0 => simp only [Cx.altF, E.typedefS]
 | 1 => simp only [Cx.altF, E.structS]
 | 2 => simp only [Cx.altF, E.funcS]
 | 3 => simp only [Cx.altF]
 | 4 => simp only [Cx.altF, E.declarerS]
 | _ + 5 => simp only [Cx.altF, E.emptyS]
theorem itemG : Cx.itemG c = Cx.itemG c' := by
 funext p n m
 induction m with
 | zero => funext i; simp only [Cx.itemG, E.rawN, E.rawE]
 | succ m ih => funext i; simp only [Cx.itemG, E.altF, E.rawN, E.rawE, ih]
theorem itemS : Cx.itemS c = Cx.itemS c' := by funext n i; simp only [Cx.itemS, E.itemG, E.run]
theorem addT (T : ByteArray) : EqC { c with ty := T :: c.ty } { c' with ty := T :: c'.ty } := ⟨E.v, E.g, E.en, by show T :: c.ty = T :: c'.ty; rw [E.ty], E.kind, E.text⟩
theorem after (x : Nd) : EqC (c.after x) (c'.after x) := by
 unfold Cx.after
 split
 ·split
  ·exact E.addT _
  ·exact E
 ·exact E
end
theorem parse {n : Nat} : ∀ (m : Nat) {c c' : Cx} (E : EqC c c') (i : Nat), parseF n m c i = parseF n m c' i
 | 0, c, c', E, i => by unfold parseF; rw [E.v]
 | m + 1, c, c', E, i => by
  unfold parseF
  rw [E.v, E.itemS]
  split
  ·cases c'.itemS n i with
   | fuel => rfl
   | bad => rfl
   | ok x j => simp only [parse m (E.after x) j]
  ·rfl
end EqC
end Go.Pv

namespace Go.Pv
open Go.Proofs
set_option linter.unusedVariables false
set_option linter.unusedSimpArgs false
def Sm (a b : Tk) : Prop := a.kind = b.kind ∧ a.text = b.text
theorem Sm.isS {a b : Tk} (h : Sm a b) (u : ByteArray) : isS a u = isS b u := by unfold Pv.isS; rw [h.1, h.2]
theorem Sm.among {a b : Tk} (h : Sm a b) (u : List ByteArray) : amongB a u = amongB b u := by unfold amongB; rw [h.1, h.2]
theorem Sm.type {a b : Tk} (h : Sm a b) : typeB a = typeB b := by unfold typeB; rw [h.1, h.among]
def SmA (x y : Arnd) : Prop := x.name = y.name ∧ x.call = y.call ∧ Sm x.last y.last ∧ Sm x.next y.next ∧ x.first = y.first ∧ x.outer = y.outer
theorem SmA.guess {x y : Arnd} (h : SmA x y) : guessA x = guessA y := by
 obtain ⟨h1, h2, h3, h4, h5, h6⟩ := h
 unfold guessA loopB declB stmtB attrB keyB
 rw [h1, h2, h5, h6, h4.1, h3.1]
 simp only [h3.among, h4.among, h4.type]
def SmV (l : List Tk) (v : List Int) (l' : List Tk) (v' : List Int) : Prop := v.length = v'.length ∧ ∀ i, (seenT l v i).2 = (seenT l' v' i).2 ∧ Sm (seenT l v i).1 (seenT l' v' i).1
section
variable {l l' : List Tk} {v v' : List Int}
theorem SmV.callF (h : SmV l v l' v') (k : Nat) : ∀ (n i : Nat) (d : Int), callF l v k n i d = callF l' v' k n i d
 | 0, _, _ => rfl
 | n + 1, i, d => by
  have hd : deepT (seenT l v i).1 d = deepT (seenT l' v' i).1 d := by unfold deepT; rw [(h.2 i).2.isS, (h.2 i).2.isS]
  unfold Pv.callF
  rw [hd, h.callF k n]
theorem SmV.callT (h : SmV l v l' v') (k : Nat) : callT l v k = callT l' v' k := by
 unfold Pv.callT
 rw [(h.2 _).1, (h.2 _).2.isS, h.1, h.callF]
theorem SmV.depth (h : SmV l v l' v') : ∀ i, depthF l v i = depthF l' v' i
 | 0 => rfl
 | i + 1 => by unfold depthF; rw [(h.2 _).2.isS, (h.2 _).2.isS, h.depth i]
theorem SmV.guess (h : SmV l v l' v') (k : Nat) : guessT l v k = guessT l' v' k := by
 unfold guessT arndT
 refine SmA.guess ⟨(h.2 _).2.2, by rw [h.callT], (h.2 _).2, by rw [h.callT]; exact (h.2 _).2, by rw [(h.2 _).1], by rw [h.depth]⟩
theorem seenAt_T {i : Int} : seenT l v i = match seenAt l v i with | some t => (t, true) | none => (zeroT, false) := rfl
end
def wB (c : ByteArray) (t : Tk) : Tk := ⟨t.kind, c, t.text, t.at_⟩
def plainL (c : ByteArray) (l : List Tk) (v : List Int) : List Tk := v.map fun p => wB c (l.getD p.toNat zeroT)
def placesL (n : Nat) : List Int := List.map (fun i : Nat => (i : Int)) (List.range n)
theorem places_asc (n : Nat) : AscV n (placesL n) := by
 refine ⟨fun p hp => ?_, fun i p q h1 h2 => ?_⟩
 ·obtain ⟨j, hj, rfl⟩ := List.mem_map.1 hp
  rw [List.mem_range] at hj
  omega
 ·unfold placesL at h1 h2
  rw [List.getElem?_map] at h1 h2
  obtain ⟨a, ha, rfl⟩ := Option.map_eq_some_iff.1 h1
  obtain ⟨b, hb, rfl⟩ := Option.map_eq_some_iff.1 h2
  have e1 := (List.getElem?_eq_some_iff.1 ha)
  have e2 := (List.getElem?_eq_some_iff.1 hb)
  obtain ⟨_, e1⟩ := e1
  obtain ⟨_, e2⟩ := e2
  rw [List.getElem_range] at e1 e2
  omega
end Go.Pv

namespace Go.Pv
open Go.Proofs
set_option linter.unusedVariables false
set_option linter.unusedSimpArgs false
set_option maxRecDepth 100000
set_option maxHeartbeats 4000000
def fileN (c : Cx) (L : List Nd) (e : Nat) : Nd := c.nodeN 1 ⟨#[]⟩ (c.place 0) e L
def PRes (c : Cx) (n : Nat) (r : Res) : Prop := ∃ L e, parseF n c.v.length c 0 = .ok L e ∧ ((100000 < (fileN c L e).size ∧ r = .ret (.tup [zeroN, .lit (.int .i64 2)])) ∨ (¬ 100000 < (fileN c L e).size ∧ r = .ret (.tup [encU (fileN c L e), .lit (.int .i64 0)])))
@[reducible] def penv (ir : Nat) (p : Int) (o : SV) : SE := [(4, .av (.cell 0 0)), (6, .av (.pv (.pt ir 0 0))), (8, intV p), (9, o)]
theorem Parse_c (kk kv : VK) (l : List Tk) (v : List Int) (n : Nat) (hn9 : n ≤ 1000000000) (hv : SiteV l v) (hll : l.length ≤ 1000000000) (hx : ∀ t ∈ l, t.text.size ≤ 1000000) (hl : v.length ≤ 1000000) (hf : ∀ k0 it, parseF n (seenL l v).length (cxOf kk k0 l v it) 0 ≠ .fuel) (s : St) : PCalls Tryz.prog 36 [toks kk l, ints kv v] s (fun r s' => s' = s ∧ ∃ k0 it, PRes (cxOf kk k0 l v it) n r) := by
 refine PCalls.funG (D := [(6, ([0, 1, 2, 4, 5, 6, 3, 7, 8, 9], [], []))]) ti_ok Tryz.func36 rfl (by kernel_rfl) ?_
 refine sc_new2 (ps := [toks kk l, ints kv v]) (R := fun r i j x y => ∃ k0 : VK, x = .dict [] ∧ y = rdRow (cxOf kk k0 l v i) 0 0 ∧ r = .tup [.pt j 0 0, .lit (.int .i64 0)]) rfl rfl (fun s2 _ => (begin_c kk kv l v hv hx hl s2).mono ?_) ?_
 ·rintro r s' ⟨k0, it, ir, h1, h2, rfl, rfl⟩
  exact ⟨_, it, ir, _, _, rfl, h1, h2, rfl, k0, rfl, rfl, rfl⟩
 rintro _ it ir _ _ h1 h2 ⟨k0, rfl, rfl, rfl⟩
 rintro (_ | _) h0
 ·exact absurd h0 (by decide)
 have hne : ir ≠ it := fun e => by subst e; rw [St.upd_same] at h2; cases h2
 have hsi : s ir = none := by rw [St.upd_ne _ _ hne] at h2; exact h2
 have hc : (cxOf kk k0 l v it).ok := cxOf_ok hv.asc hll hl hx
 have hfc := hf k0 it
 have hcv : (cxOf kk k0 l v it).v.length = (seenL l v).length := rfl
 have hcit : (cxOf kk k0 l v it).it = it := rfl
 have hcty : (cxOf kk k0 l v it).ty = [] := rfl
 have hvl := hc.vl
 obtain ⟨c, hcc⟩ : ∃ c, cxOf kk k0 l v it = c := ⟨_, rfl⟩
 obtain ⟨b, hb⟩ : ∃ b, (s.upd it (some (.dict []))).upd ir (some (rdRow (cxOf kk k0 l v it) 0 0)) = b := ⟨_, rfl⟩
 have hbr : b ir = some (rdRow c 0 0) := by rw [← hb, St.upd_same, hcc]
 have hbe : c.env b := by
  refine ⟨[], by rw [← hb, ← hcc, hcit, St.upd_ne _ _ (Ne.symm hne), St.upd_same], fun u => ?_⟩
  unfold Cx.known
  rw [← hcc, hcty]
  rfl
 have hsb : s.sub b := by rw [← hb]; exact (sub_refl.upd_of h1).upd_of hsi
 refine sc_eqb hb ?_
 rw [← hcv, hcc] at hfc
 rw [hcc] at hc hvl hcit
 have hres : ∀ r, PRes c n r → ∃ k0 it, PRes (cxOf kk k0 l v it) n r := fun r h => ⟨k0, it, by rw [hcc]; exact h⟩
 obtain ⟨L, e, hL⟩ : ∃ L e, parseF n c.v.length c 0 = .ok L e := by
  cases h : parseF n c.v.length c 0 with
  | fuel => exact absurd h hfc
  | bad => exact absurd h (parseF_nb _ _ _)
  | ok L e => exact ⟨L, e, rfl⟩
 refine sc_pure (ps := [.pt ir 0 0]) (v := .lit (.int .i64 (c.place 0 : Nat))) (fun s2 hs2 => place_c hc (by omega) s2 ir 0 (hbe.sub hs2) (hs2 _ _ hbr)) rfl rfl ?_
 refine sw_loop (D := [(6, ([0, 1, 2, 4, 5, 6, 3, 7, 8, 9], [], []))]) ti_ok (by kernel_rfl) (fun m env st b2 => ∃ (T : List ByteArray) (at_ : Nat) (k : Int) (X rest : List Nd), at_ + m = c.v.length ∧ ({ c with ty := T } : Cx).env b2 ∧ b2 ir = some (rdRow c (at_ : Nat) k) ∧ s.sub b2 ∧ parseF n (c.v.length - at_) { c with ty := T } at_ = .ok rest e ∧ X ++ rest = L ∧ X.length ≤ at_ ∧ (X.map Nd.size).sum ≤ 2 * at_ ∧ ((X = [] ∧ env = penv ir (c.place 0 : Nat) (.av (.pv (.vec .nil []))) ∧ st = [zLoc]) ∨ (X ≠ [] ∧ env = penv ir (c.place 0 : Nat) (.av (.own 1)) ∧ st = [zLoc, ownL X]))) c.v.length ⟨[0], [4, 6, 8, 9], rfl, c.ty, 0, 0, [], L, by omega, hbe, hbr, hsb, by rw [Nat.sub_zero]; exact hL, rfl, by simp, by simp, .inl ⟨rfl, rfl, rfl⟩⟩ ?_
 rintro m env st b2 ⟨T, at_, k, X, rest, hm, he, hr, hs, hp, hXL, hXl, hXs, hor⟩
 obtain ⟨C, hC⟩ : ∃ C : Cx, C = { c with ty := T } := ⟨_, rfl⟩
 have hCok : C.ok := by rw [hC]; exact ok_ty hc T
 have hCv : C.v = c.v := by rw [hC]
 have hCr : ∀ (a k : Int), rdRow C a k = rdRow c a k := fun a k => by rw [hC]
 have hCi : C.it = c.it := by rw [hC]
 rw [← hC] at he hp
 rw [← hCv] at hp
 have cl : ∀ (f : Nat) (x : PV), (rdCells c (at_ : Nat) k)[f]? = some x → cellsAt b2 (.pt ir 0 f) 1 = some [x] := fun f x hf => by
  simp only [cellsAt, hr]
  have hlt := (List.getElem?_eq_some_iff.1 hf).1
  simp only [List.getElem?_cons_zero]
  rw [if_pos (by omega)]
  congr 1
  rw [List.drop_eq_getElem_cons hlt, List.take_succ_cons, List.take_zero, (List.getElem?_eq_some_iff.1 hf).2]
 have loads : ∀ {K : PV → Prop}, True := fun {_} => trivial
 rcases hor with ⟨hX0, rfl, rfl⟩ | ⟨hX0, rfl, rfl⟩
 ·refine ⟨by kernel_rfl, ?_⟩
  refine ⟨_, _, cl 4 (.lit (.int .i64 (at_ : Nat))) rfl, rfl, ?_⟩
  refine ⟨_, _, cl 1 (natL c.kv c.v) rfl, rfl, ?_⟩
  rintro (_ | _) ht
  ·have hlt : ¬ at_ < C.v.length := by have := of_decide_eq_false ht; rw [List.length_map] at this; rw [hCv]; omega
   obtain ⟨hrest, hee⟩ := parseF_end hlt hp
   rw [hrest, List.append_nil] at hXL
   skip
   refine sc_out (ps := [.pt ir 0 0, .lit (.int .i64 1), .lit (.string ⟨#[]⟩), .lit (.int .i64 (c.place 0 : Nat)), .vec .nil (X.map encU)]) (R := fun r x => r = encU (fileN c L e) ∧ ∃ k', x = rdRow c (e : Nat) k') hr (by rw [hX0]; rfl) rfl (fun s2 hs2 => ?_) ?_
   ·rw [← hXL, hee]
    refine (node_c hCok (show at_ ≤ C.v.length by rw [hCv]; omega) 1 ⟨#[]⟩ (c.place 0) .nil X (X.map encU) (by simp) (by simp) s2 ir k (he.sub hs2) (by rw [hCr]; exact hs2 _ _ hr)).mono ?_
    rintro r s' ⟨k', rfl, rfl⟩
    refine ⟨_, _, rfl, rfl, ?_, k', by rw [hCr]⟩
    rw [hC]; rfl
   rintro _ x ⟨rfl, k', rfl⟩
   have hsz : (fileN c L e).size ≤ 100000000 := by
    rw [Nd.size_eq]
    show 1 + (L.map Nd.size).sum ≤ _
    rw [← hXL]; omega
   refine sc_pure (ps := [encU (fileN c L e)]) (v := .lit (.int .i64 ((fileN c L e).size : Nat))) (fun s2 _ => size_c _ hsz s2) rfl rfl ?_
   have hsf : s.sub (b2.upd ir (some (rdRow c (e : Nat) k'))) := fun z y hz => by rw [St.upd_ne _ _ (fun e => by subst e; rw [hsi] at hz; cases hz)]; exact hs z y hz
   rintro (_ | _) h9
   ·have h9 := of_decide_eq_false h9
    exact Gh.sub hsf (Gh.ret ⟨rfl, hres _ ⟨L, e, hL, .inr ⟨by omega, rfl⟩⟩⟩)
   ·have h9 := of_decide_eq_true h9
    exact Gh.sub hsf (Gh.ret ⟨rfl, hres _ ⟨L, e, hL, .inl ⟨by omega, rfl⟩⟩⟩)
  ·have hlt : at_ < C.v.length := by have := of_decide_eq_true ht; rw [List.length_map] at this; rw [hCv]; omega
   obtain ⟨x, j, rest', hi, hre, hp'⟩ := parseF_step hCok hlt hp
   have hz := item_sz (n := n) hCok hlt 6 x j hi
   rw [hCv] at hz
   obtain ⟨T', hT'⟩ := after_ty C x
   refine sc_item hCok hn9 hlt hi he (by rw [hCr]; exact hr) rfl (fun k' b' g1 g2 g3 => ?_)
   refine ⟨[encC x], rfl, (by simp), ?_⟩
   refine ⟨c.v.length - j, by omega, [0, 1], [4, 6, 8, 9], rfl, T', j, k', X ++ [x], rest', by omega, ?_, by rw [← hCr]; exact g2, ?_, ?_, by rw [List.append_assoc, ← hXL, hre]; rfl, by simp; omega, by rw [List.map_append, List.sum_append]; simp; omega, .inr ⟨by simp, rfl, ?_⟩⟩
   ·rw [hT'] at g1; rw [hC] at g1; exact g1
   ·intro z y hzy
    refine g3 z y (fun e => by subst e; rw [hsi] at hzy; cases hzy) (fun e => ?_) (hs z y hzy)
    rw [hCi, hcit] at e
    subst e
    rw [h1] at hzy; cases hzy
   ·rw [hT'] at hp'; rw [hCv] at hp'; rw [hC] at hp'; exact hp'
   ·subst hX0; rfl
 ·refine ⟨by kernel_rfl, ?_⟩
  refine ⟨_, _, cl 4 (.lit (.int .i64 (at_ : Nat))) rfl, rfl, ?_⟩
  refine ⟨_, _, cl 1 (natL c.kv c.v) rfl, rfl, ?_⟩
  rintro (_ | _) ht
  ·have hlt : ¬ at_ < C.v.length := by have := of_decide_eq_false ht; rw [List.length_map] at this; rw [hCv]; omega
   obtain ⟨hrest, hee⟩ := parseF_end hlt hp
   rw [hrest, List.append_nil] at hXL
   refine sc_own (n := 4) (k := 1) (X.map encU) rfl rfl (ownL_cells X) ?_
   refine sc_out (ps := [.pt ir 0 0, .lit (.int .i64 1), .lit (.string ⟨#[]⟩), .lit (.int .i64 (c.place 0 : Nat)), .vec .any (X.map encU)]) (R := fun r x => r = encU (fileN c L e) ∧ ∃ k', x = rdRow c (e : Nat) k') hr rfl rfl (fun s2 hs2 => ?_) ?_
   ·rw [← hXL, hee]
    refine (node_c hCok (show at_ ≤ C.v.length by rw [hCv]; omega) 1 ⟨#[]⟩ (c.place 0) .any X (X.map encU) (by simp) (by simp) s2 ir k (he.sub hs2) (by rw [hCr]; exact hs2 _ _ hr)).mono ?_
    rintro r s' ⟨k', rfl, rfl⟩
    refine ⟨_, _, rfl, rfl, ?_, k', by rw [hCr]⟩
    rw [hC]; rfl
   rintro _ x ⟨rfl, k', rfl⟩
   have hsz : (fileN c L e).size ≤ 100000000 := by
    rw [Nd.size_eq]
    show 1 + (L.map Nd.size).sum ≤ _
    rw [← hXL]; omega
   refine sc_pure (ps := [encU (fileN c L e)]) (v := .lit (.int .i64 ((fileN c L e).size : Nat))) (fun s2 _ => size_c _ hsz s2) rfl rfl ?_
   have hsf : s.sub (b2.upd ir (some (rdRow c (e : Nat) k'))) := fun z y hz => by rw [St.upd_ne _ _ (fun e => by subst e; rw [hsi] at hz; cases hz)]; exact hs z y hz
   rintro (_ | _) h9
   ·have h9 := of_decide_eq_false h9
    exact Gh.sub hsf (Gh.ret ⟨rfl, hres _ ⟨L, e, hL, .inr ⟨by omega, rfl⟩⟩⟩)
   ·have h9 := of_decide_eq_true h9
    exact Gh.sub hsf (Gh.ret ⟨rfl, hres _ ⟨L, e, hL, .inl ⟨by omega, rfl⟩⟩⟩)
  ·have hlt : at_ < C.v.length := by have := of_decide_eq_true ht; rw [List.length_map] at this; rw [hCv]; omega
   obtain ⟨x, j, rest', hi, hre, hp'⟩ := parseF_step hCok hlt hp
   have hz := item_sz (n := n) hCok hlt 6 x j hi
   rw [hCv] at hz
   obtain ⟨T', hT'⟩ := after_ty C x
   refine sc_item hCok hn9 hlt hi he (by rw [hCr]; exact hr) rfl (fun k' b' g1 g2 g3 => ?_)
   refine ⟨[encC x], rfl, (by rw [List.length_map]; show (2 * (_ + 1) + 1000) * 72 ≤ _; omega), ?_⟩
   refine ⟨c.v.length - j, by omega, [0, 2], [4, 6, 8, 9], rfl, T', j, k', X ++ [x], rest', by omega, ?_, by rw [← hCr]; exact g2, ?_, ?_, by rw [List.append_assoc, ← hXL, hre]; rfl, by simp; omega, by rw [List.map_append, List.sum_append]; simp; omega, .inr ⟨by simp, rfl, ?_⟩⟩
   ·rw [hT'] at g1; rw [hC] at g1; exact g1
   ·intro z y hzy
    refine g3 z y (fun e => by subst e; rw [hsi] at hzy; cases hzy) (fun e => ?_) (hs z y hzy)
    rw [hCi, hcit] at e
    subst e
    rw [h1] at hzy; cases hzy
   ·rw [hT'] at hp'; rw [hCv] at hp'; rw [hC] at hp'; exact hp'
   ·unfold ownL; rw [List.map_append]; rfl
end Go.Pv

namespace Go.Pv
open Go.Proofs
set_option linter.unusedVariables false
set_option linter.unusedSimpArgs false
set_option maxRecDepth 100000
set_option maxHeartbeats 1000000
theorem ckind0_c (x : Tk) (hx : x.kind ≠ 7) (s : St) : PCalls Tryz.prog 116 [encT x] s (fun r s' => s' = s ∧ r = .ret (.lit (.string ⟨#[]⟩))) := by
 refine PCalls.fun (D := []) ti_ok Tryz.func116 rfl (by kernel_rfl) ?_
 rintro (_ | _) h1
 ·exact ⟨rfl, rfl⟩
 ·exact absurd (of_decide_eq_true h1) hx
theorem copens0_c (s : St) : PCalls Tryz.prog 117 [.lit (.string ⟨#[]⟩)] s (fun r s' => s' = s ∧ r = .ret (.lit (.bool false))) := by
 refine PCalls.fun (D := []) ti_ok Tryz.func117 rfl (by kernel_rfl) ?_
 rintro (_ | _) h1
 rotate_left
 ·exact absurd h1 (by decide)
 rintro (_ | _) h2
 rotate_left
 ·exact absurd h2 (by decide)
 rintro (_ | _) h3
 rotate_left
 ·exact absurd h3 (by decide)
 exact ⟨rfl, rfl⟩
theorem step0_c (f i : Nat) (at_ : Int) (s : St) : PCalls Tryz.prog 118 [.pt f 0 0, .lit (.string ⟨#[]⟩), .lit (.int .i64 at_)] s (fun r s' => s' = s ∧ r = .ret (.lit (.bool true))) := by
 refine PCalls.fun (D := [(8, ([0, 1, 2, 4, 5, 6, 3, 7, 8, 9, 10, 11, 12], [], []))]) ti_ok Tryz.func118 rfl (by kernel_rfl) ?_
 refine sc_pure (ps := [.lit (.string ⟨#[]⟩)]) (v := .lit (.bool false)) (fun s _ => copens0_c s) rfl rfl ?_
 rintro (_ | _) h1
 rotate_left
 ·exact absurd h1 (by decide)
 rintro (_ | _) h2
 rotate_left
 ·exact absurd h2 (by decide)
 rintro (_ | _) h3
 rotate_left
 ·exact absurd h3 (by decide)
 exact ⟨rfl, rfl⟩
end Go.Pv

namespace Go.Pv
open Go.Proofs
set_option linter.unusedVariables false
set_option linter.unusedSimpArgs false
set_option maxRecDepth 100000
set_option maxHeartbeats 1000000
theorem qopI {P : Program} {T : TI} (hT : TIok P T) {t el n : Nat} {ag : Bool} (h1 : lk T.slc t = some el) (h2 : lk T.size el = some (n, ag)) {E : Env} {x i : Operand} {b off len : Nat} {k : IntKind} {m : Int} (hx : E.ev x = .sl b n off len) (hi : E.ev i = .lit (.int k m)) (h0 : 0 ≤ m) (hl : m.toNat < len) :
  qop P E St.empty (.indexAddr t x i) = some (.pt b (off + m.toNat) 0) := by
 simp only [qop, idxAddr, hi, hx, if_pos h0, hT.sl h1, (hT.sz h2).1, Option.bind_some]
 simp [hl]
theorem cellsR {b : St} {i j f n ty sz : Nat} {els : List (List PV)} {cs : List PV} (h : b i = some (.row ty sz els)) (hj : els[j]? = some cs) (hf : f + n ≤ cs.length) : cellsAt b (.pt i j f) n = some ((cs.drop f).take n) := by
 simp only [cellsAt, h, hj]
 rw [if_pos hf]
@[reducible] def eStr : List PV := [.lit (.string ⟨#[]⟩)]
@[reducible] def g1env (kk : VK) (l : List Tk) (q : Nat) (i : Int) : SE := [(0, .av (.pv (toks kk l))), (5, .av (.pv (.sl q 1 0 ((l.map encT).length : Int).toNat))), (6, .av (.pv (.lit (.int .i64 0)))), (15, .av (.pv (toks kk l))), (16, .av (.pv (.lit (.int .i64 ((l.map encT).length : Nat))))), (17, .av (.pv (.lit (.int .i64 i))))]
@[reducible] def g2env (l : List Tk) (q : Nat) (i : Int) : SE := [(9, .av (.cell 0 0)), (39, .av (.pv (.sl q 1 0 ((l.map encT).length : Int).toNat))), (40, .av (.pv (.lit (.int .i64 (((l.map encT).length : Int).toNat : Nat))))), (41, .av (.pv (.lit (.int .i64 i))))]
theorem groups0_c (kk : VK) (l : List Tk) (hl : l.length ≤ 1000000) (hk : ∀ t ∈ l, t.kind ≠ 7) (s : St) : PCalls Tryz.prog 67 [toks kk l] s (fun r s' => s' = s ∧ r = .ret (.tup [.vec .nil [], .lit (.int .i64 0), .lit (.int .i64 0)])) := by
 refine PCalls.funG (D := [(20, ([0, 1, 2, 4, 5, 6, 16, 17, 3, 7, 8, 9, 10, 11, 12, 13, 14, 15, 18], [], []))]) ti_ok Tryz.func67 rfl (by kernel_rfl) ?_
 have hlen : ((l.map encT).length : Int).toNat = l.length := by simp
 have hrow : ∀ i, i < l.length → (List.replicate ((l.map encT).length : Int).toNat eStr)[i]? = some eStr := fun i hi => by rw [hlen, List.getElem?_replicate, if_pos hi]
 refine ⟨rfl, by omega, by rw [List.length_map]; omega, by rw [List.length_map]; show (_ : Int) * 16 ≤ _; omega, fun q hq => ?_⟩
 have hbq : (s.upd q (some (.row 9 1 (List.replicate ((l.map encT).length : Int).toNat eStr)))) q = some (.row 9 1 (List.replicate ((l.map encT).length : Int).toNat eStr)) := St.upd_same _ _ _
 have hset : ∀ i, (List.replicate ((l.map encT).length : Int).toNat eStr).set i (spl eStr 0 eStr) = List.replicate ((l.map encT).length : Int).toNat eStr := fun i => by
  show (List.replicate _ eStr).set i eStr = _
  apply List.ext_getElem?
  intro j
  rw [List.getElem?_set]
  split
  ·rename_i h
   subst h
   split
   ·rename_i h2; rw [List.length_replicate] at h2; rw [List.getElem?_replicate, if_pos h2]
   ·rename_i h2; rw [List.length_replicate] at h2; rw [List.getElem?_replicate, if_neg h2]
  ·rfl
 obtain ⟨B, hB⟩ : ∃ B, s.upd q (some (.row 9 1 (List.replicate ((l.map encT).length : Int).toNat eStr))) = B := ⟨_, rfl⟩
 have hBs : B.upd q (some (.row 9 1 (List.replicate ((l.map encT).length : Int).toNat eStr))) = B := by rw [← hB]; exact St.upd_upd ..
 have hsub : s.sub B := by rw [← hB]; exact sub_refl.upd_of hq
 rw [hB] at hbq
 refine sw_loop (D := []) ti_ok (by kernel_rfl) (fun n env st b => ∃ i : Nat, i + n = l.length ∧ b = B ∧ env = g1env kk l q (i : Nat) ∧ st = []) l.length ⟨[], [0, 5, 6, 15, 16, 17], rfl, 0, by omega, hB, rfl, rfl⟩ ?_
 rintro n env st b ⟨i, hi, hb, rfl, rfl⟩
 subst hb
 rintro (_ | _) ht
 rotate_left
 ·rw [List.length_map] at ht
  have hlt : i < l.length := by have := of_decide_eq_true ht; omega
  have hg := List.getElem?_eq_getElem hlt
  obtain ⟨x, hx⟩ : ∃ x, l[i] = x := ⟨_, rfl⟩
  rw [hx] at hg
  have hxk := hk x (List.mem_of_getElem? hg)
  have gi0 : (List.replicate ((l.map encT).length : Int).toNat eStr)[0 + ((i : Nat) : Int).toNat]? = some eStr := by rw [Nat.zero_add, Int.toNat_natCast]; exact hrow i hlt
  refine ⟨encT x, ⟨by omega, by rw [Int.toNat_natCast, List.getElem?_map, hg]; rfl, rfl⟩, ?_⟩
  refine sc_pure (ps := [encT x]) (v := .lit (.string ⟨#[]⟩)) (fun s _ => ckind0_c x hxk s) rfl rfl ?_
  refine ⟨_, qopI ti_ok rfl rfl rfl rfl (by omega) (by rw [hlen]; omega), ?_⟩
  refine ⟨[.lit (.string ⟨#[]⟩)], _, 1, _, eStr, rfl, hbq, gi0, by simp, ?_⟩
  refine ⟨_, qopI ti_ok rfl rfl rfl rfl (by omega) (by rw [hlen]; omega), ?_⟩
  refine ⟨eStr, .lit (.string ⟨#[]⟩), ?_, rfl, ?_⟩
  ·rw [hset, hBs]; exact cellsR (cs := eStr) hbq gi0 (by simp)
  refine sc_pure (ps := [.lit (.string ⟨#[]⟩)]) (v := .lit (.bool false)) (fun s _ => copens0_c s) rfl rfl ?_
  refine ⟨n - 1, by omega, [], [0, 5, 6, 15, 16, 17], rfl, i + 1, by omega, ?_, (show g1env kk l q (IntKind.i64.wrap ((i : Int) + 1)) = g1env kk l q ((i + 1 : Nat) : Int) by rw [incN (by omega)]), rfl⟩
  rw [hset, hBs]
 rintro (_ | _) h200
 rotate_left
 ·exact absurd h200 (by decide)
 refine sw_loop (D := []) ti_ok (by kernel_rfl) (fun n env st b2 => ∃ i : Nat, i + n = l.length ∧ b2 = b ∧ env = g2env l q (i : Nat) ∧ st = [some (.cel 180 2 [.pv (.vec .nil []), .pv (.lit (.pointer none))])]) l.length ⟨[0], [9, 39, 40, 41], rfl, 0, by omega, rfl, rfl, rfl⟩ ?_
 rintro n2 env st b2 ⟨j, hj, hb2, rfl, rfl⟩
 subst b2
 rintro (_ | _) ht2
 rotate_left
 ·have hlt : j < l.length := by have := of_decide_eq_true ht2; rw [hlen] at this; omega
  have gj0 : (List.replicate ((l.map encT).length : Int).toNat eStr)[0 + ((j : Nat) : Int).toNat]? = some eStr := by rw [Nat.zero_add, Int.toNat_natCast]; exact hrow j hlt
  refine ⟨_, qopI ti_ok rfl rfl rfl rfl (by omega) (by rw [hlen]; omega), ?_⟩
  refine ⟨eStr, .lit (.string ⟨#[]⟩), cellsR (cs := eStr) hbq gj0 (by simp), rfl, ?_⟩
  refine sc_obj (j := 0) (cs := [.vec .nil [], .lit (.pointer none)]) (xs := [.lit (.string ⟨#[]⟩), .lit (.int .i64 (j : Nat))]) (R := fun r cs => r = .ret (.lit (.bool true)) ∧ cs = [.vec .nil [], .lit (.pointer none)]) rfl rfl rfl (fun s2 f _ hf => (step0_c f 0 _ s2).mono ?_) ?_
  ·rintro r s' ⟨rfl, rfl⟩; exact ⟨_, (St.upd_self hf).symm, rfl, rfl⟩
  rintro r cs ⟨rfl, rfl⟩
  exact ⟨n2 - 1, by omega, [0], [9, 39, 40, 41], rfl, j + 1, by omega, rfl, (show g2env l q (IntKind.i64.wrap ((j : Int) + 1)) = g2env l q ((j + 1 : Nat) : Int) by rw [incN (by omega)]), rfl⟩
 refine Gh.sub hsub (Gh.ret ?_)
 exact ⟨rfl, rfl⟩
end Go.Pv

namespace Go.Pv
open Go.Proofs
set_option linter.unusedVariables false
set_option linter.unusedSimpArgs false
set_option maxRecDepth 100000
set_option maxHeartbeats 1000000
theorem clone0_c (s : St) : PCalls Tryz.prog 130 [.vec .nil []] s (fun r s' => s' = s ∧ r = .ret (.vec .nil [])) := by
 refine PCalls.of Tryz.func130 rfl (by rfl) (by simp [Tryz.ntmps130]) ?_
 refine pwC_sound _ _ _ _ ?_
 simp [Tryz.ntmps130]
theorem indexF0_c (f : FuncId) (a c : List PV) (s : St) : PCalls Tryz.prog 131 [.vec .nil [], .fn f a c] s (fun r s' => s' = s ∧ r = .ret (.lit (.int .i64 (-1)))) := by
 refine PCalls.of Tryz.func131 rfl (by rfl) (by simp [Tryz.ntmps131]) ?_
 refine pwC_sound _ _ _ _ ?_
 simp [Tryz.ntmps131]
 refine PW.loop (fun n e s' => e 7 = .lit (.int .i64 0) ∧ e 8 = .lit (.int .i64 0) ∧ s' = s) 0 ⟨by simp, by simp, rfl⟩ ?_
 rintro n e s' ⟨e7, e8, rfl⟩
 refine pwC_sound _ _ _ _ ?_
 simp [e7, e8]
theorem hitF0_c (f : FuncId) (a c : List PV) (s : St) : PCalls Tryz.prog 75 [.vec .nil [], .fn f a c] s (fun r s' => s' = s ∧ r = .ret (.lit (.bool false))) := by
 refine PCalls.of Tryz.func75 rfl (by rfl) (by simp [Tryz.ntmps75]) ?_
 refine pwC_sound _ _ _ _ ?_
 simp [Tryz.ntmps75]
 refine (indexF0_c f a c _).mono ?_
 rintro _ s1 ⟨hs1, rfl⟩
 rw [hs1]
 simp
end Go.Pv

namespace Go.Pv
open Go.Proofs
set_option linter.unusedVariables false
set_option linter.unusedSimpArgs false
set_option maxRecDepth 100000
set_option maxHeartbeats 1000000
@[reducible] def eNil : List PV := [.vec .nil []]
theorem set_rep {a : List PV} {n : Nat} : ∀ i, (List.replicate n a).set i a = List.replicate n a := fun i => by
 apply List.ext_getElem?
 intro j
 rw [List.getElem?_set]
 split
 ·rename_i h
  subst h
  split
  ·rename_i h2; rw [List.length_replicate] at h2; rw [List.getElem?_replicate, if_pos h2]
  ·rename_i h2; rw [List.length_replicate] at h2; rw [List.getElem?_replicate, if_neg h2]
 ·rfl
theorem Gh.fzHead {imp : List Nat} {K : SE → SS → St → Prop} {rest : SE} {st : SS} {b : St} {t i ty sz n : Nat} {els : List (List PV)} {xs : List PV} (hi : b i = some (.row ty sz els)) (hx : xs.map PV.cells = els) (hn : els.length = n) (hr : (rest.map fun p => (p.1, fzO i sz els.length xs p.2)) = rest) (h : Gh imp K ((t, .av (.pv (.vec .any xs))) :: rest) st (b.upd i none)) : Gh imp K ((t, .av (.pv (.sl i sz 0 n))) :: rest) st b := by
 subst hn
 refine Gh.fzOut hi hx ?_
 rw [List.map_cons, hr]
 have e : ∀ a : Nat, Nat.beq a a = true := fun a => Nat.beq_refl a
 simpa [fzO, e] using h
@[reducible] def p1env (kk : VK) (l : List Tk) (m1 m2 m3 q : Nat) (i : Int) : SE := [(5, .av (.pv (.vec .nil []))), (8, .av (.pv (.mp m1))), (9, .av (.pv (.mp m2))), (10, .av (.pv (.mp m3))), (15, .av (.pv (.sl q 1 0 ((l.map encT).length : Int).toNat))), (16, .av (.pv (.vec .nil []))), (71, .av (.pv (.lit (.int .i64 ((l.map encT).length : Nat))))), (72, .av (.pv (.lit (.int .i64 i))))]
theorem places0_c (kk : VK) (l : List Tk) (hl : l.length ≤ 1000000) (hk : ∀ t ∈ l, t.kind ≠ 7) (s : St) : PCalls Tryz.prog 74 [toks kk l] s (fun r s' => s' = s ∧ r = .ret (.tup [.vec .any (List.replicate l.length (.vec .nil [])), .vec .nil [], .lit (.int .i64 0)])) := by
 refine PCalls.funG (D := [(32, ([0, 1, 2, 3, 4, 7, 5, 6, 8, 9], [], []))]) ti_ok Tryz.func74 rfl (by kernel_rfl) ?_
 have hlen : ((l.map encT).length : Int).toNat = l.length := by simp
 refine sc_pure (ps := [toks kk l]) (v := PV.tup [.vec .nil [], .lit (.int .i64 0), .lit (.int .i64 0)]) (fun s _ => groups0_c kk l hl hk s) rfl rfl ?_
 rintro (_ | _) h0
 ·exact absurd h0 (by decide)
 intro m1 h1 m2 h2 m3 h3
 refine sw_loop (D := []) ti_ok (by kernel_rfl) (fun n env st b => b = ((s.upd m1 (some (.idict .i64 []))).upd m2 (some (.idict .i64 []))).upd m3 (some (.idict .i64 [])) ∧ st = [] ∧ env = [(0, .av (.pv (toks kk l))), (5, .av (.pv (.vec .nil []))), (8, .av (.pv (.mp m1))), (9, .av (.pv (.mp m2))), (10, .av (.pv (.mp m3))), (34, .av (.pv (.lit (.int .i64 0)))), (35, .av (.pv (.lit (.int .i64 0))))]) 0 ⟨[], [0, 5, 8, 9, 10, 34, 35], rfl, rfl, rfl, rfl⟩ ?_
 rintro n env st b ⟨hb, rfl, rfl⟩
 rintro (_ | _) ht
 rotate_left
 ·exact absurd ht (by decide)
 have f1 : s m1 = none := h1
 have f2 : (s.upd m1 (some (.idict .i64 []))) m2 = none := h2
 have f3 : ((s.upd m1 (some (.idict .i64 []))).upd m2 (some (.idict .i64 []))) m3 = none := h3
 have n21 : m2 ≠ m1 := fun e => by subst e; rw [St.upd_same] at f2; cases f2
 have n32 : m3 ≠ m2 := fun e => by subst e; rw [St.upd_same] at f3; cases f3
 rw [St.upd_ne _ _ n32] at f3
 have n31 : m3 ≠ m1 := fun e => by subst e; rw [St.upd_same] at f3; cases f3
 rw [St.upd_ne _ _ n31] at f3
 rw [St.upd_ne _ _ n21] at f2
 have k1 : b m1 = some (.idict .i64 []) := by rw [hb, St.upd_ne _ _ (Ne.symm n31), St.upd_ne _ _ (Ne.symm n21), St.upd_same]
 have k2 : b m2 = some (.idict .i64 []) := by rw [hb, St.upd_ne _ _ (Ne.symm n32), St.upd_same]
 have k3 : b m3 = some (.idict .i64 []) := by rw [hb, St.upd_same]
 have hsub : s.sub b := by rw [hb]; exact ((sub_refl.upd_of f1).upd_of f2).upd_of f3
 clear hb
 refine ⟨rfl, by omega, by rw [List.length_map]; omega, by rw [List.length_map]; show (_ : Int) * 24 ≤ _; omega, fun q hq => ?_⟩
 obtain ⟨B, hB⟩ : ∃ B, b.upd q (some (.row 136 1 (List.replicate ((l.map encT).length : Int).toNat eNil))) = B := ⟨_, rfl⟩
 have hbq : B q = some (.row 136 1 (List.replicate ((l.map encT).length : Int).toNat eNil)) := by rw [← hB]; exact St.upd_same _ _ _
 have hBs : B.upd q (some (.row 136 1 (List.replicate ((l.map encT).length : Int).toNat eNil))) = B := by rw [← hB]; exact St.upd_upd ..
 have kk' : ∀ k x, b k = some x → B k = some x := fun k x hx => by rw [← hB, St.upd_ne _ _ (fun e => by subst e; rw [hq] at hx; cases hx)]; exact hx
 replace k1 := kk' _ _ k1
 replace k2 := kk' _ _ k2
 replace k3 := kk' _ _ k3
 have hsB : s.sub B := fun k x hx => kk' k x (hsub k x hx)
 have hsq : s q = none := by
  cases h : s q with
  | none => rfl
  | some x => rw [hsub q x h] at hq; cases hq
 refine sw_loop (D := []) ti_ok (by kernel_rfl) (fun n env st b2 => ∃ i : Nat, i + n = l.length ∧ b2 = B ∧ env = p1env kk l m1 m2 m3 q (i : Nat) ∧ st = []) l.length ⟨[], [5, 8, 9, 10, 15, 16, 71, 72], rfl, 0, by omega, hB, rfl, rfl⟩ ?_
 rintro n2 env st b2 ⟨i, hi, hb2, rfl, rfl⟩
 subst b2
 rintro (_ | _) ht2
 ·refine Gh.view (imp := []) [] [2, 3, 4] rfl ?_
  refine Gh.fzHead (xs := List.replicate ((l.map encT).length : Int).toNat (.vec .nil [])) hbq (by rw [List.map_replicate]; rfl) (by rw [List.length_replicate]) rfl ?_
  refine Gh.sub (b' := s) (fun k x hx => by rw [St.upd_ne _ _ (fun e => by subst e; rw [hsq] at hx; cases hx)]; exact hsB k x hx) (Gh.ret ?_)
  exact ⟨rfl, by rw [hlen]; rfl⟩
 have hlt : i < l.length := by have := of_decide_eq_true ht2; rw [List.length_map] at this; omega
 have gi0 : (List.replicate ((l.map encT).length : Int).toNat eNil)[0 + ((i : Nat) : Int).toNat]? = some eNil := by simp [hlt]
 refine ⟨[], k1, fun r hr => ?_⟩
 cases hr
 refine ⟨[], k2, fun r hr => ?_⟩
 cases hr
 refine ⟨[], k3, fun r hr => ?_⟩
 cases hr
 refine sc_pure (ps := [.vec .nil []]) (v := .vec .nil []) (fun s _ => clone0_c s) rfl rfl ?_
 refine ⟨_, qopI ti_ok rfl rfl rfl rfl (by omega) (by rw [hlen]; omega), ?_⟩
 refine ⟨[.vec .nil []], _, 1, _, eNil, rfl, hbq, gi0, by simp, ?_⟩
 refine ⟨n2 - 1, by omega, [], [5, 8, 9, 10, 15, 16, 71, 72], rfl, i + 1, by omega, ?_, (show p1env kk l m1 m2 m3 q (IntKind.i64.wrap ((i : Int) + 1)) = p1env kk l m1 m2 m3 q ((i + 1 : Nat) : Int) by rw [incN (by omega)]), rfl⟩
 show B.upd q (some (.row _ 1 ((List.replicate _ eNil).set _ eNil))) = B
 rw [set_rep, hBs]
end Go.Pv

namespace Go.Pv
open Go.Proofs
set_option linter.unusedVariables false
set_option linter.unusedSimpArgs false
set_option maxRecDepth 100000
set_option maxHeartbeats 1000000
def allP (n : Nat) : List Int := List.map (fun i : Nat => (i : Int)) (List.range n)
theorem allP_snoc (n : Nat) : allP (n + 1) = allP n ++ [(n : Int)] := by unfold allP; rw [List.range_succ, List.map_append]; rfl
theorem allP_len (n : Nat) : (allP n).length = n := by simp [allP]
def iRg (l : List Int) : List (List PV) := l.map fun n => [.lit (.int .i64 n)]
theorem sc_clo {P : Program} {imp : List Nat} {f : FuncId} {args : List SV} {st : SS} {b : St} {K : SV → SS → St → Prop} {Kp : List PanicEntry → SS → St → Prop} {p v : PV} {g : FuncId} {ac cc : List AV} (ha : args = [.av (.pv p), .fnc g ac cc]) (hl : p.live = true) (h : ∀ (a c : List PV) (s : St), PCalls P f [p, .fn g a c] s fun r s' => s' = s ∧ r = .ret v) (hK : K (.av (.pv v)) st b) : SC P imp f args st b K Kp := by
 intro σ s qs hR hA
 subst ha
 obtain ⟨q, qs', rfl, h1, h2⟩ := hA.cons_inv
 obtain ⟨q2, qs2, rfl, h3, h4⟩ := h2.cons_inv
 rw [h4.nil_inv, pvS h1 hl]
 obtain ⟨a', c', rfl, _, _⟩ := h3
 refine (h a' c' s).mono ?_
 rintro _ s' ⟨rfl, rfl⟩
 exact liftV0 hR (v := .av (.pv v)) (Or.inr rfl) hK
@[reducible] def vwenv (kk : VK) (l : List Tk) (o : SV) (i : Int) : SE := [(3, .av (.cell 0 0)), (6, .av (.pv (.vec .any (List.replicate l.length (.vec .nil []))))), (11, o), (51, .av (.pv (toks kk l))), (52, .av (.pv (.lit (.int .i64 ((l.map encT).length : Nat))))), (53, .av (.pv (.lit (.int .i64 i))))]
theorem view0_c (kk kc : VK) (l : List Tk) (hl : l.length ≤ 1000000) (hk : ∀ t ∈ l, t.kind ≠ 7) (s : St) : PCalls Tryz.prog 41 [toks kk l, .vec kc []] s (fun r s' => s' = s ∧ ∃ k0 : VK, r = .ret (.tup [ints k0 (allP l.length), .lit (.int .i64 0)])) := by
 refine PCalls.funF 1 (D := [(9, ([1, 0, 2, 3, 4, 5, 7, 10, 6, 8, 9, 11, 12, 13], [], []))]) ti_ok Tryz.func41 rfl (by kernel_rfl) ?_
 refine sc_pure (ps := [toks kk l]) (v := PV.tup [.vec .any (List.replicate l.length (.vec .nil [])), .vec .nil [], .lit (.int .i64 0)]) (fun s _ => places0_c kk l hl hk s) rfl rfl ?_
 rintro (_ | _) h0
 ·exact absurd h0 (by decide)
 rintro (_ | _) h1
 ·exact absurd h1 (by decide)
 refine sw_loop (D := [(9, ([1, 0, 2, 3, 4, 5, 7, 10, 6, 8, 9, 11, 12, 13], [], []))]) ti_ok (by kernel_rfl) (fun n env st b => b = s ∧ st = [some (.cel 23 1 [.pv (.vec kc [])])] ∧ env = [(0, .av (.pv (toks kk l))), (3, .av (.cell 0 0)), (6, .av (.pv (.vec .any (List.replicate l.length (.vec .nil []))))), (30, .av (.pv (.lit (.int .i64 0)))), (31, .av (.pv (.lit (.int .i64 0))))]) 0 ⟨[0], [0, 3, 6, 30, 31], rfl, rfl, rfl, rfl⟩ ?_
 rintro n env st b ⟨hb, rfl, rfl⟩
 subst b
 rintro (_ | _) ht
 rotate_left
 ·exact absurd ht (by decide)
 refine sw_loop (D := []) ti_ok (by kernel_rfl) (fun n env st b => ∃ i : Nat, i + n = l.length ∧ b = s ∧ ((i = 0 ∧ env = vwenv kk l (.av (.pv (.vec .nil []))) (i : Nat) ∧ st = [some (.cel 23 1 [.pv (.vec kc [])])]) ∨ (0 < i ∧ env = vwenv kk l (.av (.own 1)) (i : Nat) ∧ st = [some (.cel 23 1 [.pv (.vec kc [])]), some (.lst 3 1 (iRg (allP i)))]))) l.length ⟨[0], [3, 6, 11, 51, 52, 53], rfl, 0, by omega, rfl, .inl ⟨rfl, rfl, rfl⟩⟩ ?_
 rintro n2 env st b ⟨i, hi, hb, hor⟩
 subst b
 rcases hor with ⟨hi0, rfl, rfl⟩ | ⟨hi0, rfl, rfl⟩
 ·rintro (_ | _) ht2
  ·have : l.length = 0 := by have := of_decide_eq_false ht2; rw [List.length_map] at this; omega
   exact .inl ⟨rfl, .nil, by rw [this]; rfl⟩
  have hlt : i < l.length := by have := of_decide_eq_true ht2; rw [List.length_map] at this; omega
  have hg := List.getElem?_eq_getElem hlt
  obtain ⟨x, hx⟩ : ∃ x, l[i] = x := ⟨_, rfl⟩
  rw [hx] at hg
  have hxk := hk x (List.mem_of_getElem? hg)
  refine ⟨encT x, ⟨by omega, by rw [Int.toNat_natCast, List.getElem?_map, hg]; rfl, rfl⟩, ?_⟩
  refine ⟨.vec .nil [], ⟨by omega, by rw [Int.toNat_natCast, List.getElem?_replicate, if_pos hlt], rfl⟩, ?_⟩
  refine sc_clo rfl rfl (fun a c s => hitF0_c _ a c s) ?_
  have nx : ∀ o : SV, vwenv kk l o (IntKind.i64.wrap ((i : Int) + 1)) = vwenv kk l o ((i + 1 : Nat) : Int) := fun o => by rw [incN (by omega)]
  have rw1 : iRg (allP (i + 1)) = iRg (allP i) ++ [[.lit (.int .i64 (i : Nat))]] := by rw [allP_snoc]; simp [iRg]
  rintro (_ | _) c1
  ·rintro (_ | _) c2
   rotate_left
   ·exact absurd (of_decide_eq_true c2) hxk
   refine ⟨[[.lit (.int .i64 (i : Nat))]], rfl, (by simp), ?_⟩
   exact ⟨n2 - 1, by omega, [0, 2], [3, 6, 11, 51, 52, 53], rfl, i + 1, by omega, rfl, .inr ⟨by omega, nx _, by rw [rw1]; subst hi0; rfl⟩⟩
  ·refine ⟨[[.lit (.int .i64 (i : Nat))]], rfl, (by simp), ?_⟩
   exact ⟨n2 - 1, by omega, [0, 2], [3, 6, 11, 51, 52, 53], rfl, i + 1, by omega, rfl, .inr ⟨by omega, nx _, by rw [rw1]; subst hi0; rfl⟩⟩
 ·rintro (_ | _) ht2
  ·have hil : i = l.length := by have := of_decide_eq_false ht2; rw [List.length_map] at this; omega
   subst hil
   exact .inr ⟨1, (allP l.length).map fun n => .lit (.int .i64 n), _, _, _, rfl, by rw [List.map_map]; rfl, rfl, .any, rfl⟩
  have hlt : i < l.length := by have := of_decide_eq_true ht2; rw [List.length_map] at this; omega
  have hg := List.getElem?_eq_getElem hlt
  obtain ⟨x, hx⟩ : ∃ x, l[i] = x := ⟨_, rfl⟩
  rw [hx] at hg
  have hxk := hk x (List.mem_of_getElem? hg)
  refine ⟨encT x, ⟨by omega, by rw [Int.toNat_natCast, List.getElem?_map, hg]; rfl, rfl⟩, ?_⟩
  refine ⟨.vec .nil [], ⟨by omega, by rw [Int.toNat_natCast, List.getElem?_replicate, if_pos hlt], rfl⟩, ?_⟩
  refine sc_clo rfl rfl (fun a c s => hitF0_c _ a c s) ?_
  have nx : ∀ o : SV, vwenv kk l o (IntKind.i64.wrap ((i : Int) + 1)) = vwenv kk l o ((i + 1 : Nat) : Int) := fun o => by rw [incN (by omega)]
  have rw1 : iRg (allP (i + 1)) = iRg (allP i) ++ [[.lit (.int .i64 (i : Nat))]] := by rw [allP_snoc]; simp [iRg]
  rintro (_ | _) c1
  ·rintro (_ | _) c2
   rotate_left
   ·exact absurd (of_decide_eq_true c2) hxk
   refine ⟨[[.lit (.int .i64 (i : Nat))]], rfl, (by simp [iRg, allP]; omega), ?_⟩
   exact ⟨n2 - 1, by omega, [0, 3], [3, 6, 11, 51, 52, 53], rfl, i + 1, by omega, rfl, .inr ⟨by omega, nx _, by rw [rw1]; rfl⟩⟩
  ·refine ⟨[[.lit (.int .i64 (i : Nat))]], rfl, (by simp [iRg, allP]; omega), ?_⟩
   exact ⟨n2 - 1, by omega, [0, 3], [3, 6, 11, 51, 52, 53], rfl, i + 1, by omega, rfl, .inr ⟨by omega, nx _, by rw [rw1]; rfl⟩⟩
end Go.Pv

namespace Go.Pv
open Go.Proofs
set_option linter.unusedVariables false
set_option linter.unusedSimpArgs false
set_option maxRecDepth 100000
set_option maxHeartbeats 1000000
theorem sc_fzA {P : Program} {imp : List Nat} {f : FuncId} {args : List SV} {st : SS} {b : St} {K : SV → SS → St → Prop} {Kp : List PanicEntry → SS → St → Prop} {n i ty sz : Nat} {els : List (List PV)} (xs : List PV) (ha : args[n]? = some (.av (.pv (.sl i sz 0 els.length)))) (hb : b i = some (.row ty sz els)) (hx : xs.map PV.cells = els)
  (h : SC P imp f (args.set n (.av (.pv (.vec .any xs)))) st (b.upd i none) K Kp) : SC P imp f args st b K Kp := by
 intro σ s ps hR hA
 obtain ⟨q, hq, h1⟩ := hA.get ha
 have hp : q = .sl i sz 0 els.length := pvS h1 rfl
 have d := hR.outDrop (i := i) (by rw [hb]; simp)
 exact PCalls.args (Conv.ownAt (hR.sub i _ hb) hx ps n (by rw [hq, hp])) (h σ _ _ d (All2.setR (R := SVR σ st) (a := .av (.pv (.vec .any xs))) (b := .vec .any xs) (Or.inr rfl) hA n))
theorem first0_c (kk : VK) (l : List Tk) (hl : l.length ≤ 1000000) (hk : ∀ t ∈ l, t.kind ≠ 7) (s : St) : PCalls Tryz.prog 35 [toks kk l] s (fun r s' => s' = s ∧ ∃ k0 : VK, r = .ret (.tup [ints k0 (allP l.length), .lit (.int .i64 0)])) := by
 refine PCalls.fun (D := []) ti_ok Tryz.func35 rfl (by kernel_rfl) ?_
 refine sc_pure (ps := [toks kk l]) (v := PV.tup [.vec .nil [], .lit (.int .i64 0), .lit (.int .i64 0)]) (fun s _ => groups0_c kk l hl hk s) rfl rfl ?_
 rintro (_ | _) h0
 ·exact absurd h0 (by decide)
 refine ⟨rfl, by simp, by simp, by simp, fun q hq => ?_⟩
 refine sc_fzA (n := 1) (els := []) [] rfl (St.upd_same _ _ _) rfl ?_
 refine sc_pureR (ps := [toks kk l, .vec .any []]) (R := fun v => ∃ k0 : VK, v = .tup [ints k0 (allP l.length), .lit (.int .i64 0)]) (fun s _ => (view0_c kk .any l hl hk s).mono ?_) rfl rfl ?_
 ·rintro r s' ⟨rfl, k0, rfl⟩; exact ⟨rfl, _, ⟨k0, rfl⟩, rfl⟩
 rintro _ ⟨k0, rfl⟩
 exact ⟨by rw [St.upd_upd]; exact St.upd_none hq, k0, rfl⟩
end Go.Pv

namespace Go.Pv
open Go.Proofs
set_option linter.unusedVariables false
set_option linter.unusedSimpArgs false
set_option maxRecDepth 100000
set_option maxHeartbeats 1000000
def FRes (l : List Tk) (n : Nat) (r : Res) : Prop := ∃ k0 it L e, parseF n (seenL l (allP l.length)).length (cxOf .any k0 l (allP l.length) it) 0 = .ok L e ∧
 ((100000 < (fileN (cxOf .any k0 l (allP l.length) it) L e).size ∧ r = .ret (.tup [.vec .nil [], .vec .nil [], zeroN, .lit (.int .i64 2)])) ∨
 (¬ 100000 < (fileN (cxOf .any k0 l (allP l.length) it) L e).size ∧ ∃ k1, r = .ret (.tup [toks .any l, ints k1 (allP l.length), encU (fileN (cxOf .any k0 l (allP l.length) it) L e), .lit (.int .i64 0)])))
theorem file0_c (t : ByteArray) (n : Nat) (hn9 : n ≤ 1000000000) (ht : t.size ≤ 200000) (hL : (allT t).length ≤ 40000) (hk : ∀ x ∈ allT t, x.kind ≠ 7) (hx : ∀ x ∈ allT t, x.text.size ≤ 1000000) (hv : SiteV (allT t) (allP (allT t).length)) (hf : ∀ k0 it, parseF n (seenL (allT t) (allP (allT t).length)).length (cxOf .any k0 (allT t) (allP (allT t).length) it) 0 ≠ .fuel) (s : St) (hs : Vars s) : PCalls Tryz.prog 9 [.lit (.string t)] s (fun r s' => s' = s ∧ FRes (allT t) n r) := by
 refine PCalls.fun (D := [(10, ([0, 1, 3, 4, 2, 5, 6], [], []))]) ti_ok Tryz.func9 rfl (by kernel_rfl) ?_
 have hsc := fun s2 (h : s.sub s2) => pscan_c t (by omega) s2 (hs.sub h)
 simp only [if_neg (show ¬ (200000 < t.size ∨ 40000 < (allT t).length) by omega)] at hsc
 obtain ⟨l, hl⟩ : ∃ l, allT t = l := ⟨_, rfl⟩
 rw [hl] at hsc hL hk hx hv hf ⊢
 refine sc_pure (ps := [.lit (.string t)]) (v := PV.tup [toks .any l, .lit (.int .i64 0)]) hsc rfl rfl ?_
 rintro (_ | _) h0
 ·exact absurd h0 (by decide)
 refine sc_pureR (ps := [toks .any l]) (R := fun v => ∃ k1 : VK, v = .tup [ints k1 (allP l.length), .lit (.int .i64 0)]) (fun s _ => (first0_c .any l (by omega) hk s).mono ?_) rfl rfl ?_
 ·rintro r s' ⟨rfl, k0, rfl⟩; exact ⟨rfl, _, ⟨k0, rfl⟩, rfl⟩
 rintro _ ⟨k1, rfl⟩
 rintro (_ | _) h1
 ·exact absurd h1 (by decide)
 refine sc_pureR (ps := [toks .any l, ints k1 (allP l.length)]) (R := fun v => ∃ k0 it, PRes (cxOf .any k0 l (allP l.length) it) n (.ret v)) (fun s2 _ => (Parse_c .any k1 l (allP l.length) n hn9 hv (by omega) hx (by rw [allP_len]; omega) hf s2).mono ?_) rfl rfl ?_
 ·rintro r s' ⟨rfl, k0, it, L, e, h1, h2⟩
  rcases h2 with ⟨h2, rfl⟩ | ⟨h2, rfl⟩
  ·exact ⟨rfl, _, ⟨k0, it, L, e, h1, .inl ⟨h2, rfl⟩⟩, rfl⟩
  ·exact ⟨rfl, _, ⟨k0, it, L, e, h1, .inr ⟨h2, rfl⟩⟩, rfl⟩
 rintro _ ⟨k0, it, L, e, hp, ⟨h2, h⟩ | ⟨h2, h⟩⟩
 ·cases h
  rintro (_ | _) h3
  ·exact ⟨rfl, k0, it, L, e, hp, .inl ⟨h2, rfl⟩⟩
  ·exact absurd h3 (by decide)
 ·cases h
  rintro (_ | _) h3
  ·exact absurd h3 (by decide)
  refine ⟨by kernel_rfl, ?_⟩
  exact ⟨rfl, k0, it, L, e, hp, .inr ⟨h2, k1, rfl⟩⟩
end Go.Pv

namespace Go.Pv
set_option linter.unusedVariables false
set_option linter.unusedSimpArgs false
theorem befF_inn (t : ByteArray) : ∀ (k i : Nat) (c : Bool), i ≤ t.size → i ≤ (befF t k i c).1 ∧ (befF t k i c).1 ≤ t.size
 | 0, i, c, h => ⟨Nat.le_refl _, h⟩
 | k + 1, i, c, h => by
  have hp := pieceEnd_le h
  unfold befF
  split
  ·have := befF_inn t k (pieceEnd t i) (clearB t i (pieceEnd t i) c) hp.2
   omega
  ·exact ⟨Nat.le_refl _, h⟩
structure Agr (t u : ByteArray) : Prop where
 sz : t.size = u.size
 b : ∀ j, 1 ≤ j → bt t j = bt u j
 e : ∀ i j, 1 ≤ i → t.extract i j = u.extract i j
 z1 : bt t 0 ≠ 92
 z2 : bt u 0 ≠ 92
section
variable {t u : ByteArray} (h : Agr t u)
include h
end
theorem ba_get {t : ByteArray} {i : Nat} (h : i < t.size) : bt t i = (t[i].toNat : Int) := (bt_get t i h).symm
theorem bt_of_beg {t x : ByteArray} {i : Nat} (h : beg t i x = true) (hx : 0 < x.size) : bt t i = bt x 0 := by
 simp [beg] at h
 obtain ⟨h1, h2⟩ := h
 have h3 : x[0]? = t[i]? := by
  rw [getElem?_pos x 0 hx, getElem?_pos t i (by omega)]
  have : (t.extract i (i + x.size))[0]'(by rw [h2]; exact hx) = x[0] := by simp only [h2]
  rw [← this, ByteArray.getElem_extract]
  simp
 unfold bt
 rw [h3]
theorem beg_one {t : ByteArray} {i : Nat} {c : UInt8} (h : i < t.size) (hc : bt t i = c.toNat) : beg t i ⟨#[c]⟩ = true := by
 have hsz : (⟨#[c]⟩ : ByteArray).size = 1 := rfl
 simp only [beg, hsz, Bool.and_eq_true, decide_eq_true_eq]
 refine ⟨by omega, ?_⟩
 apply ByteArray.ext
 rw [ByteArray.data_extract]
 apply Array.ext
 ·simp; show min (i + 1) t.size - i = 1; omega
 ·intro j h1 h2
  have : j = 0 := by simp at h2; exact h2
  subst this
  simp
  unfold bt at hc
  rw [getElem?_pos t i h] at hc
  have : t[i].toNat = c.toNat := Int.ofNat.inj hc
  exact UInt8.toNat_inj.1 this
theorem signLen_one {t : ByteArray} {i : Nat} {c : UInt8} (h : i < t.size) (hc : bt t i = c.toNat) (hs : signsL.all (fun s => decide (0 < s.size) && (decide (s = ⟨#[c]⟩) || decide (bt s 0 ≠ c.toNat))) = true) (hm : signsL.any (fun s => decide (s = ⟨#[c]⟩)) = true) : signLen t i signsL = 1 := by
 have key : ∀ (l : List ByteArray) (n : Nat), n ≤ 1 → l.all (fun s => decide (0 < s.size) && (decide (s = ⟨#[c]⟩) || decide (bt s 0 ≠ c.toNat))) = true →
   l.foldl (fun n s => if n < s.size ∧ beg t i s = true then s.size else n) n = if l.any (fun s => decide (s = ⟨#[c]⟩)) = true then 1 else n := by
  intro l
  induction l with
  | nil => intro n hn _; simp
  | cons x l ih =>
   intro n hn ha
   rw [List.all_cons, Bool.and_eq_true] at ha
   obtain ⟨hx, ha⟩ := ha
   rw [List.foldl_cons, List.any_cons]
   by_cases hxc : x = ⟨#[c]⟩
   ·subst hxc
    have hsz : (⟨#[c]⟩ : ByteArray).size = 1 := rfl
    have hb := beg_one h hc
    by_cases hn0 : n < 1
    ·rw [if_pos ⟨by rw [hsz]; exact hn0, hb⟩, hsz, ih 1 (by omega) ha]; simp
    ·have : n = 1 := by omega
     subst this
     rw [if_neg (by rw [hsz]; omega), ih 1 (by omega) ha]; simp
   ·have hx2 : 0 < x.size ∧ bt x 0 ≠ c.toNat := by simpa [hxc] using hx
    have hnb : ¬ (n < x.size ∧ beg t i x = true) := by
     rintro ⟨_, hb⟩
     exact hx2.2 ((bt_of_beg hb hx2.1).symm.trans hc)
    rw [if_neg hnb, ih n hn ha, decide_eq_false hxc, Bool.false_or]
 unfold signLen
 rw [key signsL 0 (by omega) hs, if_pos hm]
theorem extract_size {t : ByteArray} {a e : Nat} (h1 : a ≤ e) (h2 : e ≤ t.size) : (t.extract a e).size = e - a := by
 rw [ByteArray.size_extract]; omega
theorem extract_bt {t : ByteArray} {a e j : Nat} (h1 : a + j < e) (h2 : e ≤ t.size) : bt (t.extract a e) j = bt t (a + j) := by
 unfold bt
 have hs := extract_size (t := t) (a := a) (e := e) (by omega) h2
 rw [getElem?_pos _ j (by omega), getElem?_pos _ (a + j) (by omega), ByteArray.getElem_extract]
def plainS : List ByteArray := [⟨#[40]⟩, ⟨#[41]⟩, ⟨#[44]⟩, ⟨#[46, 46, 46]⟩]
theorem tok_sign {t : ByteArray} {a : Nat} (c : Bool) (ha : a < t.size) (x : ByteArray) (hx : x ∈ plainS) (h : t.extract a (tokE keysL signsL t a c).2 = x) : (tokE keysL signsL t a c).1 = 6 := by
 have hin := tokE_in keysL signsL c ha
 have hsz := extract_size (t := t) (a := a) (e := (tokE keysL signsL t a c).2) (by omega) hin.2
 have hb0 := extract_bt (t := t) (a := a) (e := (tokE keysL signsL t a c).2) (j := 0) (by omega) hin.2
 rw [h] at hsz hb0
 rw [Nat.add_zero] at hb0
 have hone : ∀ c' : UInt8, bt t a = c'.toNat → c'.toNat = 40 ∨ c'.toNat = 41 ∨ c'.toNat = 44 → signLen t a signsL ≠ 0 → (tokE keysL signsL t a c).1 = 6 := by
  intro c' h1 h2 h3
  have hL : isL (bt t a) = false := by rcases h2 with q | q | q <;> rw [h1, q] <;> decide
  have hD : isD (bt t a) = false := by rcases h2 with q | q | q <;> rw [h1, q] <;> decide
  unfold tokE
  rw [if_neg (by omega), if_neg (by simp [hL]), if_neg (by rw [hD]; simp; omega), if_neg (by omega), if_pos h3]
 simp only [plainS, List.mem_cons, List.not_mem_nil, or_false] at hx
 rcases hx with rfl | rfl | rfl | rfl
 ·have hb : bt t a = (40 : UInt8).toNat := hb0.symm.trans (by decide)
  exact hone 40 hb (by decide) (by rw [signLen_one ha hb (by decide +kernel) (by decide +kernel)]; omega)
 ·have hb : bt t a = (41 : UInt8).toNat := hb0.symm.trans (by decide)
  exact hone 41 hb (by decide) (by rw [signLen_one ha hb (by decide +kernel) (by decide +kernel)]; omega)
 ·have hb : bt t a = (44 : UInt8).toNat := hb0.symm.trans (by decide)
  exact hone 44 hb (by decide) (by rw [signLen_one ha hb (by decide +kernel) (by decide +kernel)]; omega)
 ·have hsz3 : (⟨#[46, 46, 46]⟩ : ByteArray).size = 3 := rfl
  have hb : bt t a = 46 := hb0.symm.trans (by decide)
  have hb1 := extract_bt (t := t) (a := a) (e := (tokE keysL signsL t a c).2) (j := 1) (by omega) hin.2
  rw [h] at hb1
  have hb2 : bt t (a + 1) = 46 := hb1.symm.trans (by decide)
  by_cases h3 : signLen t a signsL = 0
  ·exfalso
   have : (tokE keysL signsL t a c).2 = a + 1 := by
    unfold tokE
    rw [hb, hb2, if_neg (by omega), if_neg (by decide), if_neg (by decide), if_neg (by omega), if_neg (by omega)]
   omega
  ·unfold tokE
   rw [hb, hb2, if_neg (by omega), if_neg (by decide), if_neg (by decide), if_neg (by omega), if_pos h3]
end Go.Pv

namespace Go.Pv
set_option linter.unusedVariables false
set_option linter.unusedSimpArgs false
theorem scanW_all {p : Nat → Bool} {n i : Nat} : ∀ j, i ≤ j → j < scanW p n i → p j = true := by
 have key : ∀ k i j, i ≤ j → j < scanF p k i → p j = true := by
  intro k
  induction k with
  | zero => intro i j h1 h2; simp only [scanF] at h2; omega
  | succ k ih =>
   intro i j h1 h2
   rw [scanF] at h2
   split at h2
   ·rename_i h
    by_cases hj : j = i
    ·subst hj; exact h
    ·exact ih (i + 1) j (by omega) h2
   ·omega
 exact key _ i
theorem scanW_to {p : Nat → Bool} {n i m : Nat} (him : i ≤ m) (hmn : m ≤ n) (h : ∀ j, i ≤ j → j < m → p j = true) (he : m < n → p m = false) : scanW p n i = m := by
 obtain ⟨d, rfl⟩ : ∃ d, m = i + d := ⟨m - i, by omega⟩
 induction d generalizing i with
 | zero =>
  by_cases hlt : i < n
  ·exact scanW_stop (he hlt)
  ·exact scanW_end (by omega)
 | succ d ih =>
  rw [scanW_step (by omega) (h i (Nat.le_refl _) (by omega))]
  have := ih (i := i + 1) (by omega) (by omega) (fun j h1 h2 => h j (by omega) (by omega)) (by rw [show i + 1 + d = i + (d + 1) by omega]; exact he)
  omega
theorem bt_at {t : ByteArray} {i : Nat} (h : i < t.size) : bt t i = (t[i].toNat : Int) := ba_get h
theorem beg_iff {t : ByteArray} {i : Nat} {x : ByteArray} : beg t i x = true ↔ i + x.size ≤ t.size ∧ ∀ k, k < x.size → bt t (i + k) = bt x k := by
 constructor
 ·intro h
  simp [beg] at h
  obtain ⟨h1, h2⟩ := h
  refine ⟨h1, fun k hk => ?_⟩
  have := extract_bt (t := t) (a := i) (e := i + x.size) (j := k) (by omega) h1
  rw [h2] at this
  exact this.symm
 ·rintro ⟨h1, h2⟩
  simp only [beg, Bool.and_eq_true, decide_eq_true_eq]
  refine ⟨h1, ?_⟩
  apply ByteArray.ext
  apply Array.ext
  ·have := extract_size (t := t) (a := i) (e := i + x.size) (by omega) h1
   show (t.extract i (i + x.size)).size = x.size
   omega
  ·intro k h3 h4
   have h4' : k < x.size := h4
   have hsz := extract_size (t := t) (a := i) (e := i + x.size) (by omega) h1
   have e1 := extract_bt (t := t) (a := i) (e := i + x.size) (j := k) (by omega) h1
   rw [h2 k h4', bt_at (by omega), bt_at h4'] at e1
   exact UInt8.toNat_inj.1 (Int.ofNat.inj e1)
def isZ (c : Int) : Prop := c = 32 ∨ c = 9 ∨ c = 10 ∨ c = 13 ∨ c = 92
structure Win (t : ByteArray) (a : Nat) (u : ByteArray) (q m : Nat) : Prop where
 st : a + m ≤ t.size
 su : q + m < u.size
 eq : ∀ k, k < m → bt u (q + k) = bt t (a + k)
 nx : isZ (bt u (q + m))
section
variable {t u : ByteArray} {a q m : Nat} (W : Win t a u q m)
include W
theorem Win.beg {x : ByteArray} {k : Nat} (h : k + x.size ≤ m) : beg u (q + k) x = beg t (a + k) x := by
 have hh : Pv.beg u (q + k) x = true ↔ Pv.beg t (a + k) x = true := by
  have := W.st
  have := W.su
  rw [beg_iff, beg_iff]
  constructor
  ·rintro ⟨_, h2⟩
   refine ⟨by omega, fun j hj => ?_⟩
   rw [← h2 j hj, show a + k + j = a + (k + j) by omega, show q + k + j = q + (k + j) by omega, W.eq _ (by omega)]
  ·rintro ⟨_, h2⟩
   refine ⟨by omega, fun j hj => ?_⟩
   rw [← h2 j hj, show a + k + j = a + (k + j) by omega, show q + k + j = q + (k + j) by omega, W.eq _ (by omega)]
 cases h1 : Pv.beg u (q + k) x <;> cases h2 : Pv.beg t (a + k) x <;> simp [h1, h2] at hh ⊢
theorem Win.noBeg {x : ByteArray} {k : Nat} (hk : k ≤ m) (h : m < k + x.size) (hx : ∀ j, j < x.size → ¬ isZ (bt x j)) : Pv.beg u (q + k) x = false := by
 cases hb : Pv.beg u (q + k) x with
 | false => rfl
 | true =>
  obtain ⟨_, h2⟩ := beg_iff.1 hb
  have := h2 (m - k) (by omega)
  rw [show q + k + (m - k) = q + m by omega] at this
  have hz := W.nx
  rw [this] at hz
  exact absurd hz (hx _ (by omega))
theorem Win.word (h : wordEnd t a = a + m) : wordEnd u q = q + m := by
 have h1 := W.su
 refine scanW_to (by omega) (by omega) (fun j h2 h3 => ?_) fun _ => ?_
 ·have e1 := W.eq (j - q) (by omega)
  rw [show q + (j - q) = j by omega] at e1
  have := scanW_all (p := fun j => isL (bt t j) || isD (bt t j)) (n := t.size) (i := a) (a + (j - q)) (by omega) (by show _ < wordEnd t a; omega)
  simp only [e1]
  exact this
 ·have := W.nx
  rcases this with h | h | h | h | h <;> rw [h] <;> decide
theorem Win.num (hm : 1 ≤ m) (h : numEnd t a = a + m) : numEnd u q = q + m := by
 have h1 := W.su
 refine scanW_to (by omega) (by omega) (fun j h2 h3 => ?_) fun _ => ?_
 ·have e1 := W.eq (j - q) (by omega)
  have e2 := W.eq (j - q - 1) (by omega)
  rw [show q + (j - q) = j by omega] at e1
  rw [show q + (j - q - 1) = j - 1 by omega, show a + (j - q - 1) = a + (j - q) - 1 by omega] at e2
  have := scanW_all (p := numP t) (n := t.size) (i := a + 1) (a + (j - q)) (by omega) (by show _ < numEnd t a; omega)
  unfold numP at this ⊢
  rw [e1, e2]
  exact this
 ·have := W.nx
  unfold numP
  rcases this with h | h | h | h | h <;> rw [h] <;> simp [isL, isD]
theorem Win.quotF (c : Int) : ∀ (k x y : Nat), Pv.quotF t c k (a + x) = some (a + y) → y ≤ m → ∀ k', y ≤ x + k' → Pv.quotF u c k' (q + x) = some (q + y)
 | 0, x, y, h, _, _, _ => by simp [Pv.quotF] at h
 | k + 1, x, y, h, hy, 0, hk => by
  have := (quotF_in t c (k + 1) (a + x) (a + y) h).1
  omega
 | k + 1, x, y, h, hy, k' + 1, hk => by
  have hin := (quotF_in t c (k + 1) (a + x) (a + y) h).1
  have hst := W.st
  have hsu := W.su
  have e0 := W.eq x (by omega)
  rw [Pv.quotF, if_pos (by omega)] at h
  rw [Pv.quotF, if_pos (by omega), e0]
  split at h
  ·rename_i h1
   rw [if_pos h1]
   have := Option.some.inj h
   congr 1
   omega
  ·rename_i h1
   rw [if_neg h1]
   split at h
   ·cases h
   ·rename_i h2
    rw [if_neg h2]
    split at h
    ·rename_i h3
     rw [if_pos h3]
     split at h
     ·cases h
     ·rename_i h4
      have hin2 := (quotF_in t c k (a + x + 2) (a + y) h).1
      have e1 := W.eq (x + 1) (by omega)
      rw [show q + x + 1 = q + (x + 1) by omega, e1, show a + (x + 1) = a + x + 1 by omega, if_neg h4]
      exact Win.quotF c k (x + 2) y h hy k' (by omega)
    ·rename_i h3
     rw [if_neg h3]
     exact Win.quotF c k (x + 1) y h hy k' (by omega)
omit W in
theorem signLen_ge {t : ByteArray} {a : Nat} : ∀ (l : List ByteArray) (n : Nat), n ≤ l.foldl (fun n s => if n < s.size ∧ Pv.beg t a s = true then s.size else n) n ∧ ∀ x ∈ l, Pv.beg t a x = true → x.size ≤ l.foldl (fun n s => if n < s.size ∧ Pv.beg t a s = true then s.size else n) n
 | [], n => ⟨Nat.le_refl _, fun x h => by cases h⟩
 | s :: l, n => by
  rw [List.foldl_cons]
  have hz : n ≤ (if n < s.size ∧ Pv.beg t a s = true then s.size else n) ∧ (Pv.beg t a s = true → s.size ≤ (if n < s.size ∧ Pv.beg t a s = true then s.size else n)) := by
   by_cases h : n < s.size ∧ Pv.beg t a s = true
   ·rw [if_pos h]; exact ⟨by omega, fun _ => Nat.le_refl _⟩
   ·rw [if_neg h]; exact ⟨Nat.le_refl _, fun hb => by
     rcases Nat.lt_or_ge n s.size with h1 | h1
     ·exact absurd ⟨h1, hb⟩ h
     ·exact h1⟩
  generalize (if n < s.size ∧ Pv.beg t a s = true then s.size else n) = z at hz
  have ih := signLen_ge (t := t) (a := a) l z
  refine ⟨Nat.le_trans hz.1 ih.1, fun x hx hb => ?_⟩
  rcases List.mem_cons.1 hx with rfl | hx
  ·exact Nat.le_trans (hz.2 hb) ih.1
  ·exact ih.2 x hx hb
omit W in
theorem signLen_congr {t u : ByteArray} {a q : Nat} : ∀ (l : List ByteArray) (n : Nat), (∀ x ∈ l, Pv.beg u q x = Pv.beg t a x) → l.foldl (fun n s => if n < s.size ∧ Pv.beg u q s = true then s.size else n) n = l.foldl (fun n s => if n < s.size ∧ Pv.beg t a s = true then s.size else n) n
 | [], n, _ => rfl
 | s :: l, n, h => by
  rw [List.foldl_cons, List.foldl_cons, h s List.mem_cons_self]
  exact signLen_congr l _ fun x hx => h x (List.mem_cons_of_mem _ hx)
omit W in
theorem signs_noZ : ∀ x ∈ signsL, 0 < x.size ∧ ∀ j, j < x.size → ¬ isZ (bt x j) := by
 unfold isZ
 decide +kernel
theorem Win.sign (h : signLen t a signsL = m) : signLen u q signsL = m := by
 rw [← h]
 refine signLen_congr signsL 0 fun x hx => ?_
 by_cases hs : x.size ≤ m
 ·exact W.beg (k := 0) (by omega)
 ·have h1 := W.noBeg (x := x) (k := 0) (by omega) (by omega) (signs_noZ x hx).2
  have h2 : Pv.beg t a x = false := by
   cases hb : Pv.beg t a x with
   | false => rfl
   | true =>
    have := (signLen_ge signsL 0).2 x hx hb
    have h' : signsL.foldl (fun n s => if n < s.size ∧ Pv.beg t a s = true then s.size else n) 0 = m := h
    omega
  rw [h2]
  exact h1
theorem Win.ext : u.extract q (q + m) = t.extract a (a + m) := by
 have h1 := W.st
 have h2 := W.su
 have s1 := extract_size (t := u) (a := q) (e := q + m) (by omega) (by omega)
 have s2 := extract_size (t := t) (a := a) (e := a + m) (by omega) (by omega)
 apply ByteArray.ext
 apply Array.ext
 ·show (u.extract q (q + m)).size = (t.extract a (a + m)).size
  omega
 ·intro k h3 h4
  have h3' : k < (u.extract q (q + m)).size := h3
  have h4' : k < (t.extract a (a + m)).size := h4
  have e1 := extract_bt (t := u) (a := q) (e := q + m) (j := k) (by omega) (by omega)
  have e2 := extract_bt (t := t) (a := a) (e := a + m) (j := k) (by omega) (by omega)
  rw [W.eq k (by omega), ← e2, bt_at h3', bt_at h4'] at e1
  exact UInt8.toNat_inj.1 (Int.ofNat.inj e1)
omit W in
theorem sign_zero {t : ByteArray} {a : Nat} {c : Int} (h : bt t a = c) (hc : signsL.all (fun s => decide (bt s 0 ≠ c)) = true) : signLen t a signsL = 0 := by
 have key : ∀ (l : List ByteArray), (∀ x ∈ l, Pv.beg t a x = false) → l.foldl (fun n s => if n < s.size ∧ Pv.beg t a s = true then s.size else n) 0 = 0 := by
  intro l
  induction l with
  | nil => intro _; rfl
  | cons s l ih =>
   intro hl
   rw [List.foldl_cons, hl s List.mem_cons_self, if_neg (by simp)]
   exact ih fun x hx => hl x (List.mem_cons_of_mem _ hx)
 refine key signsL fun x hx => ?_
 cases hb : Pv.beg t a x with
 | false => rfl
 | true =>
  have h1 := bt_of_beg hb (signs_noZ x hx).1
  have h2 := List.all_eq_true.1 hc x hx
  rw [decide_eq_true_eq] at h2
  exact absurd (h1.symm.trans h) h2
theorem Win.tok {c c' : Bool} (ha : a < t.size) (hE : (tokE keysL signsL t a c).2 = a + m) (h7 : (tokE keysL signsL t a c).1 ≠ 7) (h8 : (tokE keysL signsL t a c).1 ≠ 8) (hS : t.extract a (a + m) ≠ ⟨#[35]⟩) : tokE keysL signsL u q c' = ((tokE keysL signsL t a c).1, q + m) ∧ bt t a ≠ 35 ∧ bt t a ≠ 92 := by
 have hm : 1 ≤ m := by have := (tokE_in keysL signsL c ha).1; omega
 have e0 : bt u q = bt t a := W.eq 0 (by omega)
 have n35 : bt t a ≠ 35 := by
  intro h
  cases c with
  | true => exact h7 (by unfold tokE; rw [if_pos ⟨h, rfl⟩])
  | false =>
   have hs := signLen_one (t := t) (i := a) (c := 35) ha h (by decide +kernel) (by decide +kernel)
   have : tokE keysL signsL t a false = (6, a + 1) := by
    unfold tokE
    rw [if_neg (by simp), if_neg (by rw [h]; decide), if_neg (by rw [h]; simp; decide), if_neg (by rw [h]; decide), if_pos (by rw [hs]; decide), hs]
   rw [this] at hE
   have hm1 : m = 1 := by simp at hE; omega
   subst hm1
   refine hS ?_
   apply ByteArray.ext
   apply Array.ext
   ·have := extract_size (t := t) (a := a) (e := a + 1) (by omega) (by omega)
    show (t.extract a (a + 1)).size = 1
    omega
   ·intro k h3 h4
    have h4' : k < 1 := h4
    have hk : k = 0 := by omega
    subst hk
    have h3' : 0 < (t.extract a (a + 1)).size := h3
    have e1 := extract_bt (t := t) (a := a) (e := a + 1) (j := 0) (by omega) (by omega)
    simp only [Nat.add_zero] at e1
    rw [h, bt_at h3'] at e1
    exact UInt8.toNat_inj.1 (Int.ofNat.inj e1)
 have n92 : bt t a ≠ 92 := by
  intro h
  have hs := sign_zero h (by decide +kernel)
  apply h8
  unfold tokE
  rw [if_neg (by rw [h]; omega), if_neg (by rw [h]; decide), if_neg (by rw [h]; simp; decide), if_neg (by rw [h]; decide), if_neg (by rw [hs]; decide)]
 refine ⟨?_, n35, n92⟩
 obtain ⟨kd, hkd⟩ : ∃ kd, (tokE keysL signsL t a c).1 = kd := ⟨_, rfl⟩
 rw [hkd] at h8 ⊢
 have hT : tokE keysL signsL t a c = (kd, a + m) := Prod.ext hkd hE
 clear hE h7 hkd
 unfold tokE at hT ⊢
 rw [if_neg (by rintro ⟨h, _⟩; exact n35 h)] at hT
 rw [if_neg (by rw [e0]; rintro ⟨h, _⟩; exact n35 h), e0]
 by_cases hl : isL (bt t a) = true
 ·rw [if_pos hl] at hT ⊢
  obtain ⟨h1, h2⟩ := Prod.mk.inj hT
  rw [W.word h2, W.ext, ← h1, h2]
 rw [if_neg hl] at hT ⊢
 have hnx : isD (bt u (q + 1)) = true ↔ 1 < m ∧ isD (bt t (a + 1)) = true := by
  by_cases h1 : 1 < m
  ·rw [W.eq 1 h1]; simp [h1]
  ·have hm1 : m = 1 := by omega
   have hz := W.nx
   rw [hm1] at hz
   have : isD (bt u (q + 1)) = false := by rcases hz with h | h | h | h | h <;> rw [h] <;> decide
   rw [this]
   simp [h1]
 by_cases hd : isD (bt t a) = true ∨ (bt t a = 46 ∧ isD (bt t (a + 1)) = true)
 ·rw [if_pos hd] at hT
  obtain ⟨h1, hE'⟩ := Prod.mk.inj hT
  have hd' : isD (bt t a) = true ∨ (bt t a = 46 ∧ isD (bt u (q + 1)) = true) := by
   rcases hd with h | ⟨h1, h2⟩
   ·exact .inl h
   ·have : 1 < m := by
     have : a + 1 + 1 ≤ numEnd t a := by
      unfold numEnd
      have hlt : a + 1 < t.size := bt_lt (by intro h; rw [h] at h2; exact absurd h2 (by decide))
      rw [scanW_step hlt (by unfold numP; simp [h2])]
      exact scanW_ge _ _ _
     omega
    exact .inr ⟨h1, hnx.2 ⟨this, h2⟩⟩
  rw [if_pos hd', W.num hm hE', ← h1]
 rw [if_neg hd] at hT
 have hd' : ¬ (isD (bt t a) = true ∨ (bt t a = 46 ∧ isD (bt u (q + 1)) = true)) := by
  rintro (h | ⟨h1, h2⟩)
  ·exact hd (.inl h)
  ·exact hd (.inr ⟨h1, (hnx.1 h2).2⟩)
 rw [if_neg hd']
 by_cases hq : bt t a = 39 ∨ bt t a = 34
 ·rw [if_pos hq] at hT ⊢
  cases hqe : quotE t (bt t a) (a + 1) with
  | none =>
   rw [hqe] at hT
   exact absurd (Prod.mk.inj hT).1.symm h8
  | some e =>
   rw [hqe] at hT
   obtain ⟨h1, h2⟩ := Prod.mk.inj hT
   subst h2
   have hqu : quotE u (bt t a) (q + 1) = some (q + m) := W.quotF (bt t a) (t.size - (a + 1)) 1 m hqe (Nat.le_refl _) (u.size - (q + 1)) (by have := W.su; omega)
   rw [hqu, ← h1]
 rw [if_neg hq] at hT ⊢
 by_cases hs : signLen t a signsL ≠ 0
 ·rw [if_pos hs] at hT
  obtain ⟨h0, h3⟩ := Prod.mk.inj hT
  have h1 : signLen t a signsL = m := by omega
  have h2 := W.sign h1
  rw [h2, if_pos (by omega), ← h0]
 ·rw [if_neg hs] at hT
  exact absurd (Prod.mk.inj hT).1.symm h8
theorem Win.stop (hm : 1 ≤ m) (h92 : bt t a ≠ 92) (hp : ¬ a < pieceEnd t a) : ¬ q < pieceEnd u q := by
 have e0 : bt u q = bt t a := W.eq 0 (by omega)
 have hB : isB (bt t a) = false := by
  cases hb : isB (bt t a) with
  | false => rfl
  | true => exact absurd (by unfold pieceEnd; rw [hb]; simp) hp
 have hat : a < t.size := by have := W.st; omega
 have hC : ¬ a < cmtEnd t a := by
  unfold pieceEnd at hp
  rw [hB, if_neg (by simp), if_neg h92] at hp
  exact hp
 have c1 : Pv.beg t a ⟨#[47, 47]⟩ = false := by
  cases hb : Pv.beg t a ⟨#[47, 47]⟩ with
  | false => rfl
  | true =>
   have h47 : bt t a = 47 := bt_of_beg hb (by decide)
   refine absurd ?_ hC
   unfold cmtEnd
   rw [if_pos hb, scanW_step hat (by rw [h47]; decide)]
   exact scanW_ge _ _ _
 have c2 : Pv.beg t a ⟨#[47, 42]⟩ = false := by
  cases hb : Pv.beg t a ⟨#[47, 42]⟩ with
  | false => rfl
  | true =>
   refine absurd ?_ hC
   unfold cmtEnd
   rw [c1, if_neg (by simp), if_pos hb]
   simp only
   have := scanW_ge (fun j => !Pv.beg t j ⟨#[42, 47]⟩) t.size (a + 2)
   split <;> omega
 have key : ∀ x : ByteArray, x.size = 2 → (∀ j, j < x.size → ¬ isZ (bt x j)) → Pv.beg t a x = false → Pv.beg u q x = false := by
  intro x hx hz hf
  by_cases h2 : 2 ≤ m
  ·have := W.beg (x := x) (k := 0) (by omega)
   rw [Nat.add_zero, Nat.add_zero] at this
   rw [this]; exact hf
  ·exact W.noBeg (k := 0) (by omega) (by omega) hz
 have d1 := key ⟨#[47, 47]⟩ rfl (by unfold isZ; decide) c1
 have d2 := key ⟨#[47, 42]⟩ rfl (by unfold isZ; decide) c2
 unfold pieceEnd cmtEnd
 rw [e0, hB, d1, d2, if_neg (by simp), if_neg h92, if_neg (by simp), if_neg (by simp)]
 omega
end
end Go.Pv

namespace Go.Pv
set_option linter.unusedVariables false
set_option linter.unusedSimpArgs false
def blanksL : List ByteArray := [⟨#[32]⟩, ⟨#[10]⟩, ⟨#[9, 32]⟩, ⟨#[32, 47, 42, 32, 120, 59, 32, 125, 32, 42, 47, 32]⟩, ⟨#[32, 47, 47, 32, 121, 32, 123, 10]⟩, ⟨#[13, 10]⟩, ⟨#[92, 10, 32]⟩]
theorem pe_B {u : ByteArray} {p : Nat} (h : isB (bt u p) = true) : pieceEnd u p = p + 1 := by unfold pieceEnd; rw [if_pos h]
theorem bef_B {u : ByteArray} {p : Nat} {d : Bool} (hp : p ≤ u.size) (h : isB (bt u p) = true) : ∃ d', bef u p d = bef u (p + 1) d' := by
 have := pe_B h
 refine ⟨clearB u p (pieceEnd u p) d, ?_⟩
 rw [bef_step hp (by omega), this]
theorem beg_ff {u x : ByteArray} {p k : Nat} (hk : k < x.size) (h : bt u (p + k) ≠ bt x k) : beg u p x = false := by
 cases hb : beg u p x with
 | false => rfl
 | true => exact absurd ((beg_iff.1 hb).2 k hk) h
theorem bef_blank {u b : ByteArray} (hb : b ∈ blanksL) {p : Nat} (hs : p + b.size ≤ u.size) (H : ∀ k, k < b.size → bt u (p + k) = bt b k) (hstop : ¬ p + b.size < pieceEnd u (p + b.size)) (d : Bool) : ∃ d', bef u p d = (p + b.size, d') := by
 have fin : ∀ d, bef u (p + b.size) d = (p + b.size, d) := fun d => bef_stop hstop
 have one : ∀ q d, q < u.size → isB (bt u q) = true → q + 1 = p + b.size → ∃ d', bef u q d = (p + b.size, d') := fun q d h1 h2 h3 => by
  obtain ⟨d', h⟩ := bef_B (d := d) (show q ≤ u.size by omega) h2
  rw [h, h3, fin]
  exact ⟨_, rfl⟩
 unfold blanksL at hb
 simp only [List.mem_cons, List.not_mem_nil, or_false] at hb
 rcases hb with rfl | rfl | rfl | rfl | rfl | rfl | rfl
 ·have e0 : bt u p = 32 := H 0 (by decide)
  have hz : (⟨#[32]⟩ : ByteArray).size = 1 := rfl
  exact one p d (by omega) (by rw [e0]; decide) (by omega)
 ·have e0 : bt u p = 10 := H 0 (by decide)
  have hz : (⟨#[10]⟩ : ByteArray).size = 1 := rfl
  exact one p d (by omega) (by rw [e0]; decide) (by omega)
 ·have e0 : bt u p = 9 := H 0 (by decide)
  have e1 : bt u (p + 1) = 32 := H 1 (by decide)
  have hz : (⟨#[9, 32]⟩ : ByteArray).size = 2 := rfl
  obtain ⟨d1, h1⟩ := bef_B (d := d) (show p ≤ u.size by omega) (by rw [e0]; decide)
  rw [h1]
  exact one (p + 1) d1 (by omega) (by rw [e1]; decide) (by omega)
 ·have hz : (⟨#[32, 47, 42, 32, 120, 59, 32, 125, 32, 42, 47, 32]⟩ : ByteArray).size = 12 := rfl
  have e0 : bt u p = 32 := H 0 (by decide)
  have e1 : bt u (p + 1) = 47 := H 1 (by decide)
  have e2 : bt u (p + 2) = 42 := H 2 (by decide)
  have e3 : bt u (p + 3) = 32 := H 3 (by decide)
  have e4 : bt u (p + 4) = 120 := H 4 (by decide)
  have e5 : bt u (p + 5) = 59 := H 5 (by decide)
  have e6 : bt u (p + 6) = 32 := H 6 (by decide)
  have e7 : bt u (p + 7) = 125 := H 7 (by decide)
  have e8 : bt u (p + 8) = 32 := H 8 (by decide)
  have e9 : bt u (p + 9) = 42 := H 9 (by decide)
  have e10 : bt u (p + 10) = 47 := H 10 (by decide)
  have e11 : bt u (p + 11) = 32 := H 11 (by decide)
  obtain ⟨d1, h1⟩ := bef_B (d := d) (show p ≤ u.size by omega) (by rw [e0]; decide)
  rw [h1]
  have b1 : beg u (p + 1) ⟨#[47, 47]⟩ = false := beg_ff (k := 1) (by decide) (by rw [e2]; decide)
  have b2 : beg u (p + 1) ⟨#[47, 42]⟩ = true := beg_iff.2 ⟨by show p + 1 + 2 ≤ u.size; omega, fun k hk => by
   have hk : k < 2 := hk
   rcases (show k = 0 ∨ k = 1 by omega) with rfl | rfl
   ·exact e1
   ·exact e2⟩
  have b3 : beg u (p + 9) ⟨#[42, 47]⟩ = true := beg_iff.2 ⟨by show p + 9 + 2 ≤ u.size; omega, fun k hk => by
   have hk : k < 2 := hk
   rcases (show k = 0 ∨ k = 1 by omega) with rfl | rfl
   ·exact e9
   ·exact e10⟩
  have hsc : scanW (fun j => !beg u j ⟨#[42, 47]⟩) u.size (p + 1 + 2) = p + 9 := by
   refine scanW_to (by omega) (by omega) (fun j h2 h3 => ?_) fun _ => by simp [b3]
   have hne : bt u (j + 0) ≠ bt ⟨#[42, 47]⟩ 0 := by
    rcases (show j = p + 3 ∨ j = p + 4 ∨ j = p + 5 ∨ j = p + 6 ∨ j = p + 7 ∨ j = p + 8 by omega) with rfl | rfl | rfl | rfl | rfl | rfl
    ·rw [Nat.add_zero, e3]; decide
    ·rw [Nat.add_zero, e4]; decide
    ·rw [Nat.add_zero, e5]; decide
    ·rw [Nat.add_zero, e6]; decide
    ·rw [Nat.add_zero, e7]; decide
    ·rw [Nat.add_zero, e8]; decide
   simp [beg_ff (k := 0) (by decide) hne]
  have hpe : pieceEnd u (p + 1) = p + 11 := by
   unfold pieceEnd cmtEnd
   rw [if_neg (by rw [e1]; decide), if_neg (by rw [e1]; decide), b1, if_neg (by simp), if_pos b2]
   simp only [hsc]
   rw [if_pos (by omega)]
  rw [bef_step (by omega) (by omega), hpe]
  exact one (p + 11) _ (by omega) (by rw [e11]; decide) (by omega)
 ·have hz : (⟨#[32, 47, 47, 32, 121, 32, 123, 10]⟩ : ByteArray).size = 8 := rfl
  have e0 : bt u p = 32 := H 0 (by decide)
  have e1 : bt u (p + 1) = 47 := H 1 (by decide)
  have e2 : bt u (p + 2) = 47 := H 2 (by decide)
  have e3 : bt u (p + 3) = 32 := H 3 (by decide)
  have e4 : bt u (p + 4) = 121 := H 4 (by decide)
  have e5 : bt u (p + 5) = 32 := H 5 (by decide)
  have e6 : bt u (p + 6) = 123 := H 6 (by decide)
  have e7 : bt u (p + 7) = 10 := H 7 (by decide)
  obtain ⟨d1, h1⟩ := bef_B (d := d) (show p ≤ u.size by omega) (by rw [e0]; decide)
  rw [h1]
  have b1 : beg u (p + 1) ⟨#[47, 47]⟩ = true := beg_iff.2 ⟨by show p + 1 + 2 ≤ u.size; omega, fun k hk => by
   have hk : k < 2 := hk
   rcases (show k = 0 ∨ k = 1 by omega) with rfl | rfl
   ·exact e1
   ·exact e2⟩
  have hsc : scanW (fun j => decide (bt u j ≠ 10)) u.size (p + 1) = p + 7 := by
   refine scanW_to (by omega) (by omega) (fun j h2 h3 => ?_) fun _ => by simp [e7]
   rcases (show j = p + 1 ∨ j = p + 2 ∨ j = p + 3 ∨ j = p + 4 ∨ j = p + 5 ∨ j = p + 6 by omega) with rfl | rfl | rfl | rfl | rfl | rfl
   ·rw [e1]; decide
   ·rw [e2]; decide
   ·rw [e3]; decide
   ·rw [e4]; decide
   ·rw [e5]; decide
   ·rw [e6]; decide
  have hpe : pieceEnd u (p + 1) = p + 7 := by
   unfold pieceEnd cmtEnd
   rw [if_neg (by rw [e1]; decide), if_neg (by rw [e1]; decide), if_pos b1, hsc]
  rw [bef_step (by omega) (by omega), hpe]
  exact one (p + 7) _ (by omega) (by rw [e7]; decide) (by omega)
 ·have e0 : bt u p = 13 := H 0 (by decide)
  have e1 : bt u (p + 1) = 10 := H 1 (by decide)
  have hz : (⟨#[13, 10]⟩ : ByteArray).size = 2 := rfl
  obtain ⟨d1, h1⟩ := bef_B (d := d) (show p ≤ u.size by omega) (by rw [e0]; decide)
  rw [h1]
  exact one (p + 1) d1 (by omega) (by rw [e1]; decide) (by omega)
 ·have e0 : bt u p = 92 := H 0 (by decide)
  have e1 : bt u (p + 1) = 10 := H 1 (by decide)
  have e2 : bt u (p + 2) = 32 := H 2 (by decide)
  have hz : (⟨#[92, 10, 32]⟩ : ByteArray).size = 3 := rfl
  have hpe : pieceEnd u p = p + 2 := by
   unfold pieceEnd
   rw [if_neg (by rw [e0]; decide), if_pos e0, if_pos e1]
  rw [bef_step (by omega) (by omega), hpe]
  exact one (p + 2) _ (by omega) (by rw [e2]; decide) (by omega)
theorem blank_first : ∀ b ∈ blanksL, 0 < b.size ∧ isZ (bt b 0) := by
 unfold isZ
 decide +kernel
def outF (bl : Nat → ByteArray) : Nat → List Tk → List UInt8
 | _, [] => []
 | j, x :: r => (bl j).data.toList ++ (x.text.data.toList ++ outF bl (j + 1) r)
def kt (x : Tk) : Int × ByteArray := (x.kind, x.text)
theorem tl_len (t : ByteArray) : t.data.toList.length = t.size := by simp
theorem befF_bar (t : ByteArray) : ∀ (k i : Nat) (c : Bool), i ≤ t.size → t.size - i ≤ k → ¬ (befF t k i c).1 < pieceEnd t (befF t k i c).1
 | 0, i, c, hi, hk => by
  have := (pieceEnd_le (t := t) (i := i) hi).2
  show ¬ i < pieceEnd t i
  omega
 | k + 1, i, c, hi, hk => by
  rw [befF]
  split
  ·rename_i h
   exact befF_bar t k _ _ (pieceEnd_le hi).2 (by omega)
  ·assumption
theorem bt_listN (t : ByteArray) (a : Nat) (h : a < t.data.toList.length) : ((t.data.toList[a].toNat : Nat) : Int) = bt t a := by
 have h' : a < t.size := by simpa using h
 rw [← bt_get t a h']
 rfl
theorem bt_drop {u : ByteArray} {p : Nat} {L : List UInt8} (h : u.data.toList.drop p = L) (hp : p ≤ u.size) : u.size = p + L.length ∧ ∀ (k : Nat) (hk : k < L.length), bt u (p + k) = ((L[k].toNat : Nat) : Int) := by
 have hl : u.data.toList.length = u.size := by simp
 have hL : L.length = u.size - p := by rw [← h, List.length_drop, hl]
 refine ⟨by omega, fun k hk => ?_⟩
 subst h
 rw [List.getElem_drop]
 exact (bt_listN u (p + k) (by omega)).symm
theorem relex (t : ByteArray) (bl : Nat → ByteArray) (hbl : ∀ j, bl j ∈ blanksL) : ∀ (k i : Nat) (c : Bool), i ≤ t.size → t.size + 1 - i ≤ k → (∀ x ∈ toksF keysL signsL t k i c, x.kind ≠ 7 ∧ x.kind ≠ 8 ∧ x.text ≠ ⟨#[35]⟩) →
  ∀ (u : ByteArray) (p : Nat) (d : Bool) (j K : Nat), u.data.toList.drop p = outF bl j (toksF keysL signsL t k i c) → p ≤ u.size → u.size + 1 - p ≤ K → (toksF keysL signsL u K p d).map kt = (toksF keysL signsL t k i c).map kt
 | 0, i, c, hi, hk, _, _, _, _, _, _, _, _, _ => by omega
 | k + 1, i, c, hi, hk, hx, u, p, d, j, 0, ho, hp, hK => by omega
 | k + 1, i, c, hi, hk, hx, u, p, d, j, K + 1, ho, hp, hK => by
  have hbi : i ≤ (bef t i c).1 ∧ (bef t i c).1 ≤ t.size := befF_inn t _ i c hi
  have hb1 := hbl j
  have hbf := blank_first _ hb1
  have hbs : (bl j).data.toList.length = (bl j).size := by simp
  rw [toksF_succ, restF] at hx ho ⊢
  rw [toksF_succ, restF]
  by_cases he : (bef t i c).1 = t.size
  ·rw [if_pos he] at hx ho ⊢
   have ho' : u.data.toList.drop p = (bl j).data.toList := by rw [ho]; simp [outF]
   obtain ⟨h1, h2⟩ := bt_drop ho' hp
   obtain ⟨d', hb⟩ := bef_blank (u := u) hb1 (p := p) (by omega) (fun k hk => by rw [h2 k (by omega)]; exact bt_listN (bl j) k (by omega)) (by
    have := (pieceEnd_le (t := u) (i := p + (bl j).size) (by omega)).2
    omega) d
   rw [hb, if_pos (by show p + (bl j).size = u.size; omega)]
   rfl
  ·rw [if_neg he] at hx ho ⊢
   have hin := tokE_in keysL signsL (bef t i c).2 (t := t) (i := (bef t i c).1) (by omega)
   obtain ⟨a, ha⟩ : ∃ a, (bef t i c).1 = a := ⟨_, rfl⟩
   obtain ⟨c1, hc1⟩ : ∃ c1, (bef t i c).2 = c1 := ⟨_, rfl⟩
   have hpe : ¬ a < pieceEnd t a := by
    rw [← ha]
    exact befF_bar t _ i c hi (Nat.le_refl _)
   rw [ha, hc1] at hx ho hin ⊢
   rw [ha] at hbi he
   obtain ⟨m, hm⟩ : ∃ m, (tokE keysL signsL t a c1).2 = a + m := ⟨(tokE keysL signsL t a c1).2 - a, by omega⟩
   rw [hm] at hx ho hin ⊢
   have h0 := hx _ List.mem_cons_self
   have hts := extract_size (t := t) (a := a) (e := a + m) (by omega) hin.2
   have htl : (t.extract a (a + m)).data.toList.length = m := by
    rw [tl_len]
    omega
   -- what follows is not empty
   obtain ⟨k', rfl⟩ : ∃ k', k = k' + 1 := ⟨k - 1, by omega⟩
   obtain ⟨rest, hr⟩ : ∃ rest, toksF keysL signsL t (k' + 1) (a + m) false = rest := ⟨_, rfl⟩
   have hrne : ∃ y r, rest = y :: r := by
    rw [← hr, toksF_succ, restF]
    split <;> exact ⟨_, _, rfl⟩
   obtain ⟨y, r, hyr⟩ := hrne
   have hb2 := hbl (j + 1)
   have hbf2 := blank_first _ hb2
   rw [hr] at ho
   have ho' : u.data.toList.drop p = (bl j).data.toList ++ ((t.extract a (a + m)).data.toList ++ outF bl (j + 1) rest) := ho
   obtain ⟨h1, h2⟩ := bt_drop ho' hp
   have hol : 0 < (outF bl (j + 1) rest).length := by
    rw [hyr]
    show 0 < ((bl (j + 1)).data.toList ++ _).length
    have : (bl (j + 1)).data.toList.length = (bl (j + 1)).size := by simp
    rw [List.length_append]
    omega
   rw [List.length_append, List.length_append, htl, hbs] at h1
   have W : Win t a u (p + (bl j).size) m := by
    refine ⟨hin.2, by omega, fun k hk => ?_, ?_⟩
    ·have := h2 ((bl j).size + k) (by rw [List.length_append, List.length_append]; omega)
     rw [List.getElem_append_right (by omega), List.getElem_append_left (by omega)] at this
     rw [show p + (bl j).size + k = p + ((bl j).size + k) by omega, this, bt_listN, extract_bt (by omega) hin.2]
     congr 1
     omega
    ·have := h2 ((bl j).size + m) (by rw [List.length_append, List.length_append]; omega)
     rw [List.getElem_append_right (by omega), List.getElem_append_right (by omega)] at this
     rw [show p + (bl j).size + m = p + ((bl j).size + m) by omega, this]
     have e : (outF bl (j + 1) rest)[(bl j).size + m - (bl j).data.toList.length - (t.extract a (a + m)).data.toList.length]'(by omega) = (bl (j + 1)).data.toList[0]'(by simp; omega) := by
      subst hyr
      have hz : (bl j).size + m - (bl j).data.toList.length - (t.extract a (a + m)).data.toList.length = 0 := by omega
      simp only [hz]
      exact List.getElem_append_left (by rw [tl_len]; omega)
     rw [e, bt_listN]
     exact hbf2.2
   have hW := W.tok (c := c1) (c' := true) (by omega) hm (by intro h; exact h0.1 (by show ((tokE keysL signsL t a c1).1 : Int) = 7; omega)) (by intro h; exact h0.2.1 (by show ((tokE keysL signsL t a c1).1 : Int) = 8; omega)) h0.2.2
   have hst := W.stop (by omega) hW.2.2 hpe
   obtain ⟨d', hb⟩ := bef_blank (u := u) hb1 (p := p) (by omega) (fun k hk => by
    rw [h2 k (by rw [List.length_append]; omega), List.getElem_append_left (by omega)]
    exact bt_listN (bl j) k (by omega)) hst d
   have hT := (W.tok (c := c1) (c' := d') (by omega) hm (by intro h; exact h0.1 (by show ((tokE keysL signsL t a c1).1 : Int) = 7; omega)) (by intro h; exact h0.2.1 (by show ((tokE keysL signsL t a c1).1 : Int) = 8; omega)) h0.2.2).1
   rw [hb]
   simp only
   rw [if_neg (by have := W.su; omega), hT]
   have ih := relex t bl hbl (k' + 1) (a + m) false hin.2 (by omega) (fun x h => hx x (List.mem_cons_of_mem _ (by rw [hr] at h ⊢; exact h))) u (p + (bl j).size + m) false (j + 1) K (by
    rw [hr, show p + (bl j).size + m = p + ((bl j).size + m) by omega, ← List.drop_drop, ho', ← List.append_assoc]
    rw [List.drop_append_of_le_length (by rw [List.length_append]; omega), List.drop_of_length_le (by rw [List.length_append]; omega), List.nil_append]) (by have := W.su; omega) (by omega)
   rw [List.map_cons, List.map_cons]
   simp only
   rw [ih]
   congr 1
   unfold kt
   simp only
   rw [W.ext]
end Go.Pv

namespace Go.Pv
open Go.Proofs
set_option linter.unusedVariables false
set_option linter.unusedSimpArgs false
set_option maxRecDepth 100000
set_option maxHeartbeats 1000000
section
variable {l l' : List Tk} (h : l.map kt = l'.map kt)
include h
theorem kt_get (i : Nat) : (l[i]?).map kt = (l'[i]?).map kt := by rw [← List.getElem?_map, ← List.getElem?_map, h]
theorem kt_len : l.length = l'.length := by have := congrArg List.length h; simpa using this
theorem kt_tokV (v : List Int) (k : Nat) : Sm (tokV l v k) (tokV l' v k) := by
 unfold tokV
 generalize (v.getD k 0).toNat = q
 have hk := kt_get h q
 simp only [List.getD]
 cases h1 : l[q]? with
 | none =>
  cases h2 : l'[q]? with
  | none => exact ⟨rfl, rfl⟩
  | some y => rw [h1, h2] at hk; cases hk
 | some x =>
  cases h2 : l'[q]? with
  | none => rw [h1, h2] at hk; cases hk
  | some y =>
   rw [h1, h2] at hk
   have := Option.some.inj hk
   unfold kt at this
   exact ⟨(Prod.mk.inj this).1, (Prod.mk.inj this).2⟩
theorem kt_SmV (v : List Int) : SmV l v l' v := by
 refine ⟨rfl, fun i => ?_⟩
 have hk := kt_get h (v.getD i.toNat 0).toNat
 have key : (seenAt l v i).map kt = (seenAt l' v i).map kt := by
  unfold seenAt
  split
  ·rfl
  ·revert hk
   cases l[(v.getD i.toNat 0).toNat]? with
   | none =>
    intro hk
    cases h2 : l'[(v.getD i.toNat 0).toNat]? with
    | none => rfl
    | some y => rw [h2] at hk; cases hk
   | some x =>
    intro hk
    cases h2 : l'[(v.getD i.toNat 0).toNat]? with
    | none => rw [h2] at hk; cases hk
    | some y =>
     rw [h2] at hk
     have hk1 := Option.some.inj hk
     unfold kt at hk1
     have h3 : x.kind = y.kind := (Prod.mk.inj hk1).1
     simp only [h3]
     split
     ·rfl
     ·exact hk
 rw [seenAt_T, seenAt_T]
 revert key
 cases seenAt l v i with
 | none =>
  intro key
  cases h2 : seenAt l' v i with
  | none => exact ⟨rfl, rfl, rfl⟩
  | some y => rw [h2] at key; cases key
 | some x =>
  intro key
  cases h2 : seenAt l' v i with
  | none => rw [h2] at key; cases key
  | some y =>
   rw [h2] at key
   have hk1 := Option.some.inj key
   unfold kt at hk1
   exact ⟨rfl, (Prod.mk.inj hk1).1, (Prod.mk.inj hk1).2⟩
theorem kt_gsV (v : List Int) (k : Nat) : gsV l v k = gsV l' v k := by
 unfold gsV
 rw [(kt_tokV h v k).1, (kt_SmV h v).guess]
theorem kt_sight (v : List Int) : ∀ n k, sightF l v n k = sightF l' v n k
 | 0, k => rfl
 | n + 1, k => by
  unfold sightF
  rw [kt_gsV h, (kt_tokV h v k).1, (kt_SmV h v).callT, kt_sight v n, kt_sight v n]
theorem kt_seen (v : List Int) : seenL l v = seenL l' v := by unfold seenL sightL; rw [kt_sight h]
theorem kt_eqc (kk kk' k0 k0' : VK) (v : List Int) (it it' : Nat) : EqC (cxOf kk k0 l v it) (cxOf kk' k0' l' v it') := by
 have hs := kt_seen h v
 have key : ∀ i, (((cxOf kk k0 l v it).tk i).kind, ((cxOf kk k0 l v it).tk i).text) = (((cxOf kk' k0' l' v it').tk i).kind, ((cxOf kk' k0' l' v it').tk i).text) := by
  intro i
  unfold Cx.tk
  show ((match (seenL l v)[i]? with | some p => (match l[p]? with | some t => t | none => zT) | none => zT).kind, (match (seenL l v)[i]? with | some p => (match l[p]? with | some t => t | none => zT) | none => zT).text) = ((match (seenL l' v)[i]? with | some p => (match l'[p]? with | some t => t | none => zT) | none => zT).kind, (match (seenL l' v)[i]? with | some p => (match l'[p]? with | some t => t | none => zT) | none => zT).text)
  rw [hs]
  cases (seenL l' v)[i]? with
  | none => rfl
  | some p =>
   have hk := kt_get h p
   simp only
   cases h1 : l[p]? with
   | none =>
    cases h2 : l'[p]? with
    | none => rfl
    | some y => rw [h1, h2] at hk; cases hk
   | some x =>
    cases h2 : l'[p]? with
    | none => rw [h1, h2] at hk; cases hk
    | some y => rw [h1, h2] at hk; exact Option.some.inj hk
 refine ⟨hs, ?_, ?_, rfl, ?_, ?_⟩
 ·show sgL (sightL l v) = sgL (sightL l' v)
  unfold sightL
  rw [kt_sight h]
 ·show endP l v = endP l' v
  unfold endP
  rw [(kt_tokV h v _).1, kt_len h]
 ·funext i; exact (Prod.mk.inj (key i)).1
 ·funext i; exact (Prod.mk.inj (key i)).2
theorem fres_same {n : Nat} {r r' : Res} (hr : FRes l n r) (hr' : FRes l' n r') : ∃ (a b a' b' X : PV) (e : Int), (X = zeroN ∨ ∃ x : Nd, x.size ≤ 100000 ∧ X = encU x) ∧ r = .ret (.tup [a, b, X, .lit (.int .i64 e)]) ∧ r' = .ret (.tup [a', b', X, .lit (.int .i64 e)]) := by
 obtain ⟨k0, it, L, e, hp, h1⟩ := hr
 obtain ⟨k0', it', L', e', hp', h1'⟩ := hr'
 have hlen := kt_len h
 rw [← hlen] at hp' h1'
 have E := kt_eqc h .any .any k0 k0' (allP l.length) it it'
 rw [kt_seen h, E.parse] at hp
 rw [hp] at hp'
 cases hp'
 have hN : fileN (cxOf .any k0 l (allP l.length) it) L e = fileN (cxOf .any k0' l' (allP l.length) it') L e := by
  unfold fileN
  rw [E.nodeN, E.place]
 rw [hN] at h1
 rcases h1 with ⟨g, rfl⟩ | ⟨g, k1, rfl⟩ <;> rcases h1' with ⟨g', rfl⟩ | ⟨g', k1', rfl⟩
 ·exact ⟨_, _, _, _, _, _, .inl rfl, rfl, rfl⟩
 ·exact absurd g g'
 ·exact absurd g' g
 ·exact ⟨_, _, _, _, _, _, .inr ⟨_, by omega, rfl⟩, rfl, rfl⟩
end
end Go.Pv
