/- Several texts, one behind the other. -/
import Derived.Test.YtkdimfmnialabaaGreatDoorK2
namespace Go.Pv
open Go.Proofs
set_option linter.unusedVariables false
set_option linter.unusedSimpArgs false
set_option maxRecDepth 100000
section
variable {c : Cx} {s : St} {ir : Nat} {at_ n : Nat} {k : Int}
theorem quals_go {i : Nat} (h : i < c.v.length) (hp : c.among i qualsL = true) : c.quals i = c.quals (i + 1) := skip_go h hp
theorem quals_stop {i : Nat} (hp : c.among i qualsL = false) : c.quals i = i := skip_stop hp
theorem quals_le {i : Nat} (h : i ≤ c.v.length) : i ≤ c.quals i ∧ c.quals i ≤ c.v.length := ⟨scanW_ge _ _ _, scanW_le _ h⟩
theorem base_always_c (hc : c.ok) (h0 : at_ ≤ c.v.length) : MG c 247 (fun ir => [ruleV .always ir]) at_ ((c.base .always at_).map fun u => .tup [.lit (.string u), .lit (.int .i64 (c.place at_ : Nat))]) := by
 have hvl := hc.vl
 refine mgm_of (D := []) Tryz.func247 rfl (by kernel_rfl) fun s ir k he hs => ?_
 refine sc_q (place_c hc (show at_ ≤ 1000000000 by omega)) hc he rfl rfl rfl rfl ?_
 refine sw_loop (D := []) ti_ok (by kernel_rfl) (fun n env st b => ∃ (j : Nat) (k : Int), j + n = c.v.length ∧ env = [(0, .av (.cell 0 0)), (1, ruleS .always), (6, .av (.pv (.lit (.int .i64 (c.place at_ : Nat)))))] ∧ st = [rdLoc c (j : Nat) k] ∧ b = s.upd ir none ∧ c.quals j = c.quals (at_)) (c.v.length - (at_)) ⟨[0], [0, 1, 6], rfl, at_, _, by omega, rfl, rfl, rfl, rfl⟩ ?_
 rintro n env st b ⟨j, k, hj, rfl, rfl, rfl, hx⟩
 obtain ⟨t, ht⟩ : ∃ t, c.among j qualsL = t := ⟨_, rfl⟩
 have hq := amongR_c hc (show j ≤ 1000000000 by omega) .tight qualsL (by decide)
 rw [ht] at hq
 refine sc_q hq hc he rfl rfl rfl rfl ?_
 cases t
 rotate_left
 ·have hlt := among_lt hc ht
  rw [quals_go hlt ht] at hx
  refine ⟨n - 1, by omega, [0], [0, 1, 6], rfl, j + 1, k, by omega, rfl, ?_, rfl, hx⟩
  rw [← inc (show j ≤ 1000000000 by omega)]; rfl
 rw [quals_stop ht] at hx
 have hx0 := hx
 clear hq ht
 have hj1 := quals_le (c := c) h0
 rw [← hx] at hj1
 obtain ⟨t1, ht1⟩ : ∃ t, c.among j tagsL = t := ⟨_, rfl⟩
 have hq1 := amongR_c hc (show j ≤ 1000000000 by omega) .tight tagsL (by decide)
 rw [ht1] at hq1
 refine sc_q hq1 hc he rfl rfl rfl rfl ?_
 have htx := text_le hc j
 cases t1
 rotate_left
 ·-- a tag
  have hlt := among_lt hc ht1
  refine sc_q (tok_c hc (show j ≤ 1000000000 by omega)) hc he rfl rfl rfl rfl ?_
  have hnm := name_c (at_ := j + 1) hc (show j + 1 ≤ 1000000000 by omega)
  by_cases h1 : (c.tk (j + 1)).kind = 1
  ·rw [if_pos h1] at hnm
   have hl2 := hc.ltk (at_ := j + 1) (by rw [h1]; decide)
   have htx2 := text_le hc (j + 1)
   refine sc_ok hnm hc he rfl rfl (inc (by omega)) rfl fun k' => ?_
   refine ⟨by show 1 + _ ≤ _; omega, ?_⟩
   refine ⟨by rw [size_app]; show _ + (1 + _) ≤ _; omega, ?_⟩
   refine sw_loop (D := []) ti_ok (by kernel_rfl) (fun n2 env st b => ∃ (q : Nat) (k2 : Int), q + n2 = c.v.length ∧ env = [(0, .av (.cell 0 0)), (6, .av (.pv (.lit (.int .i64 (c.place at_ : Nat))))), (7, .av (.pv (.lit (.string (c.text j ++ (blank ++ c.text (j + 1)))))))] ∧ st = [rdLoc c (q : Nat) k2] ∧ b = s.upd ir none ∧ c.quals q = c.quals (j + 2)) (c.v.length - (j + 2)) ⟨[0], [0, 6, 7], rfl, j + 2, _, by omega, rfl, rfl, rfl, rfl⟩ ?_
   rintro n2 env st b ⟨q, k2, hj, rfl, rfl, rfl, hx2⟩
   obtain ⟨t, ht⟩ : ∃ t, c.among q qualsL = t := ⟨_, rfl⟩
   have hq := amongR_c hc (show q ≤ 1000000000 by omega) .tight qualsL (by decide)
   rw [ht] at hq
   refine sc_q hq hc he rfl rfl rfl rfl ?_
   cases t
   rotate_left
   ·have hlt := among_lt hc ht
    rw [quals_go hlt ht] at hx2
    refine ⟨n2 - 1, by omega, [0], [0, 6, 7], rfl, q + 1, k2, by omega, rfl, ?_, rfl, hx2⟩
    rw [← inc (show q ≤ 1000000000 by omega)]; rfl
   rw [quals_stop ht] at hx2
   clear hq ht
   refine rd_end hc ?_
   rw [show c.base .always at_ = .ok (c.text j ++ (blank ++ c.text (j + 1))) q by unfold Cx.base; simp only [← hx0, Cx.kind]; rw [if_pos ht1, if_pos h1, hx2]]
   exact ⟨k2, rfl, rfl⟩
  ·rw [if_neg h1] at hnm
   refine sc_bad hnm hc he rfl rfl (inc (by omega)) rfl fun a' k' => ?_
   refine rd_end hc ?_
   rw [show c.base .always at_ = .bad by unfold Cx.base; simp only [← hx0, Cx.kind]; rw [if_pos ht1, if_neg h1]]
   exact ⟨a', k', rfl, rfl⟩
 obtain ⟨t2, ht2⟩ : ∃ t, c.among j basesL = t := ⟨_, rfl⟩
 have hq2 := amongR_c hc (show j ≤ 1000000000 by omega) .tight basesL (by decide)
 rw [ht2] at hq2
 refine sc_pure (fun s _ => bases_c s) rfl rfl ?_
 refine sc_q hq2 hc he rfl rfl rfl rfl ?_
 cases t2
 rotate_left
 ·-- words of bases
  refine sw_loop (D := []) ti_ok (by kernel_rfl) (fun n env st b => ∃ (w : Nat) (a : ByteArray) (k : Int), w + n = c.v.length ∧ a.size ≤ w * 1000001 ∧ env = [(0, .av (.cell 0 0)), (6, .av (.pv (.lit (.int .i64 (c.place at_ : Nat))))), (7, .av (.pv (.lit (.string a))))] ∧ st = [rdLoc c (w : Nat) k] ∧ b = s.upd ir none ∧ c.wordsF basesL (c.v.length - w) w a = c.words basesL j) (c.v.length - j) ⟨[0], [0, 6, 7], rfl, j, ⟨#[]⟩, k, by omega, Nat.zero_le _, rfl, rfl, rfl, rfl⟩ ?_
  rintro n3 env st b ⟨w, a, k3, hw, ha, rfl, rfl, rfl, hwx⟩
  obtain ⟨t, ht⟩ : ∃ t, c.among w basesL = t := ⟨_, rfl⟩
  have hq := amongR_c hc (show w ≤ 1000000000 by omega) .tight basesL (by decide)
  rw [ht] at hq
  refine sc_pure (fun s _ => bases_c s) rfl rfl ?_
  refine sc_q hq hc he rfl rfl rfl rfl ?_
  cases t
  ·rw [wordsF_stop ht] at hwx
   refine sw_loop (D := []) ti_ok (by kernel_rfl) (fun n2 env st b => ∃ (q : Nat) (k2 : Int), q + n2 = c.v.length ∧ env = [(0, .av (.cell 0 0)), (6, .av (.pv (.lit (.int .i64 (c.place at_ : Nat))))), (7, .av (.pv (.lit (.string a))))] ∧ st = [rdLoc c (q : Nat) k2] ∧ b = s.upd ir none ∧ c.quals q = c.quals (w)) (c.v.length - (w)) ⟨[0], [0, 6, 7], rfl, w, _, by omega, rfl, rfl, rfl, rfl⟩ ?_
   rintro n2 env st b ⟨q, k2, hj, rfl, rfl, rfl, hx2⟩
   obtain ⟨t, ht⟩ : ∃ t, c.among q qualsL = t := ⟨_, rfl⟩
   have hq := amongR_c hc (show q ≤ 1000000000 by omega) .tight qualsL (by decide)
   rw [ht] at hq
   refine sc_q hq hc he rfl rfl rfl rfl ?_
   cases t
   rotate_left
   ·have hlt := among_lt hc ht
    rw [quals_go hlt ht] at hx2
    refine ⟨n2 - 1, by omega, [0], [0, 6, 7], rfl, q + 1, k2, by omega, rfl, ?_, rfl, hx2⟩
    rw [← inc (show q ≤ 1000000000 by omega)]; rfl
   rw [quals_stop ht] at hx2
   clear hq ht
   refine rd_end hc ?_
   rw [show c.base .always at_ = .ok a q by unfold Cx.base; simp only [← hx0, Cx.kind]; rw [if_neg (by rw [ht1]; simp), if_pos ht2, ← hwx, hx2]]
   exact ⟨k2, rfl, rfl⟩
  ·have hlt := among_lt hc ht
   rw [wordsF_go hc ht] at hwx
   have hb : a.size ≤ 2000000000000 := by omega
   have htx := text_le hc w
   rintro (_ | _) h1
   ·have h1 := of_decide_eq_false h1
    rw [if_neg h1] at hwx
    refine ⟨by show a.size + 1 ≤ _; omega, ?_⟩
    refine sc_q (tok_c hc (show w ≤ 1000000000 by omega)) hc he rfl rfl rfl rfl ?_
    refine ⟨by rw [size_app]; show a.size + 1 + _ ≤ _; omega, ?_⟩
    refine ⟨n3 - 1, by omega, [0], [0, 6, 7], rfl, w + 1, _, k3, by omega, ?_, rfl, ?_, rfl, hwx⟩
    ·rw [size_app, size_app]; show a.size + 1 + _ ≤ _; show _ + (c.tk w).text.size ≤ _; omega
    ·rw [← inc (show w ≤ 1000000000 by omega)]; rfl
   ·have h1 := of_decide_eq_true h1
    rw [if_pos h1] at hwx
    refine sc_q (tok_c hc (show w ≤ 1000000000 by omega)) hc he rfl rfl rfl rfl ?_
    refine ⟨by omega, ?_⟩
    refine ⟨n3 - 1, by omega, [0], [0, 6, 7], rfl, w + 1, _, k3, by omega, ?_, rfl, ?_, rfl, hwx⟩
    ·rw [size_app]; show _ + (c.tk w).text.size ≤ _; omega
    ·rw [← inc (show w ≤ 1000000000 by omega)]; rfl
 have hnm := name_c (at_ := j) hc (show j ≤ 1000000000 by omega)
 refine sc_q (tok_c hc (show j ≤ 1000000000 by omega)) hc he rfl rfl rfl rfl ?_
 rintro (_ | _) h1
 ·have h1 := of_decide_eq_false h1
  refine sc_bad wrong_m hc he rfl rfl rfl rfl fun a' k' => ?_
  refine rd_end hc ?_
  rw [show c.base .always at_ = .bad by unfold Cx.base; simp only [← hx0, Cx.kind]; rw [if_neg (by rw [ht1]; simp), if_neg (by rw [ht2]; simp), if_neg (fun h => h1 h.1)]]
  exact ⟨a', k', rfl, rfl⟩
 have h1 := of_decide_eq_true h1
 have hl2 := hc.ltk (at_ := j) (by rw [h1]; decide)
 rw [if_pos h1] at hnm
 refine sc_pure (fun s _ => always_c s) rfl rfl ?_
 refine sc_ok hnm hc he rfl rfl rfl rfl fun k' => ?_
 refine sw_loop (D := []) ti_ok (by kernel_rfl) (fun n2 env st b => ∃ (q : Nat) (k2 : Int), q + n2 = c.v.length ∧ env = [(0, .av (.cell 0 0)), (6, .av (.pv (.lit (.int .i64 (c.place at_ : Nat))))), (7, .av (.pv (.lit (.string (c.text j)))))] ∧ st = [rdLoc c (q : Nat) k2] ∧ b = s.upd ir none ∧ c.quals q = c.quals (j+1)) (c.v.length - (j+1)) ⟨[0], [0, 6, 7], rfl, j+1, _, by omega, rfl, rfl, rfl, rfl⟩ ?_
 rintro n2 env st b ⟨q, k2, hj, rfl, rfl, rfl, hx2⟩
 obtain ⟨t, ht⟩ : ∃ t, c.among q qualsL = t := ⟨_, rfl⟩
 have hq := amongR_c hc (show q ≤ 1000000000 by omega) .tight qualsL (by decide)
 rw [ht] at hq
 refine sc_q hq hc he rfl rfl rfl rfl ?_
 cases t
 rotate_left
 ·have hlt := among_lt hc ht
  rw [quals_go hlt ht] at hx2
  refine ⟨n2 - 1, by omega, [0], [0, 6, 7], rfl, q + 1, k2, by omega, rfl, ?_, rfl, hx2⟩
  rw [← inc (show q ≤ 1000000000 by omega)]; rfl
 rw [quals_stop ht] at hx2
 clear hq ht
 refine rd_end hc ?_
 rw [show c.base .always at_ = .ok (c.text j) q by unfold Cx.base; simp only [← hx0, Cx.kind]; rw [if_neg (by rw [ht1]; simp), if_neg (by rw [ht2]; simp), if_pos ⟨h1, rfl⟩, hx2]]
 exact ⟨k2, rfl, rfl⟩
theorem base_typed_c (hc : c.ok) (h0 : at_ ≤ c.v.length) : MG c 247 (fun ir => [ruleV .typed ir]) at_ ((c.base .typed at_).map fun u => .tup [.lit (.string u), .lit (.int .i64 (c.place at_ : Nat))]) := by
 have hvl := hc.vl
 refine mgm_of (D := []) Tryz.func247 rfl (by kernel_rfl) fun s ir k he hs => ?_
 refine sc_q (place_c hc (show at_ ≤ 1000000000 by omega)) hc he rfl rfl rfl rfl ?_
 refine sw_loop (D := []) ti_ok (by kernel_rfl) (fun n env st b => ∃ (j : Nat) (k : Int), j + n = c.v.length ∧ env = [(0, .av (.cell 0 0)), (1, ruleS .typed), (6, .av (.pv (.lit (.int .i64 (c.place at_ : Nat)))))] ∧ st = [rdLoc c (j : Nat) k] ∧ b = s.upd ir none ∧ c.quals j = c.quals (at_)) (c.v.length - (at_)) ⟨[0], [0, 1, 6], rfl, at_, _, by omega, rfl, rfl, rfl, rfl⟩ ?_
 rintro n env st b ⟨j, k, hj, rfl, rfl, rfl, hx⟩
 obtain ⟨t, ht⟩ : ∃ t, c.among j qualsL = t := ⟨_, rfl⟩
 have hq := amongR_c hc (show j ≤ 1000000000 by omega) .tight qualsL (by decide)
 rw [ht] at hq
 refine sc_q hq hc he rfl rfl rfl rfl ?_
 cases t
 rotate_left
 ·have hlt := among_lt hc ht
  rw [quals_go hlt ht] at hx
  refine ⟨n - 1, by omega, [0], [0, 1, 6], rfl, j + 1, k, by omega, rfl, ?_, rfl, hx⟩
  rw [← inc (show j ≤ 1000000000 by omega)]; rfl
 rw [quals_stop ht] at hx
 have hx0 := hx
 clear hq ht
 have hj1 := quals_le (c := c) h0
 rw [← hx] at hj1
 obtain ⟨t1, ht1⟩ : ∃ t, c.among j tagsL = t := ⟨_, rfl⟩
 have hq1 := amongR_c hc (show j ≤ 1000000000 by omega) .tight tagsL (by decide)
 rw [ht1] at hq1
 refine sc_q hq1 hc he rfl rfl rfl rfl ?_
 have htx := text_le hc j
 cases t1
 rotate_left
 ·-- a tag
  have hlt := among_lt hc ht1
  refine sc_q (tok_c hc (show j ≤ 1000000000 by omega)) hc he rfl rfl rfl rfl ?_
  have hnm := name_c (at_ := j + 1) hc (show j + 1 ≤ 1000000000 by omega)
  by_cases h1 : (c.tk (j + 1)).kind = 1
  ·rw [if_pos h1] at hnm
   have hl2 := hc.ltk (at_ := j + 1) (by rw [h1]; decide)
   have htx2 := text_le hc (j + 1)
   refine sc_ok hnm hc he rfl rfl (inc (by omega)) rfl fun k' => ?_
   refine ⟨by show 1 + _ ≤ _; omega, ?_⟩
   refine ⟨by rw [size_app]; show _ + (1 + _) ≤ _; omega, ?_⟩
   refine sw_loop (D := []) ti_ok (by kernel_rfl) (fun n2 env st b => ∃ (q : Nat) (k2 : Int), q + n2 = c.v.length ∧ env = [(0, .av (.cell 0 0)), (6, .av (.pv (.lit (.int .i64 (c.place at_ : Nat))))), (7, .av (.pv (.lit (.string (c.text j ++ (blank ++ c.text (j + 1)))))))] ∧ st = [rdLoc c (q : Nat) k2] ∧ b = s.upd ir none ∧ c.quals q = c.quals (j + 2)) (c.v.length - (j + 2)) ⟨[0], [0, 6, 7], rfl, j + 2, _, by omega, rfl, rfl, rfl, rfl⟩ ?_
   rintro n2 env st b ⟨q, k2, hj, rfl, rfl, rfl, hx2⟩
   obtain ⟨t, ht⟩ : ∃ t, c.among q qualsL = t := ⟨_, rfl⟩
   have hq := amongR_c hc (show q ≤ 1000000000 by omega) .tight qualsL (by decide)
   rw [ht] at hq
   refine sc_q hq hc he rfl rfl rfl rfl ?_
   cases t
   rotate_left
   ·have hlt := among_lt hc ht
    rw [quals_go hlt ht] at hx2
    refine ⟨n2 - 1, by omega, [0], [0, 6, 7], rfl, q + 1, k2, by omega, rfl, ?_, rfl, hx2⟩
    rw [← inc (show q ≤ 1000000000 by omega)]; rfl
   rw [quals_stop ht] at hx2
   clear hq ht
   refine rd_end hc ?_
   rw [show c.base .typed at_ = .ok (c.text j ++ (blank ++ c.text (j + 1))) q by unfold Cx.base; simp only [← hx0, Cx.kind]; rw [if_pos ht1, if_pos h1, hx2]]
   exact ⟨k2, rfl, rfl⟩
  ·rw [if_neg h1] at hnm
   refine sc_bad hnm hc he rfl rfl (inc (by omega)) rfl fun a' k' => ?_
   refine rd_end hc ?_
   rw [show c.base .typed at_ = .bad by unfold Cx.base; simp only [← hx0, Cx.kind]; rw [if_pos ht1, if_neg h1]]
   exact ⟨a', k', rfl, rfl⟩
 obtain ⟨t2, ht2⟩ : ∃ t, c.among j basesL = t := ⟨_, rfl⟩
 have hq2 := amongR_c hc (show j ≤ 1000000000 by omega) .tight basesL (by decide)
 rw [ht2] at hq2
 refine sc_pure (fun s _ => bases_c s) rfl rfl ?_
 refine sc_q hq2 hc he rfl rfl rfl rfl ?_
 cases t2
 rotate_left
 ·-- words of bases
  refine sw_loop (D := []) ti_ok (by kernel_rfl) (fun n env st b => ∃ (w : Nat) (a : ByteArray) (k : Int), w + n = c.v.length ∧ a.size ≤ w * 1000001 ∧ env = [(0, .av (.cell 0 0)), (6, .av (.pv (.lit (.int .i64 (c.place at_ : Nat))))), (7, .av (.pv (.lit (.string a))))] ∧ st = [rdLoc c (w : Nat) k] ∧ b = s.upd ir none ∧ c.wordsF basesL (c.v.length - w) w a = c.words basesL j) (c.v.length - j) ⟨[0], [0, 6, 7], rfl, j, ⟨#[]⟩, k, by omega, Nat.zero_le _, rfl, rfl, rfl, rfl⟩ ?_
  rintro n3 env st b ⟨w, a, k3, hw, ha, rfl, rfl, rfl, hwx⟩
  obtain ⟨t, ht⟩ : ∃ t, c.among w basesL = t := ⟨_, rfl⟩
  have hq := amongR_c hc (show w ≤ 1000000000 by omega) .tight basesL (by decide)
  rw [ht] at hq
  refine sc_pure (fun s _ => bases_c s) rfl rfl ?_
  refine sc_q hq hc he rfl rfl rfl rfl ?_
  cases t
  ·rw [wordsF_stop ht] at hwx
   refine sw_loop (D := []) ti_ok (by kernel_rfl) (fun n2 env st b => ∃ (q : Nat) (k2 : Int), q + n2 = c.v.length ∧ env = [(0, .av (.cell 0 0)), (6, .av (.pv (.lit (.int .i64 (c.place at_ : Nat))))), (7, .av (.pv (.lit (.string a))))] ∧ st = [rdLoc c (q : Nat) k2] ∧ b = s.upd ir none ∧ c.quals q = c.quals (w)) (c.v.length - (w)) ⟨[0], [0, 6, 7], rfl, w, _, by omega, rfl, rfl, rfl, rfl⟩ ?_
   rintro n2 env st b ⟨q, k2, hj, rfl, rfl, rfl, hx2⟩
   obtain ⟨t, ht⟩ : ∃ t, c.among q qualsL = t := ⟨_, rfl⟩
   have hq := amongR_c hc (show q ≤ 1000000000 by omega) .tight qualsL (by decide)
   rw [ht] at hq
   refine sc_q hq hc he rfl rfl rfl rfl ?_
   cases t
   rotate_left
   ·have hlt := among_lt hc ht
    rw [quals_go hlt ht] at hx2
    refine ⟨n2 - 1, by omega, [0], [0, 6, 7], rfl, q + 1, k2, by omega, rfl, ?_, rfl, hx2⟩
    rw [← inc (show q ≤ 1000000000 by omega)]; rfl
   rw [quals_stop ht] at hx2
   clear hq ht
   refine rd_end hc ?_
   rw [show c.base .typed at_ = .ok a q by unfold Cx.base; simp only [← hx0, Cx.kind]; rw [if_neg (by rw [ht1]; simp), if_pos ht2, ← hwx, hx2]]
   exact ⟨k2, rfl, rfl⟩
  ·have hlt := among_lt hc ht
   rw [wordsF_go hc ht] at hwx
   have hb : a.size ≤ 2000000000000 := by omega
   have htx := text_le hc w
   rintro (_ | _) h1
   ·have h1 := of_decide_eq_false h1
    rw [if_neg h1] at hwx
    refine ⟨by show a.size + 1 ≤ _; omega, ?_⟩
    refine sc_q (tok_c hc (show w ≤ 1000000000 by omega)) hc he rfl rfl rfl rfl ?_
    refine ⟨by rw [size_app]; show a.size + 1 + _ ≤ _; omega, ?_⟩
    refine ⟨n3 - 1, by omega, [0], [0, 6, 7], rfl, w + 1, _, k3, by omega, ?_, rfl, ?_, rfl, hwx⟩
    ·rw [size_app, size_app]; show a.size + 1 + _ ≤ _; show _ + (c.tk w).text.size ≤ _; omega
    ·rw [← inc (show w ≤ 1000000000 by omega)]; rfl
   ·have h1 := of_decide_eq_true h1
    rw [if_pos h1] at hwx
    refine sc_q (tok_c hc (show w ≤ 1000000000 by omega)) hc he rfl rfl rfl rfl ?_
    refine ⟨by omega, ?_⟩
    refine ⟨n3 - 1, by omega, [0], [0, 6, 7], rfl, w + 1, _, k3, by omega, ?_, rfl, ?_, rfl, hwx⟩
    ·rw [size_app]; show _ + (c.tk w).text.size ≤ _; omega
    ·rw [← inc (show w ≤ 1000000000 by omega)]; rfl
 have hnm := name_c (at_ := j) hc (show j ≤ 1000000000 by omega)
 refine sc_q (tok_c hc (show j ≤ 1000000000 by omega)) hc he rfl rfl rfl rfl ?_
 rintro (_ | _) h1
 ·have h1 := of_decide_eq_false h1
  refine sc_bad wrong_m hc he rfl rfl rfl rfl fun a' k' => ?_
  refine rd_end hc ?_
  rw [show c.base .typed at_ = .bad by unfold Cx.base; simp only [← hx0, Cx.kind]; rw [if_neg (by rw [ht1]; simp), if_neg (by rw [ht2]; simp), if_neg (fun h => h1 h.1)]]
  exact ⟨a', k', rfl, rfl⟩
 have h1 := of_decide_eq_true h1
 have hl2 := hc.ltk (at_ := j) (by rw [h1]; decide)
 rw [if_pos h1] at hnm
 obtain ⟨t3, ht3⟩ : ∃ t, c.typed j = t := ⟨_, rfl⟩
 have hq3 := typed_c hc (show j ≤ c.v.length by omega)
 rw [ht3] at hq3
 refine sc_q (xs := []) hq3 hc he rfl rfl rfl rfl ?_
 cases t3
 ·refine sc_bad wrong_m hc he rfl rfl rfl rfl fun a' k' => ?_
  refine rd_end hc ?_
  rw [show c.base .typed at_ = .bad by unfold Cx.base; simp only [← hx0, Cx.kind]; rw [if_neg (by rw [ht1]; simp), if_neg (by rw [ht2]; simp), if_neg (fun h => by have := h.2; unfold Cx.nm at this; rw [ht3] at this; cases this)]]
  exact ⟨a', k', rfl, rfl⟩
 refine sc_ok hnm hc he rfl rfl rfl rfl fun k' => ?_
 refine sw_loop (D := []) ti_ok (by kernel_rfl) (fun n2 env st b => ∃ (q : Nat) (k2 : Int), q + n2 = c.v.length ∧ env = [(0, .av (.cell 0 0)), (6, .av (.pv (.lit (.int .i64 (c.place at_ : Nat))))), (7, .av (.pv (.lit (.string (c.text j)))))] ∧ st = [rdLoc c (q : Nat) k2] ∧ b = s.upd ir none ∧ c.quals q = c.quals (j+1)) (c.v.length - (j+1)) ⟨[0], [0, 6, 7], rfl, j+1, _, by omega, rfl, rfl, rfl, rfl⟩ ?_
 rintro n2 env st b ⟨q, k2, hj, rfl, rfl, rfl, hx2⟩
 obtain ⟨t, ht⟩ : ∃ t, c.among q qualsL = t := ⟨_, rfl⟩
 have hq := amongR_c hc (show q ≤ 1000000000 by omega) .tight qualsL (by decide)
 rw [ht] at hq
 refine sc_q hq hc he rfl rfl rfl rfl ?_
 cases t
 rotate_left
 ·have hlt := among_lt hc ht
  rw [quals_go hlt ht] at hx2
  refine ⟨n2 - 1, by omega, [0], [0, 6, 7], rfl, q + 1, k2, by omega, rfl, ?_, rfl, hx2⟩
  rw [← inc (show q ≤ 1000000000 by omega)]; rfl
 rw [quals_stop ht] at hx2
 clear hq ht
 refine rd_end hc ?_
 rw [show c.base .typed at_ = .ok (c.text j) q by unfold Cx.base; simp only [← hx0, Cx.kind]; rw [if_neg (by rw [ht1]; simp), if_neg (by rw [ht2]; simp), if_pos ⟨h1, ht3⟩, hx2]]
 exact ⟨k2, rfl, rfl⟩
theorem base_casted_c (hc : c.ok) (h0 : at_ ≤ c.v.length) : MG c 247 (fun ir => [ruleV .casted ir]) at_ ((c.base .casted at_).map fun u => .tup [.lit (.string u), .lit (.int .i64 (c.place at_ : Nat))]) := by
 have hvl := hc.vl
 refine mgm_of (D := []) Tryz.func247 rfl (by kernel_rfl) fun s ir k he hs => ?_
 refine sc_q (place_c hc (show at_ ≤ 1000000000 by omega)) hc he rfl rfl rfl rfl ?_
 refine sw_loop (D := []) ti_ok (by kernel_rfl) (fun n env st b => ∃ (j : Nat) (k : Int), j + n = c.v.length ∧ env = [(0, .av (.cell 0 0)), (1, ruleS .casted), (6, .av (.pv (.lit (.int .i64 (c.place at_ : Nat)))))] ∧ st = [rdLoc c (j : Nat) k] ∧ b = s.upd ir none ∧ c.quals j = c.quals (at_)) (c.v.length - (at_)) ⟨[0], [0, 1, 6], rfl, at_, _, by omega, rfl, rfl, rfl, rfl⟩ ?_
 rintro n env st b ⟨j, k, hj, rfl, rfl, rfl, hx⟩
 obtain ⟨t, ht⟩ : ∃ t, c.among j qualsL = t := ⟨_, rfl⟩
 have hq := amongR_c hc (show j ≤ 1000000000 by omega) .tight qualsL (by decide)
 rw [ht] at hq
 refine sc_q hq hc he rfl rfl rfl rfl ?_
 cases t
 rotate_left
 ·have hlt := among_lt hc ht
  rw [quals_go hlt ht] at hx
  refine ⟨n - 1, by omega, [0], [0, 1, 6], rfl, j + 1, k, by omega, rfl, ?_, rfl, hx⟩
  rw [← inc (show j ≤ 1000000000 by omega)]; rfl
 rw [quals_stop ht] at hx
 have hx0 := hx
 clear hq ht
 have hj1 := quals_le (c := c) h0
 rw [← hx] at hj1
 obtain ⟨t1, ht1⟩ : ∃ t, c.among j tagsL = t := ⟨_, rfl⟩
 have hq1 := amongR_c hc (show j ≤ 1000000000 by omega) .tight tagsL (by decide)
 rw [ht1] at hq1
 refine sc_q hq1 hc he rfl rfl rfl rfl ?_
 have htx := text_le hc j
 cases t1
 rotate_left
 ·-- a tag
  have hlt := among_lt hc ht1
  refine sc_q (tok_c hc (show j ≤ 1000000000 by omega)) hc he rfl rfl rfl rfl ?_
  have hnm := name_c (at_ := j + 1) hc (show j + 1 ≤ 1000000000 by omega)
  by_cases h1 : (c.tk (j + 1)).kind = 1
  ·rw [if_pos h1] at hnm
   have hl2 := hc.ltk (at_ := j + 1) (by rw [h1]; decide)
   have htx2 := text_le hc (j + 1)
   refine sc_ok hnm hc he rfl rfl (inc (by omega)) rfl fun k' => ?_
   refine ⟨by show 1 + _ ≤ _; omega, ?_⟩
   refine ⟨by rw [size_app]; show _ + (1 + _) ≤ _; omega, ?_⟩
   refine sw_loop (D := []) ti_ok (by kernel_rfl) (fun n2 env st b => ∃ (q : Nat) (k2 : Int), q + n2 = c.v.length ∧ env = [(0, .av (.cell 0 0)), (6, .av (.pv (.lit (.int .i64 (c.place at_ : Nat))))), (7, .av (.pv (.lit (.string (c.text j ++ (blank ++ c.text (j + 1)))))))] ∧ st = [rdLoc c (q : Nat) k2] ∧ b = s.upd ir none ∧ c.quals q = c.quals (j + 2)) (c.v.length - (j + 2)) ⟨[0], [0, 6, 7], rfl, j + 2, _, by omega, rfl, rfl, rfl, rfl⟩ ?_
   rintro n2 env st b ⟨q, k2, hj, rfl, rfl, rfl, hx2⟩
   obtain ⟨t, ht⟩ : ∃ t, c.among q qualsL = t := ⟨_, rfl⟩
   have hq := amongR_c hc (show q ≤ 1000000000 by omega) .tight qualsL (by decide)
   rw [ht] at hq
   refine sc_q hq hc he rfl rfl rfl rfl ?_
   cases t
   rotate_left
   ·have hlt := among_lt hc ht
    rw [quals_go hlt ht] at hx2
    refine ⟨n2 - 1, by omega, [0], [0, 6, 7], rfl, q + 1, k2, by omega, rfl, ?_, rfl, hx2⟩
    rw [← inc (show q ≤ 1000000000 by omega)]; rfl
   rw [quals_stop ht] at hx2
   clear hq ht
   refine rd_end hc ?_
   rw [show c.base .casted at_ = .ok (c.text j ++ (blank ++ c.text (j + 1))) q by unfold Cx.base; simp only [← hx0, Cx.kind]; rw [if_pos ht1, if_pos h1, hx2]]
   exact ⟨k2, rfl, rfl⟩
  ·rw [if_neg h1] at hnm
   refine sc_bad hnm hc he rfl rfl (inc (by omega)) rfl fun a' k' => ?_
   refine rd_end hc ?_
   rw [show c.base .casted at_ = .bad by unfold Cx.base; simp only [← hx0, Cx.kind]; rw [if_pos ht1, if_neg h1]]
   exact ⟨a', k', rfl, rfl⟩
 obtain ⟨t2, ht2⟩ : ∃ t, c.among j basesL = t := ⟨_, rfl⟩
 have hq2 := amongR_c hc (show j ≤ 1000000000 by omega) .tight basesL (by decide)
 rw [ht2] at hq2
 refine sc_pure (fun s _ => bases_c s) rfl rfl ?_
 refine sc_q hq2 hc he rfl rfl rfl rfl ?_
 cases t2
 rotate_left
 ·-- words of bases
  refine sw_loop (D := []) ti_ok (by kernel_rfl) (fun n env st b => ∃ (w : Nat) (a : ByteArray) (k : Int), w + n = c.v.length ∧ a.size ≤ w * 1000001 ∧ env = [(0, .av (.cell 0 0)), (6, .av (.pv (.lit (.int .i64 (c.place at_ : Nat))))), (7, .av (.pv (.lit (.string a))))] ∧ st = [rdLoc c (w : Nat) k] ∧ b = s.upd ir none ∧ c.wordsF basesL (c.v.length - w) w a = c.words basesL j) (c.v.length - j) ⟨[0], [0, 6, 7], rfl, j, ⟨#[]⟩, k, by omega, Nat.zero_le _, rfl, rfl, rfl, rfl⟩ ?_
  rintro n3 env st b ⟨w, a, k3, hw, ha, rfl, rfl, rfl, hwx⟩
  obtain ⟨t, ht⟩ : ∃ t, c.among w basesL = t := ⟨_, rfl⟩
  have hq := amongR_c hc (show w ≤ 1000000000 by omega) .tight basesL (by decide)
  rw [ht] at hq
  refine sc_pure (fun s _ => bases_c s) rfl rfl ?_
  refine sc_q hq hc he rfl rfl rfl rfl ?_
  cases t
  ·rw [wordsF_stop ht] at hwx
   refine sw_loop (D := []) ti_ok (by kernel_rfl) (fun n2 env st b => ∃ (q : Nat) (k2 : Int), q + n2 = c.v.length ∧ env = [(0, .av (.cell 0 0)), (6, .av (.pv (.lit (.int .i64 (c.place at_ : Nat))))), (7, .av (.pv (.lit (.string a))))] ∧ st = [rdLoc c (q : Nat) k2] ∧ b = s.upd ir none ∧ c.quals q = c.quals (w)) (c.v.length - (w)) ⟨[0], [0, 6, 7], rfl, w, _, by omega, rfl, rfl, rfl, rfl⟩ ?_
   rintro n2 env st b ⟨q, k2, hj, rfl, rfl, rfl, hx2⟩
   obtain ⟨t, ht⟩ : ∃ t, c.among q qualsL = t := ⟨_, rfl⟩
   have hq := amongR_c hc (show q ≤ 1000000000 by omega) .tight qualsL (by decide)
   rw [ht] at hq
   refine sc_q hq hc he rfl rfl rfl rfl ?_
   cases t
   rotate_left
   ·have hlt := among_lt hc ht
    rw [quals_go hlt ht] at hx2
    refine ⟨n2 - 1, by omega, [0], [0, 6, 7], rfl, q + 1, k2, by omega, rfl, ?_, rfl, hx2⟩
    rw [← inc (show q ≤ 1000000000 by omega)]; rfl
   rw [quals_stop ht] at hx2
   clear hq ht
   refine rd_end hc ?_
   rw [show c.base .casted at_ = .ok a q by unfold Cx.base; simp only [← hx0, Cx.kind]; rw [if_neg (by rw [ht1]; simp), if_pos ht2, ← hwx, hx2]]
   exact ⟨k2, rfl, rfl⟩
  ·have hlt := among_lt hc ht
   rw [wordsF_go hc ht] at hwx
   have hb : a.size ≤ 2000000000000 := by omega
   have htx := text_le hc w
   rintro (_ | _) h1
   ·have h1 := of_decide_eq_false h1
    rw [if_neg h1] at hwx
    refine ⟨by show a.size + 1 ≤ _; omega, ?_⟩
    refine sc_q (tok_c hc (show w ≤ 1000000000 by omega)) hc he rfl rfl rfl rfl ?_
    refine ⟨by rw [size_app]; show a.size + 1 + _ ≤ _; omega, ?_⟩
    refine ⟨n3 - 1, by omega, [0], [0, 6, 7], rfl, w + 1, _, k3, by omega, ?_, rfl, ?_, rfl, hwx⟩
    ·rw [size_app, size_app]; show a.size + 1 + _ ≤ _; show _ + (c.tk w).text.size ≤ _; omega
    ·rw [← inc (show w ≤ 1000000000 by omega)]; rfl
   ·have h1 := of_decide_eq_true h1
    rw [if_pos h1] at hwx
    refine sc_q (tok_c hc (show w ≤ 1000000000 by omega)) hc he rfl rfl rfl rfl ?_
    refine ⟨by omega, ?_⟩
    refine ⟨n3 - 1, by omega, [0], [0, 6, 7], rfl, w + 1, _, k3, by omega, ?_, rfl, ?_, rfl, hwx⟩
    ·rw [size_app]; show _ + (c.tk w).text.size ≤ _; omega
    ·rw [← inc (show w ≤ 1000000000 by omega)]; rfl
 have hnm := name_c (at_ := j) hc (show j ≤ 1000000000 by omega)
 refine sc_q (tok_c hc (show j ≤ 1000000000 by omega)) hc he rfl rfl rfl rfl ?_
 rintro (_ | _) h1
 ·have h1 := of_decide_eq_false h1
  refine sc_bad wrong_m hc he rfl rfl rfl rfl fun a' k' => ?_
  refine rd_end hc ?_
  rw [show c.base .casted at_ = .bad by unfold Cx.base; simp only [← hx0, Cx.kind]; rw [if_neg (by rw [ht1]; simp), if_neg (by rw [ht2]; simp), if_neg (fun h => h1 h.1)]]
  exact ⟨a', k', rfl, rfl⟩
 have h1 := of_decide_eq_true h1
 have hl2 := hc.ltk (at_ := j) (by rw [h1]; decide)
 rw [if_pos h1] at hnm
 obtain ⟨t3, ht3⟩ : ∃ t, c.casted j = t := ⟨_, rfl⟩
 have hq3 := casted_c hc (show j ≤ c.v.length by omega)
 rw [ht3] at hq3
 refine sc_q (xs := []) hq3 hc he rfl rfl rfl rfl ?_
 cases t3
 ·refine sc_bad wrong_m hc he rfl rfl rfl rfl fun a' k' => ?_
  refine rd_end hc ?_
  rw [show c.base .casted at_ = .bad by unfold Cx.base; simp only [← hx0, Cx.kind]; rw [if_neg (by rw [ht1]; simp), if_neg (by rw [ht2]; simp), if_neg (fun h => by have := h.2; unfold Cx.nm at this; rw [ht3] at this; cases this)]]
  exact ⟨a', k', rfl, rfl⟩
 refine sc_ok hnm hc he rfl rfl rfl rfl fun k' => ?_
 refine sw_loop (D := []) ti_ok (by kernel_rfl) (fun n2 env st b => ∃ (q : Nat) (k2 : Int), q + n2 = c.v.length ∧ env = [(0, .av (.cell 0 0)), (6, .av (.pv (.lit (.int .i64 (c.place at_ : Nat))))), (7, .av (.pv (.lit (.string (c.text j)))))] ∧ st = [rdLoc c (q : Nat) k2] ∧ b = s.upd ir none ∧ c.quals q = c.quals (j+1)) (c.v.length - (j+1)) ⟨[0], [0, 6, 7], rfl, j+1, _, by omega, rfl, rfl, rfl, rfl⟩ ?_
 rintro n2 env st b ⟨q, k2, hj, rfl, rfl, rfl, hx2⟩
 obtain ⟨t, ht⟩ : ∃ t, c.among q qualsL = t := ⟨_, rfl⟩
 have hq := amongR_c hc (show q ≤ 1000000000 by omega) .tight qualsL (by decide)
 rw [ht] at hq
 refine sc_q hq hc he rfl rfl rfl rfl ?_
 cases t
 rotate_left
 ·have hlt := among_lt hc ht
  rw [quals_go hlt ht] at hx2
  refine ⟨n2 - 1, by omega, [0], [0, 6, 7], rfl, q + 1, k2, by omega, rfl, ?_, rfl, hx2⟩
  rw [← inc (show q ≤ 1000000000 by omega)]; rfl
 rw [quals_stop ht] at hx2
 clear hq ht
 refine rd_end hc ?_
 rw [show c.base .casted at_ = .ok (c.text j) q by unfold Cx.base; simp only [← hx0, Cx.kind]; rw [if_neg (by rw [ht1]; simp), if_neg (by rw [ht2]; simp), if_pos ⟨h1, ht3⟩, hx2]]
 exact ⟨k2, rfl, rfl⟩
theorem base_c (hc : c.ok) (h0 : at_ ≤ c.v.length) (m : Nm) : MG c 247 (fun ir => [ruleV m ir]) at_ ((c.base m at_).map fun u => .tup [.lit (.string u), .lit (.int .i64 (c.place at_ : Nat))]) := by
 cases m with
 | always => exact base_always_c hc h0
 | typed => exact base_typed_c hc h0
 | casted => exact base_casted_c hc h0

end
end Go.Pv

namespace Go.Pv
open Go.Proofs
set_option linter.unusedVariables false
set_option linter.unusedSimpArgs false
set_option maxRecDepth 100000
section
variable {c : Cx} {s : St} {ir : Nat} {at_ n : Nat} {k : Int}
theorem starsF_stop {f i m : Nat} (h : c.is i ⟨#[42]⟩ = false) : c.starsF f i m = (m, i) := by
 cases f with
 | zero => rfl
 | succ f => unfold Cx.starsF; rw [h, if_neg (by simp)]
theorem starsF_fuel (hc : c.ok) : ∀ (f i m : Nat), c.v.length - i ≤ f → c.starsF f i m = c.starsF (c.v.length - i) i m
 | 0, i, m, h => by rw [Nat.le_zero.1 h]
 | f + 1, i, m, h => by
  cases hi : c.is i ⟨#[42]⟩ with
  | false => rw [starsF_stop hi, starsF_stop hi]
  | true =>
   have hlt := hc.lt hi
   have hq := quals_le (c := c) (show i + 1 ≤ c.v.length by omega)
   obtain ⟨g, hg⟩ : ∃ g, c.v.length - i = g + 1 := ⟨c.v.length - i - 1, by omega⟩
   rw [hg, Cx.starsF, Cx.starsF, if_pos hi, if_pos hi, starsF_fuel hc f _ _ (by omega)]
   rcases Nat.lt_or_ge g f with h1 | h1
   ·rw [starsF_fuel hc g _ _ (by omega)]
   ·rw [show g = f by omega, starsF_fuel hc f _ _ (by omega)]
theorem starsF_go (hc : c.ok) {i m : Nat} (h : c.is i ⟨#[42]⟩ = true) : c.starsF (c.v.length - i) i m = c.starsF (c.v.length - c.quals (i + 1)) (c.quals (i + 1)) (m + 1) := by
 have hlt := hc.lt h
 have hq := quals_le (c := c) (show i + 1 ≤ c.v.length by omega)
 rw [show c.v.length - i = (c.v.length - (i + 1)) + 1 by omega, Cx.starsF, if_pos h, starsF_fuel hc _ _ _ (by omega)]
theorem stars_c (hc : c.ok) (h0 : at_ ≤ c.v.length) : MC c 251 [] at_ (.ok (.lit (.int .i64 ((c.stars at_).1 : Nat))) (c.stars at_).2) := by
 have hvl := hc.vl
 refine mc_of (D := []) Tryz.func251 rfl (by kernel_rfl) fun s ir k he hs => ?_
 refine sw_loop (D := []) ti_ok (by kernel_rfl) (fun n env st b => ∃ (j m : Nat) (k : Int), j + n = c.v.length ∧ m ≤ j ∧ env = [(0, .av (.cell 0 0)), (3, .av (.pv (.lit (.int .i64 (m : Nat)))))] ∧ st = [rdLoc c (j : Nat) k] ∧ b = s.upd ir none ∧ c.starsF (c.v.length - j) j m = c.stars at_) (c.v.length - at_) ⟨[0], [0, 3], rfl, at_, 0, k, by omega, Nat.zero_le _, rfl, rfl, rfl, rfl⟩ ?_
 rintro n env st b ⟨j, m, k, hj, hm, rfl, rfl, rfl, hx⟩
 have hq := eat_c hc (show j ≤ 1000000000 by omega) ⟨#[42]⟩
 unfold Cx.eat at hq
 obtain ⟨t, ht⟩ : ∃ t, c.is j ⟨#[42]⟩ = t := ⟨_, rfl⟩
 rw [ht] at hq
 refine sc_ok hq hc he rfl rfl rfl rfl fun k' => ?_
 cases t
 ·rw [starsF_stop ht] at hx
  rw [← hx]
  exact rd_end hc ⟨k', rfl, rfl⟩
 ·have hlt := hc.lt ht
  rw [starsF_go hc ht] at hx
  refine sw_loop (D := []) ti_ok (by kernel_rfl) (fun n env st b => ∃ (q : Nat) (k : Int), q + n = c.v.length ∧ j + 1 ≤ q ∧ env = [(0, .av (.cell 0 0)), (3, .av (.pv (.lit (.int .i64 (m + 1 : Nat)))))] ∧ st = [rdLoc c (q : Nat) k] ∧ b = s.upd ir none ∧ c.quals q = c.quals (j + 1)) (c.v.length - (j + 1)) ⟨[0], [0, 3], rfl, j + 1, k', by omega, Nat.le_refl _, by rw [← inc (show m ≤ 1000000000 by omega)]; rfl, rfl, rfl, rfl⟩ ?_
  rintro n2 env st b ⟨q, k2, hq2, hjq, rfl, rfl, rfl, hx2⟩
  obtain ⟨t, ht2⟩ : ∃ t, c.among q qualsL = t := ⟨_, rfl⟩
  have hq3 := amongR_c hc (show q ≤ 1000000000 by omega) .tight qualsL (by decide)
  rw [ht2] at hq3
  refine sc_q hq3 hc he rfl rfl rfl rfl ?_
  cases t
  ·rw [quals_stop ht2] at hx2
   rw [← hx2] at hx
   exact ⟨n2, by omega, [0], [0, 3], rfl, q, m + 1, k2, hq2, by omega, rfl, rfl, rfl, hx⟩
  ·have hlt := among_lt hc ht2
   rw [quals_go hlt ht2] at hx2
   refine ⟨n2 - 1, by omega, [0], [0, 3], rfl, q + 1, k2, by omega, by omega, rfl, ?_, rfl, hx2⟩
   rw [← inc (show q ≤ 1000000000 by omega)]; rfl
theorem stars_le (hc : c.ok) : ∀ (f i m : Nat), i ≤ c.v.length → i ≤ (c.starsF f i m).2 ∧ (c.starsF f i m).2 ≤ c.v.length
 | 0, i, m, h => ⟨Nat.le_refl _, h⟩
 | f + 1, i, m, h => by
  unfold Cx.starsF
  split
  ·rename_i hi
   have hlt := hc.lt hi
   have hq := quals_le (c := c) (show i + 1 ≤ c.v.length by omega)
   have := stars_le hc f (c.quals (i + 1)) (m + 1) hq.2
   omega
  ·exact ⟨Nat.le_refl _, h⟩
theorem words_le (hc : c.ok) (l : List ByteArray) : ∀ (f i : Nat) (a : ByteArray), i ≤ c.v.length → i ≤ (c.wordsF l f i a).2 ∧ (c.wordsF l f i a).2 ≤ c.v.length
 | 0, i, a, h => ⟨Nat.le_refl _, h⟩
 | f + 1, i, a, h => by
  unfold Cx.wordsF
  split
  ·rename_i hi
   have hlt := among_lt hc hi
   have := words_le hc l f (i + 1) ((if a = ⟨#[]⟩ then a else a ++ blank) ++ c.text i) (show i + 1 ≤ c.v.length by omega)
   refine ⟨by have := this.1; omega, this.2⟩
  ·exact ⟨Nat.le_refl _, h⟩
theorem base_le (hc : c.ok) (h0 : at_ ≤ c.v.length) {m : Nm} {u : ByteArray} {j : Nat} (h : c.base m at_ = .ok u j) : at_ ≤ j ∧ j ≤ c.v.length := by
 have h1 := quals_le (c := c) h0
 unfold Cx.base at h
 simp only at h
 split at h
 ·rename_i ht
  split at h
  ·rename_i hk
   have hl := hc.ltk (at_ := c.quals at_ + 1) (by unfold Cx.kind at hk; rw [hk]; decide)
   have := quals_le (c := c) (show c.quals at_ + 2 ≤ c.v.length by omega)
   cases h; omega
  ·cases h
 ·split at h
  ·have h2 := words_le hc basesL (c.v.length - c.quals at_) (c.quals at_) ⟨#[]⟩ h1.2
   have := quals_le (c := c) h2.2
   cases h
   show at_ ≤ c.quals (c.wordsF basesL (c.v.length - c.quals at_) (c.quals at_) ⟨#[]⟩).2 ∧ _
   exact ⟨by omega, this.2⟩
  ·split at h
   ·rename_i hk
    have hl := hc.ltk (at_ := c.quals at_) (by have := hk.1; unfold Cx.kind at this; rw [this]; decide)
    have := quals_le (c := c) (show c.quals at_ + 1 ≤ c.v.length by omega)
    cases h; omega
   ·cases h
theorem base_nf {m : Nm} : c.base m at_ ≠ .fuel := by
 unfold Cx.base
 simp only
 split
 ·split <;> simp
 ·split
  ·simp
  ·split <;> simp
theorem simple_c (hc : c.ok) (h0 : at_ ≤ c.v.length) (m : Nm) : MG c 185 (fun ir => [ruleV m ir]) at_ ((c.simple m at_).map encU) := by
 have hb := base_c hc h0 m
 have hnf := base_nf (c := c) (at_ := at_) (m := m)
 have hle := fun u j => base_le (c := c) hc h0 (m := m) (u := u) (j := j)
 unfold Cx.simple
 generalize c.base m at_ = o at *
 refine mgm_of (D := []) Tryz.func185 rfl (by kernel_rfl) fun s ir k he hs => ?_
 cases m
 all_goals
  refine sc_gm hb hc he rfl rfl rfl ?_
  cases o with
  | fuel => exact absurd rfl hnf
  | bad => exact fun a' k' => rd_end hc ⟨a', k', rfl, rfl⟩
  | ok u j =>
   obtain ⟨h1, h2⟩ := hle u j rfl
   intro k'
   refine sc_ok (xs := [.lit (.int .i64 10), .lit (.string u), .lit (.int .i64 (c.place at_ : Nat)), .vec .nil []]) (node_c hc h2 10 u (c.place at_) .nil [] [] rfl) hc he rfl rfl rfl rfl fun k2 => ?_
   exact rd_end hc ⟨k2, rfl, rfl⟩
theorem starred_c (hc : c.ok) (h0 : at_ ≤ c.v.length) (m : Nm) : MG c 192 (fun ir => [ruleV m ir]) at_ ((c.starred m at_).map encU) := by
 have hb := base_c hc h0 m
 have hnf := base_nf (c := c) (at_ := at_) (m := m)
 have hle := fun u j => base_le (c := c) hc h0 (m := m) (u := u) (j := j)
 unfold Cx.starred
 generalize c.base m at_ = o at *
 refine mgm_of (D := []) Tryz.func192 rfl (by kernel_rfl) fun s ir k he hs => ?_
 cases m
 all_goals
  refine sc_gm hb hc he rfl rfl rfl ?_
  cases o with
  | fuel => exact absurd rfl hnf
  | bad => exact fun a' k' => rd_end hc ⟨a', k', rfl, rfl⟩
  | ok u j =>
   obtain ⟨h1, h2⟩ := hle u j rfl
   intro k'
   refine sc_ok (stars_c hc h2) hc he rfl rfl rfl rfl fun k1 => ?_
   have h3 : (c.stars j).2 ≤ c.v.length := (stars_le hc _ j 0 h2).2
   refine sc_ok (xs := [.lit (.int .i64 10), .lit (.string u), .lit (.int .i64 (c.place at_ : Nat)), .vec .nil []]) (node_c hc h3 10 u (c.place at_) .nil [] [] rfl) hc he rfl rfl rfl rfl fun k2 => ?_
   exact rd_end hc ⟨k2, rfl, rfl⟩
end
end Go.Pv

namespace Go.Pv
open Go.Proofs
set_option linter.unusedVariables false
set_option linter.unusedSimpArgs false
set_option maxRecDepth 100000
section
variable {c : Cx} {s : St} {ir : Nat} {at_ n : Nat} {k : Int}
theorem meta_c (hc : c.ok) (h0 : at_ ≤ c.v.length) : RQ c 288 [] at_ (.lit (.string ⟨#[]⟩)) := by
 have hvl := hc.vl
 obtain ⟨c, rfl⟩ : ∃ d, c = cN d := ⟨c, hc.eqN⟩
 refine rq_of (D := [(4, ([0, 1, 2, 4, 3, 5, 6, 7], [], []))]) Tryz.func288 rfl (by kernel_rfl) fun s ir k he hs => ?_
 refine sc_q (tok_c hc (show at_ ≤ 1000000000 by omega)) hc he rfl rfl rfl rfl ?_
 rintro (_ | _) h1
 ·exact ⟨(St.upd_upd _ _ _ _).trans (St.upd_self hs), rfl⟩
 ·refine ⟨by kernel_rfl, ?_⟩
  exact ⟨(St.upd_upd _ _ _ _).trans (St.upd_self hs), rfl⟩
theorem guessed_c (hc : c.ok) (h0 : at_ ≤ c.v.length) : RQ c 308 [] at_ (.lit (.int .i64 (c.guessed at_))) := by
 have hvl := hc.vl
 obtain ⟨c, rfl⟩ : ∃ d, c = cN d := ⟨c, hc.eqN⟩
 refine rq_of (D := [(3, ([0, 1, 2, 4, 5, 6, 3, 7, 8, 9, 10], [], []))]) Tryz.func308 rfl (by kernel_rfl) fun s ir k he hs => ?_
 refine sc_q (tok_c hc (show at_ ≤ 1000000000 by omega)) hc he rfl rfl rfl rfl ?_
 rintro (_ | _) h1
 ·have h1 := of_decide_eq_false h1
  exact ⟨(St.upd_upd _ _ _ _).trans (St.upd_self hs), by unfold Cx.guessed Cx.kind; rw [if_neg h1]; rfl⟩
 ·have h1 := of_decide_eq_true h1
  have hl := hc.ltk (at_ := at_) (by rw [h1]; decide)
  have hg : (cN c).g[at_]? = some ((cN c).g[at_]'(by rw [hc.gl]; exact hl)) := List.getElem?_eq_getElem _
  refine ⟨by kernel_rfl, ?_⟩
  refine ⟨.lit (.int .i64 ((cN c).g[at_]'(by rw [hc.gl]; exact hl))), ⟨by omega, by rw [Int.toNat_natCast, List.getElem?_map, hg]; rfl, rfl⟩, ?_⟩
  refine ⟨(St.upd_upd _ _ _ _).trans (St.upd_self hs), ?_⟩
  unfold Cx.guessed Cx.kind
  rw [if_pos h1, hg]
  rfl
theorem dots_c (hc : c.ok) (h0 : at_ ≤ c.v.length) : RQ c 253 [] at_ (.tup [zeroN, .lit (.bool false)]) := by
 have hvl := hc.vl
 obtain ⟨c, rfl⟩ : ∃ d, c = cN d := ⟨c, hc.eqN⟩
 refine rq_of (D := []) Tryz.func253 rfl (by kernel_rfl) fun s ir k he hs => ?_
 refine sc_q (place_c hc (show at_ ≤ 1000000000 by omega)) hc he rfl rfl rfl rfl ?_
 exact ⟨(St.upd_upd _ _ _ _).trans (St.upd_self hs), rfl⟩
end
end Go.Pv

namespace Go.Pv
open Go.Proofs
set_option linter.unusedVariables false
set_option linter.unusedSimpArgs false
def OwnR (ty sz : Nat) (els : List (List PV)) (base : St) (p : PV) (s' : St) : Prop :=
 (els = [] ∧ p = .vec .nil [] ∧ s' = base) ∨ (els ≠ [] ∧ ∃ i, base i = none ∧ p = .sl i sz 0 els.length ∧ s' = base.upd i (some (.row ty sz els)))
def endW (T : TI) (imp : List Nat) (t : Tmp) (ty sz : Nat) (W : List (List PV) → St → Prop) (Rp : List PanicEntry → St → Prop) : Exit → SE → SS → St → Prop
 | .normal, e, st, b => own e st b
 | .ret, e, st, b => own e st b
 | .panic c, _, st, b => okS (outS b imp st) fun s => Rp c s
 | _, _, _, _ => False
where own (e : SE) (st : SS) (b : St) : Prop := match seval e (.tmp t) with
 | .av (.own k) => (match st[k]? with
  | some (some (.lst ty' sz' els)) => gi (Nat.beq ty' ty && Nat.beq sz' sz) <| okS (outS b imp st) fun s => W els s
  | _ => False)
 | _ => False
section
variable {P : Program} {T : TI} {imp : List Nat} {σ σ' : Nat → Nat} {st st' : SS} {b b' s : St} {env : SE} {e : Env} {K : SV → SS → St → Prop} {q : Nat}
theorem out_off {k ty sz : Nat} {c : List PV} {els : List (List PV)} {s' : St} (k1 : SRel imp σ st b s) (hl : st[k]? = some (some (.lst ty sz (c :: els)))) (k5 : outS b imp st = some s') : s' (σ k) = none := by
 by_cases hc : s' (σ k) = none
 ·exact hc
 ·exfalso
  have key : ∀ (l : List Nat) (m : SS) (s2 : St), outS b l m = some s2 → s2 (σ k) ≠ none → b (σ k) ≠ none ∨ ∃ (j i : Nat), l[j]? = some i ∧ i = σ k ∧ ∃ l0 : Loc, m[j]? = some (some l0) ∧ l0.has = true := by
   intro l
   induction l with
   | nil => intro m s2 h hne; cases h; exact .inl hne
   | cons i l ih =>
    intro m s2 h hne
    cases m with
    | nil => cases h
    | cons o m =>
     cases o with
     | none => cases h
     | some lo =>
      cases lo with
      | lst _ _ _ => cases h
      | cel ty sz cs =>
       simp only [outS] at h
       split at h
       ·rename_i ps s1 q1 q2
        cases h
        by_cases hki : σ k = i
        ·exact .inr ⟨0, i, rfl, hki.symm, _, rfl, rfl⟩
        ·rw [St.upd_ne _ _ hki] at hne
         rcases ih m s1 q2 hne with h | ⟨j, i', h1, h2, h3⟩
         ·exact .inl h
         ·exact .inr ⟨j + 1, i', h1, h2, h3⟩
       ·cases h
  rcases key imp st s' k5 hc with h | ⟨j, i, q1, q2, l0, q3, q4⟩
  ·exact h (k1.fr k _ hl rfl)
  ·have := k1.inj j k l0 _ q3 hl q4 rfl (by rw [(k1.imp j i q1).2, q2])
   subst this
   rw [hl] at q3
   cases q3
   have hj := q1
   clear key
   have : ∀ (l : List Nat) (m : SS) (s2 : St), outS b l m = some s2 → ∀ (j i : Nat), l[j]? = some i → ∃ (ty sz : Nat) (cs : List AV), m[j]? = some (some (Loc.cel ty sz cs)) := by
    intro l
    induction l with
    | nil => intro m s2 h j i hj; simp at hj
    | cons a l ih =>
     intro m s2 h j i hj
     cases m with
     | nil => cases h
     | cons o m =>
      cases o with
      | none => cases h
      | some lo =>
       cases lo with
       | lst _ _ _ => cases h
       | cel ty sz cs =>
        cases j with
        | zero => exact ⟨_, _, _, rfl⟩
        | succ j =>
         simp only [outS] at h
         split at h
         ·rename_i ps s1 q1 q2
          exact ih m s1 q2 j i hj
         ·cases h
   obtain ⟨ty', sz', cs', h'⟩ := this imp st s' k5 j i q1
   rw [hl] at h'
   cases h'
theorem PCalls.sxW {f : FuncId} {fn : Func} {c : Code} {D : Ord} {args : List PV} {vs : List SV} {t : Tmp} {ty sz : Nat} {W : List (List PV) → St → Prop} {Rp : List PanicEntry → St → Prop} (hT : TIok P T) (hR : SRel imp σ st b s) (hA : All2 (SVR σ st) vs args) (hf : P.funcs[f]? = some fn) (hb : fn.body = some c)
  (hn : ((fn.name != "runtime.NumGoroutine") && Nat.ble args.length fn.ntmps && dOk fn.ntmps c && dOkD D) = true) (hres : fn.results.toList = [.tmp t]) (h : Pv.sx P T fn.ntmps imp D c (argE 0 vs) st b (endW T imp t ty sz W Rp)) : PCalls P f args s fun r s' => match r with
   | .ret p => ∃ els base, W els base ∧ OwnR ty sz els base p s'
   | .pan c => Rp c s' := by
 simp only [Bool.and_eq_true, Nat.ble_eq] at hn
 obtain ⟨⟨⟨h1, h2⟩, h3⟩, h4⟩ := hn
 refine PCalls.of hf hb h1 h2 ((sx_sound hT h4 c h3 _ _ _ _ h σ s _ hR (argE_rel hA)).mono ?_)
 intro x e s hq
 rw [hres]
 have fin : (∃ σ st b env, SRel imp σ st b s ∧ ERel σ st env e ∧ endW.own imp t ty sz W env st b) → ∃ ps, resP P e s [.tmp t] = some ps ∧ ∃ s', s'.sub s ∧ ∃ els base, W els base ∧ OwnR ty sz els base (one ps) s' := by
  rintro ⟨σ, st, b, env, k1, k2, k3⟩
  refine ⟨[e t], rfl, ?_⟩
  have hr := seval_ev k2 (.tmp t)
  unfold endW.own at k3
  split at k3
  ·rename_i k hk
   rw [hk] at hr
   split at k3
   ·rename_i ty' sz' els hl
    obtain ⟨kb, k4⟩ := gi_eq.1 k3
    rw [Bool.and_eq_true] at kb
    have e1 := Nat.eq_of_beq_eq_true kb.1
    have e2 := Nat.eq_of_beq_eq_true kb.2
    subst e1; subst e2
    obtain ⟨s', k5, k6⟩ := okS_ex k4
    have hp : e t = ownPV (σ k) sz' els := hr.2 _ _ _ hl
    have hsub := k1.out k5
    cases els with
    | nil => exact ⟨s', hsub, [], s', k6, .inl ⟨rfl, by simp only [one_one, hp]; rfl, rfl⟩⟩
    | cons c els =>
     have hs : s (σ k) = some (.row ty' sz' (c :: els)) := k1.loc k _ hl
     refine ⟨s'.upd (σ k) (some (.row ty' sz' (c :: els))), ?_, c :: els, s', k6, .inr ⟨by simp, σ k, out_off k1 hl k5, by simp only [one_one, hp]; rfl, rfl⟩⟩
     intro j c' hj
     by_cases hji : j = σ k
     ·subst hji; rw [St.upd_same] at hj; rw [hs, hj]
     ·rw [St.upd_ne _ _ hji] at hj; exact hsub j c' hj
   ·exact k3.elim
  ·exact k3.elim
 cases x with
 | normal => exact fin hq
 | ret => exact fin hq
 | panic c =>
  obtain ⟨σ, st, b, k1, k3⟩ := hq
  obtain ⟨s', k6, k7⟩ := okS_ex k3
  exact ⟨s', k1.out k6, k7⟩
 | exit i => obtain ⟨_, _, _, _, _, _, k⟩ := hq; exact k.elim
 | goto l => obtain ⟨_, _, _, _, _, _, k⟩ := hq; exact k.elim
 | outgrown => obtain ⟨_, _, _, _, _, _, k⟩ := hq; exact k.elim
theorem srel_own {ty sz : Nat} {els : List (List PV)} {base s' : St} {p : PV} (hR : SRel imp σ st b base) (h : OwnR ty sz els base p s') : ∃ σ', SExt σ st σ' (st ++ [some (.lst ty sz els)]) ∧ SRel imp σ' (st ++ [some (.lst ty sz els)]) b s' ∧ SVR σ' (st ++ [some (.lst ty sz els)]) (.av (.own st.length)) p := by
 have get : ∀ (k : Nat) (m : Loc), (st ++ [some (.lst ty sz els)])[k]? = some (some m) → (k < st.length ∧ st[k]? = some (some m)) ∨ (k = st.length ∧ m = .lst ty sz els) := fun k m hk => by
  rw [getElem?_app] at hk
  split at hk
  ·exact .inl ⟨‹_›, hk⟩
  ·split at hk
   ·cases hk; exact .inr ⟨‹_›, rfl⟩
   ·cases hk
 have ext : ∀ σ' : Nat → Nat, (∀ k, k < st.length → σ' k = σ k) → SExt σ st σ' (st ++ [some (.lst ty sz els)]) := fun σ' hσ => ⟨by simp, hσ, fun k ty sz els hk hl => by rw [List.getElem?_append_left hk] at hl; exact hl⟩
 rcases h with ⟨rfl, rfl, rfl⟩ | ⟨hne, i, hi, rfl, rfl⟩
 ·refine ⟨σ, ext σ fun _ _ => rfl, ⟨hR.sub, fun k i hk => ⟨by have := (hR.imp k i hk).1; simp; omega, (hR.imp k i hk).2⟩, fun k m hk hm => ?_, fun k k' m m' hk hk' hm hm' hkk => ?_, fun k m hk => ?_⟩, ?_⟩
  ·rcases get k m hk with ⟨h1, h2⟩ | ⟨rfl, rfl⟩
   ·exact hR.fr k m h2 hm
   ·cases hm
  ·rcases get k m hk with ⟨h1, h2⟩ | ⟨rfl, rfl⟩
   ·rcases get k' m' hk' with ⟨h1', h2'⟩ | ⟨rfl, rfl⟩
    ·exact hR.inj k k' m m' h2 h2' hm hm' hkk
    ·cases hm'
   ·cases hm
  ·rcases get k m hk with ⟨h1, h2⟩ | ⟨rfl, rfl⟩
   ·exact (hR.loc k m h2).ext (ext σ fun _ _ => rfl)
   ·exact trivial
  ·refine ⟨by simp, fun ty' sz' els' hk => ?_⟩
   rcases get _ _ hk with ⟨h1, _⟩ | ⟨_, h2⟩
   ·exact absurd h1 (Nat.lt_irrefl _)
   ·cases h2; rfl
 ·have hσ : ∀ k, k < st.length → σnew σ st.length i k = σ k := fun k hk => by unfold σnew; rw [if_neg (by omega)]
  have hσn : σnew σ st.length i st.length = i := by unfold σnew; rw [if_pos rfl]
  have hx := ext _ hσ
  have hsn : ∀ k l, st[k]? = some (some l) → l.has = true → σ k ≠ i := fun k l hk hl e => by
   have := hR.loc k l hk
   rw [e] at this
   cases l with
   | cel ty sz cs => obtain ⟨ps, _, h2⟩ := this; rw [hi] at h2; cases h2
   | lst ty sz els =>
    cases els with
    | nil => cases hl
    | cons c els => have h2 : base i = _ := this; rw [hi] at h2; cases h2
  have hbi : b i = none := by
   cases hb : b i with
   | none => rfl
   | some x => have := hR.sub i x hb; rw [hi] at this; cases this
  refine ⟨σnew σ st.length i, hx, ⟨fun k c' hk => ?_, fun k j hj => ?_, fun k m hk hm => ?_, fun k k' m m' hk hk' hm hm' hkk => ?_, fun k m hk => ?_⟩, ?_⟩
  ·have hki : k ≠ i := fun e => by subst e; rw [hbi] at hk; cases hk
   rw [St.upd_ne _ _ hki]; exact hR.sub k c' hk
  ·have := hR.imp k j hj
   exact ⟨by simp; omega, by rw [hσ k this.1]; exact this.2⟩
  ·rcases get k m hk with ⟨h1, h2⟩ | ⟨rfl, rfl⟩
   ·rw [hσ k h1]; exact hR.fr k m h2 hm
   ·rw [hσn]; exact hbi
  ·rcases get k m hk with ⟨h1, h2⟩ | ⟨rfl, rfl⟩
   ·rcases get k' m' hk' with ⟨h1', h2'⟩ | ⟨rfl, rfl⟩
    ·rw [hσ k h1, hσ k' h1'] at hkk; exact hR.inj k k' m m' h2 h2' hm hm' hkk
    ·rw [hσ k h1, hσn] at hkk; exact absurd hkk (hsn k m h2 hm)
   ·rcases get k' m' hk' with ⟨h1', h2'⟩ | ⟨rfl, rfl⟩
    ·rw [hσ k' h1', hσn] at hkk; exact absurd hkk.symm (hsn k' m' h2' hm')
    ·rfl
  ·rcases get k m hk with ⟨h1, h2⟩ | ⟨rfl, rfl⟩
   ·rw [hσ k h1]
    have hl := (hR.loc k m h2).ext hx
    cases m with
    | cel ty sz cs =>
     obtain ⟨ps, p1, p2⟩ := hl
     exact ⟨ps, p1, by rw [St.upd_ne _ _ (hsn k _ h2 rfl)]; exact p2⟩
    | lst ty2 sz2 els2 =>
     cases els2 with
     | nil => exact trivial
     | cons c2 els2 => show (base.upd i _) (σ k) = _; rw [St.upd_ne _ _ (hsn k _ h2 rfl)]; exact hl
   ·rw [hσn]
    cases els with
    | nil => exact absurd rfl hne
    | cons c els => exact St.upd_same _ _ _
  ·refine ⟨by simp, fun ty' sz' els' hk => ?_⟩
   rcases get _ _ hk with ⟨h1, _⟩ | ⟨_, h2⟩
   ·exact absurd h1 (Nat.lt_irrefl _)
   ·cases h2
    rw [hσn]
    cases els with
    | nil => exact absurd rfl hne
    | cons c els => rfl
end
def MW (c : Cx) (f : FuncId) (xs : List PV) (at_ : Nat) (o : Out Nd) : Prop := o ≠ .fuel → ∀ (s : St) (ir : Nat) (k : Int), c.env s → s ir = some (rdRow c at_ k) → PCalls Tryz.prog f (.pt ir 0 0 :: xs) s fun r s' => match r with
 | .ret p => ∃ els base, (∃ x i k', o = .ok x i ∧ els = x.l.map encC ∧ base = s.upd ir (some (rdRow c (i : Nat) k'))) ∧ OwnR 26 6 els base p s'
 | .pan ch => ∃ a' k', o = .bad ∧ s' = s.upd ir (some (rdRow c a' k')) ∧ ch = [flt]
section
variable {c : Cx} {imp : List Nat} {st : SS} {b : St} {K : SV → SS → St → Prop} {Kp : List PanicEntry → SS → St → Prop} {f : FuncId} {args : List SV}
theorem sc_w {at_ : Nat} {aI m : Int} {xs : List PV} {o : Out Nd} (hq : MW c f xs at_ o) (hc : c.ok) (he : c.env b) (hst : st[0]? = some (rdLoc c aI m)) (ha : args = .av (.cell 0 0) :: pvs xs) (hI : aI = (at_ : Nat)) (hl : xs.all PV.live = true)
  (hfu : o ≠ .fuel) (hF : o = .bad → ∀ a' k', nm (st.set 0 (rdLoc c a' k')) fun st' => Kp [flt] st' b) (hT : ∀ x i, o = .ok x i → ∀ k', nm (st.set 0 (rdLoc c (i : Nat) k') ++ [some (.lst 26 6 (x.l.map encC))]) fun st' => K (.av (.own st.length)) st' b) : SC Tryz.prog imp f args st b K Kp := by
 subst hI
 intro σ s qs hR hA
 subst ha
 obtain ⟨q, qs', rfl, h1, h2⟩ := hA.cons_inv
 obtain ⟨ps, p1, p2⟩ := hR.loc 0 _ hst
 have := avs_live (rd_live hc _ _) p1
 subst this
 rw [pvs_rel hl h2, show q = .pt (σ 0) 0 0 from h1.2]
 refine (hq hfu s (σ 0) m (he.sub hR.sub) p2).mono ?_
 intro r s' hr
 cases r with
 | pan ch =>
  obtain ⟨a', k', ho, rfl, rfl⟩ := hr
  have hk := hF ho a' k'
  rw [nm_eq] at hk
  obtain ⟨k1, k2⟩ := hR.set (cs' := (rdCells c a' k').map .pv) hst pv_cells
  exact ⟨σ, _, b, k1, k2, hk⟩
 | ret p =>
  obtain ⟨els, base, ⟨x, i, k', ho, rfl, rfl⟩, hw⟩ := hr
  have hk := hT x i ho k'
  rw [nm_eq] at hk
  obtain ⟨k1, k2⟩ := hR.set (cs' := (rdCells c (i : Nat) k').map .pv) hst pv_cells
  obtain ⟨σ', k3, k4, k5⟩ := srel_own k2 hw
  refine ⟨σ', _, b, .av (.own st.length), k1.trans k3, k4, ?_, hk⟩
  rw [List.length_set] at k5
  exact k5
end
end Go.Pv

namespace Go.Pv
open Go.Proofs
set_option linter.unusedVariables false
set_option linter.unusedSimpArgs false
set_option maxRecDepth 100000
def fnOf : NT → FuncId
 | .expr => 150
 | .assign => 224
 | .choice => 268
 | .binary _ => 299
 | .cast => 311
 | .unary => 317
 | .post => 326
 | .primary => 329
 | .value => 285
 | .initial => 249
 | .sizes => 248
 | .args _ _ => 255
 | .dclr _ => 187
 | .dclrs _ => 190
 | .decl _ => 196
 | .stat => 254
 | .block => 195
 | .other _ => 292
 | .loop _ => 290
 | .marked => 291
 | .nested => 289
 | .used _ => 197
def argsOf : NT → Nat → List PV
 | .binary k, _ => [.lit (.int .i64 (k : Nat))]
 | .args f fr, _ => [encU f, .lit (.int .i64 (fr : Nat))]
 | .dclr b, _ => [.lit (.bool b)]
 | .dclrs b, _ => [.lit (.bool b)]
 | .decl m, ir => [ruleV m ir]
 | .other fr, _ => [.lit (.int .i64 (fr : Nat))]
 | .loop fr, _ => [.lit (.int .i64 (fr : Nat))]
 | .used b, _ => [.lit (.bool b)]
 | _, _ => []
def encOf (Y : NT) (x : Nd) : PV := match Y with
 | .sizes => .vec .any (x.l.map enc)
 | .dclrs _ => .vec .any (x.l.map enc)
 | _ => encU x
def okY : NT → Prop
 | .sizes => False
 | .binary k => k ≤ 10
 | .args _ fr => fr ≤ 1000000000
 | .other fr => fr ≤ 1000000000
 | .loop fr => fr ≤ 1000000000
 | _ => True
structure PH (c : Cx) (p : NT → Nat → Out Nd) : Prop where
 mc : ∀ Y i, okY Y → i ≤ c.v.length → MG c (fnOf Y) (argsOf Y) i ((p Y i).map (encOf Y))
 le : ∀ Y i x j, okY Y → i ≤ c.v.length → p Y i = .ok x j → i ≤ j ∧ j ≤ c.v.length
 sz : ∀ i, i ≤ c.v.length → MW c (fnOf .sizes) [] i (p .sizes i)
 dl : ∀ b i x j, i ≤ c.v.length → p (.dclrs b) i = .ok x j → x.l.length ≤ j
 szle : ∀ i x j, i ≤ c.v.length → p .sizes i = .ok x j → i ≤ j ∧ j ≤ c.v.length ∧ x.l.length ≤ j
section
variable {c : Cx} {p : NT → Nat → Out Nd} {s : St} {ir : Nat} {at_ n : Nat} {k : Int}
theorem PH.ok (hp : PH c p) {Y : NT} {i j : Nat} {x : Nd} {xs : List PV} (h : p Y i = .ok x j) (hY : okY Y) (hi : i ≤ c.v.length) (ha : ∀ ir, argsOf Y ir = xs) : MC c (fnOf Y) xs i (.ok (encOf Y x) j) := by
 have := hp.mc Y i hY hi
 rw [h] at this
 intro hn s ir k he hs
 have h2 := this (by simp) s ir k he hs
 rw [ha ir] at h2
 exact h2
theorem PH.bad (hp : PH c p) {Y : NT} {i : Nat} {xs : List PV} (h : p Y i = .bad) (hY : okY Y) (hi : i ≤ c.v.length) (ha : ∀ ir, argsOf Y ir = xs) : MC c (fnOf Y) xs i .bad := by
 have := hp.mc Y i hY hi
 rw [h] at this
 intro hn s ir k he hs
 have h2 := this (by simp) s ir k he hs
 rw [ha ir] at h2
 exact h2
theorem place_le (hc : c.ok) (i : Nat) : c.place i ≤ 1000000000 := by
 have hl := hc.l
 unfold Cx.place
 split
 ·rename_i p hp
  have := hc.v p (List.mem_of_getElem? hp)
  omega
 ·exact hc.en
def Told (c : Cx) (Y : NT) (o : Nat → Out Nd) : Prop := ∀ i, i ≤ c.v.length → MG c (fnOf Y) (argsOf Y) i ((o i).map (encOf Y)) ∧ ∀ x j, o i = .ok x j → i ≤ j ∧ j ≤ c.v.length
theorem mcN_of {f : FuncId} {fn : Func} {code : Code} {D : Ord} {xs : List PV} {o : Out PV} (hf : Tryz.prog.funcs[f]? = some fn) (hb : fn.body = some code) (hn : ((fn.name != "runtime.NumGoroutine") && Nat.ble (xs.length + 1) fn.ntmps && dOk fn.ntmps code && dOkD D) = true)
  (h : o ≠ .fuel → ∀ (s : St) (ir : Nat) (k : Int), c.env (s.upd ir none) → s ir = some (rdRow c at_ k) → sx Tryz.prog TI0 fn.ntmps [ir] D code (argE 0 (.av (.cell 0 0) :: pvs xs)) [rdLoc c at_ k] (s.upd ir none) (endQ TI0 [ir] fn.results.toList (MR c s ir o))) : MC c f xs at_ o := fun hq s ir k he hs =>
 PCalls.obj ti_ok hs hf hb hn (h hq s ir k (he.upd hs _) hs)
theorem nested_t (hc : c.ok) (hp : PH c p) : Told c .nested (c.nestedS p) := by
 intro at_ h0
 have hvl := hc.vl
 obtain ⟨o, ho⟩ : ∃ o, c.nestedS p at_ = o := ⟨_, rfl⟩
 rw [ho]
 unfold Cx.nestedS Cx.want at ho
 have hw := want_c hc (show at_ ≤ 1000000000 by omega) ⟨#[40]⟩
 have main : MC c 289 [] at_ (o.map encU) ∧ ∀ x j, o = .ok x j → at_ ≤ j ∧ j ≤ c.v.length := by
  by_cases h1 : c.is at_ ⟨#[40]⟩ = true
  ·have hlt := hc.lt h1
   rw [if_pos h1] at hw ho
   dsimp only at ho
   cases hx : p .expr (at_ + 1) with
   | fuel => rw [hx] at ho; subst ho; exact ⟨fun h => absurd rfl h, fun x j h => by cases h⟩
   | bad =>
    rw [hx] at ho; subst ho
    refine ⟨mcN_of (D := []) Tryz.func289 rfl (by kernel_rfl) fun hn s ir k he hs => ?_, fun x j h => by cases h⟩
    refine sc_ok hw hc he rfl rfl rfl rfl fun k1 => ?_
    refine sc_bad (hp.bad hx trivial (by omega) (fun _ => rfl)) hc he rfl rfl rfl rfl fun a' k' => ?_
    exact rd_end hc ⟨a', k', rfl, rfl⟩
   | ok x j =>
    rw [hx] at ho
    have hle := hp.le .expr _ _ _ trivial (by omega) hx
    have hw2 := want_c hc (show j ≤ 1000000000 by omega) ⟨#[41]⟩
    simp only [Out.bind_ok] at ho
    by_cases h2 : c.is j ⟨#[41]⟩ = true
    ·have hlt2 := hc.lt h2
     rw [if_pos h2] at hw2 ho; subst ho
     refine ⟨mcN_of (D := []) Tryz.func289 rfl (by kernel_rfl) fun hn s ir k he hs => ?_, fun x j h => by cases h; omega⟩
     refine sc_ok hw hc he rfl rfl rfl rfl fun k1 => ?_
     refine sc_ok (hp.ok hx trivial (by omega) (fun _ => rfl)) hc he rfl rfl rfl rfl fun k2 => ?_
     refine sc_ok hw2 hc he rfl rfl rfl rfl fun k3 => ?_
     exact rd_end hc ⟨k3, rfl, rfl⟩
    ·rw [if_neg h2] at hw2 ho; subst ho
     refine ⟨mcN_of (D := []) Tryz.func289 rfl (by kernel_rfl) fun hn s ir k he hs => ?_, fun x j h => by cases h⟩
     refine sc_ok hw hc he rfl rfl rfl rfl fun k1 => ?_
     refine sc_ok (hp.ok hx trivial (by omega) (fun _ => rfl)) hc he rfl rfl rfl rfl fun k2 => ?_
     refine sc_bad hw2 hc he rfl rfl rfl rfl fun a' k' => ?_
     exact rd_end hc ⟨a', k', rfl, rfl⟩
  ·rw [if_neg h1] at hw ho; subst ho
   refine ⟨mcN_of (D := []) Tryz.func289 rfl (by kernel_rfl) fun hn s ir k he hs => ?_, fun x j h => by cases h⟩
   refine sc_bad hw hc he rfl rfl rfl rfl fun a' k' => ?_
   exact rd_end hc ⟨a', k', rfl, rfl⟩
 exact main
end
end Go.Pv

namespace Go.Pv
open Go.Proofs
set_option linter.unusedVariables false
set_option linter.unusedSimpArgs false
set_option maxRecDepth 100000
section
variable {c : Cx} {p : NT → Nat → Out Nd} {s : St} {ir : Nat} {at_ n : Nat} {k : Int}
theorem ahead_lt (hc : c.ok) (h : c.ahead at_ = true) : at_ < c.v.length := by
 unfold Cx.ahead at h
 rw [Bool.and_eq_true] at h
 exact hc.lt h.1
theorem starred_le (hc : c.ok) (h0 : at_ ≤ c.v.length) {m : Nm} {x : Nd} {j : Nat} (h : c.starred m at_ = .ok x j) : at_ ≤ j ∧ j ≤ c.v.length := by
 unfold Cx.starred at h
 cases hb : c.base m at_ with
 | fuel => rw [hb] at h; cases h
 | bad => rw [hb] at h; cases h
 | ok u i =>
  rw [hb] at h
  have h1 := base_le hc h0 hb
  have h2 := stars_le hc (c.v.length - i) i 0 h1.2
  cases h
  exact ⟨Nat.le_trans h1.1 h2.1, h2.2⟩
theorem choice_t (hc : c.ok) (hp : PH c p) : Told c .choice (c.choiceS p) := by
 intro at_ h0
 have hvl := hc.vl
 obtain ⟨o, ho⟩ : ∃ o, c.choiceS p at_ = o := ⟨_, rfl⟩
 rw [ho]
 unfold Cx.choiceS at ho
 try simp only [Cx.want] at ho
 have main : MC c 268 [] at_ (o.map encU) ∧ ∀ x j, o = .ok x j → at_ ≤ j ∧ j ≤ c.v.length := by
  cases hx1 : p (.binary 0) (at_) with
  | fuel => rw [hx1] at ho; subst ho; exact ⟨fun h => absurd rfl h, fun x j h => by cases h⟩
  | bad =>
   rw [hx1] at ho; subst ho
   refine ⟨mcN_of (D := []) Tryz.func268 rfl (by kernel_rfl) fun hn s ir k he hs => ?_, fun x j h => by cases h⟩
   refine sc_q (place_c hc (show at_ ≤ 1000000000 by omega)) hc he rfl rfl rfl rfl ?_
   refine sc_bad (hp.bad hx1 (Nat.zero_le 10) (by omega) (fun _ => rfl)) hc he rfl rfl rfl rfl fun a' k' => ?_
   exact rd_end hc ⟨a', k', rfl, rfl⟩
  | ok x1 j1 =>
   rw [hx1] at ho
   try simp only [Out.bind_ok] at ho
   have hle1 := hp.le (.binary 0) _ _ _ (Nat.zero_le 10) (by omega) hx1
   have hq2 := eat_c hc (show j1 ≤ 1000000000 by omega) ⟨#[63]⟩
   unfold Cx.eat at hq2
   by_cases h2 : c.is (j1) ⟨#[63]⟩ = true
   ·have hlt2 := hc.lt h2
    rw [if_pos h2] at ho; rw [h2] at hq2
    try dsimp only at ho
    cases hx3 : p .expr (j1 + 1) with
    | fuel => rw [hx3] at ho; subst ho; exact ⟨fun h => absurd rfl h, fun x j h => by cases h⟩
    | bad =>
     rw [hx3] at ho; subst ho
     refine ⟨mcN_of (D := []) Tryz.func268 rfl (by kernel_rfl) fun hn s ir k he hs => ?_, fun x j h => by cases h⟩
     refine sc_q (place_c hc (show at_ ≤ 1000000000 by omega)) hc he rfl rfl rfl rfl ?_
     refine sc_ok (hp.ok hx1 (Nat.zero_le 10) (by omega) (fun _ => rfl)) hc he rfl rfl rfl rfl fun k1 => ?_
     refine sc_ok hq2 hc he rfl rfl rfl rfl fun k2 => ?_
     refine sc_bad (hp.bad hx3 trivial (by omega) (fun _ => rfl)) hc he rfl rfl rfl rfl fun a' k' => ?_
     exact rd_end hc ⟨a', k', rfl, rfl⟩
    | ok x3 j3 =>
     rw [hx3] at ho
     try simp only [Out.bind_ok] at ho
     have hle3 := hp.le .expr _ _ _ trivial (by omega) hx3
     have hw4 := want_c hc (show j3 ≤ 1000000000 by omega) ⟨#[58]⟩
     by_cases h4 : c.is (j3) ⟨#[58]⟩ = true
     ·have hlt4 := hc.lt h4
      rw [if_pos h4] at hw4 ho
      try dsimp only at ho
      cases hx5 : p .choice (j3 + 1) with
      | fuel => rw [hx5] at ho; subst ho; exact ⟨fun h => absurd rfl h, fun x j h => by cases h⟩
      | bad =>
       rw [hx5] at ho; subst ho
       refine ⟨mcN_of (D := []) Tryz.func268 rfl (by kernel_rfl) fun hn s ir k he hs => ?_, fun x j h => by cases h⟩
       refine sc_q (place_c hc (show at_ ≤ 1000000000 by omega)) hc he rfl rfl rfl rfl ?_
       refine sc_ok (hp.ok hx1 (Nat.zero_le 10) (by omega) (fun _ => rfl)) hc he rfl rfl rfl rfl fun k1 => ?_
       refine sc_ok hq2 hc he rfl rfl rfl rfl fun k2 => ?_
       refine sc_ok (hp.ok hx3 trivial (by omega) (fun _ => rfl)) hc he rfl rfl rfl rfl fun k3 => ?_
       refine sc_ok hw4 hc he rfl rfl rfl rfl fun k4 => ?_
       refine sc_bad (hp.bad hx5 trivial (by omega) (fun _ => rfl)) hc he rfl rfl rfl rfl fun a' k' => ?_
       exact rd_end hc ⟨a', k', rfl, rfl⟩
      | ok x5 j5 =>
       rw [hx5] at ho
       try simp only [Out.bind_ok] at ho
       have hle5 := hp.le .choice _ _ _ trivial (by omega) hx5
       subst ho
       refine ⟨mcN_of (D := []) Tryz.func268 rfl (by kernel_rfl) fun hn s ir k he hs => ?_, fun x j h => by cases h; omega⟩
       refine sc_q (place_c hc (show at_ ≤ 1000000000 by omega)) hc he rfl rfl rfl rfl ?_
       refine sc_ok (hp.ok hx1 (Nat.zero_le 10) (by omega) (fun _ => rfl)) hc he rfl rfl rfl rfl fun k1 => ?_
       refine sc_ok hq2 hc he rfl rfl rfl rfl fun k2 => ?_
       refine sc_ok (hp.ok hx3 trivial (by omega) (fun _ => rfl)) hc he rfl rfl rfl rfl fun k3 => ?_
       refine sc_ok hw4 hc he rfl rfl rfl rfl fun k4 => ?_
       refine sc_ok (hp.ok hx5 trivial (by omega) (fun _ => rfl)) hc he rfl rfl rfl rfl fun k5 => ?_
       refine sc_ok (node_c hc (show j5 ≤ c.v.length by omega) 59 ⟨#[]⟩ (c.place at_) .tight [x1, x3, x5] [encU x1, encU x3, encU x5] (by simp)) hc he rfl rfl rfl rfl fun kN => ?_
       exact rd_end hc ⟨kN, rfl, rfl⟩
     ·rw [if_neg h4] at hw4 ho; subst ho
      refine ⟨mcN_of (D := []) Tryz.func268 rfl (by kernel_rfl) fun hn s ir k he hs => ?_, fun x j h => by cases h⟩
      refine sc_q (place_c hc (show at_ ≤ 1000000000 by omega)) hc he rfl rfl rfl rfl ?_
      refine sc_ok (hp.ok hx1 (Nat.zero_le 10) (by omega) (fun _ => rfl)) hc he rfl rfl rfl rfl fun k1 => ?_
      refine sc_ok hq2 hc he rfl rfl rfl rfl fun k2 => ?_
      refine sc_ok (hp.ok hx3 trivial (by omega) (fun _ => rfl)) hc he rfl rfl rfl rfl fun k3 => ?_
      refine sc_bad hw4 hc he rfl rfl rfl rfl fun a' k' => ?_
      exact rd_end hc ⟨a', k', rfl, rfl⟩
   ·have hf2 : c.is (j1) ⟨#[63]⟩ = false := by simpa using h2
    rw [if_neg h2] at ho; rw [hf2] at hq2
    subst ho
    refine ⟨mcN_of (D := []) Tryz.func268 rfl (by kernel_rfl) fun hn s ir k he hs => ?_, fun x j h => by cases h; omega⟩
    refine sc_q (place_c hc (show at_ ≤ 1000000000 by omega)) hc he rfl rfl rfl rfl ?_
    refine sc_ok (hp.ok hx1 (Nat.zero_le 10) (by omega) (fun _ => rfl)) hc he rfl rfl rfl rfl fun k1 => ?_
    refine sc_ok hq2 hc he rfl rfl rfl rfl fun k2 => ?_
    exact rd_end hc ⟨_, rfl, rfl⟩
 exact main
theorem initial_t (hc : c.ok) (hp : PH c p) : Told c .initial (c.initialS p) := by
 intro at_ h0
 have hvl := hc.vl
 obtain ⟨o, ho⟩ : ∃ o, c.initialS p at_ = o := ⟨_, rfl⟩
 rw [ho]
 unfold Cx.initialS at ho
 try simp only [Cx.want] at ho
 have main : MC c 249 [] at_ (o.map encU) ∧ ∀ x j, o = .ok x j → at_ ≤ j ∧ j ≤ c.v.length := by
  cases hx1 : p .value (at_) with
  | fuel => rw [hx1] at ho; subst ho; exact ⟨fun h => absurd rfl h, fun x j h => by cases h⟩
  | bad =>
   rw [hx1] at ho; subst ho
   refine ⟨mcN_of (D := []) Tryz.func249 rfl (by kernel_rfl) fun hn s ir k he hs => ?_, fun x j h => by cases h⟩
   refine sc_q (place_c hc (show at_ ≤ 1000000000 by omega)) hc he rfl rfl rfl rfl ?_
   refine sc_bad (hp.bad hx1 trivial (by omega) (fun _ => rfl)) hc he rfl rfl rfl rfl fun a' k' => ?_
   exact rd_end hc ⟨a', k', rfl, rfl⟩
  | ok x1 j1 =>
   rw [hx1] at ho
   try simp only [Out.bind_ok] at ho
   have hle1 := hp.le .value _ _ _ trivial (by omega) hx1
   subst ho
   refine ⟨mcN_of (D := []) Tryz.func249 rfl (by kernel_rfl) fun hn s ir k he hs => ?_, fun x j h => by cases h; omega⟩
   refine sc_q (place_c hc (show at_ ≤ 1000000000 by omega)) hc he rfl rfl rfl rfl ?_
   refine sc_ok (hp.ok hx1 trivial (by omega) (fun _ => rfl)) hc he rfl rfl rfl rfl fun k1 => ?_
   refine sc_ok (node_c hc (show j1 ≤ c.v.length by omega) 9 ⟨#[]⟩ (c.place at_) .tight [x1] [encU x1] (by simp)) hc he rfl rfl rfl rfl fun kN => ?_
   exact rd_end hc ⟨kN, rfl, rfl⟩
 exact main
theorem cast_t (hc : c.ok) (hp : PH c p) : Told c .cast (c.castS p) := by
 intro at_ h0
 have hvl := hc.vl
 obtain ⟨o, ho⟩ : ∃ o, c.castS p at_ = o := ⟨_, rfl⟩
 rw [ho]
 unfold Cx.castS at ho
 try simp only [Cx.want] at ho
 have main : MC c 311 [] at_ (o.map encU) ∧ ∀ x j, o = .ok x j → at_ ≤ j ∧ j ≤ c.v.length := by
  have hq1 := ahead_c hc (show at_ ≤ c.v.length by omega)
  by_cases h1 : c.ahead (at_) = true
  ·have hlt1 := ahead_lt hc h1
   rw [if_pos h1] at ho; rw [h1] at hq1
   have hs2 := starred_c hc (show at_ + 1 ≤ c.v.length by omega) .casted
   cases hx2 : c.starred .casted (at_ + 1) with
   | fuel => rw [hx2] at ho; subst ho; exact ⟨fun h => absurd rfl h, fun x j h => by cases h⟩
   | bad =>
    rw [hx2] at ho hs2; subst ho
    refine ⟨mcN_of (D := []) Tryz.func311 rfl (by kernel_rfl) fun hn s ir k he hs => ?_, fun x j h => by cases h⟩
    refine sc_q (place_c hc (show at_ ≤ 1000000000 by omega)) hc he rfl rfl rfl rfl ?_
    refine sc_q hq1 hc he rfl rfl rfl rfl ?_
    refine sc_gm hs2 hc he rfl rfl (inc (by omega)) ?_
    exact fun a' k' => rd_end hc ⟨a', k', rfl, rfl⟩
   | ok x2 j2 =>
    rw [hx2] at ho hs2
    try simp only [Out.bind_ok] at ho
    have hle2 := starred_le hc (show at_ + 1 ≤ c.v.length by omega) hx2
    have hw3 := want_c hc (show j2 ≤ 1000000000 by omega) ⟨#[41]⟩
    by_cases h3 : c.is (j2) ⟨#[41]⟩ = true
    ·have hlt3 := hc.lt h3
     rw [if_pos h3] at hw3 ho
     try dsimp only at ho
     cases hx4 : p .cast (j2 + 1) with
     | fuel => rw [hx4] at ho; subst ho; exact ⟨fun h => absurd rfl h, fun x j h => by cases h⟩
     | bad =>
      rw [hx4] at ho; subst ho
      refine ⟨mcN_of (D := []) Tryz.func311 rfl (by kernel_rfl) fun hn s ir k he hs => ?_, fun x j h => by cases h⟩
      refine sc_q (place_c hc (show at_ ≤ 1000000000 by omega)) hc he rfl rfl rfl rfl ?_
      refine sc_q hq1 hc he rfl rfl rfl rfl ?_
      refine sc_gm hs2 hc he rfl rfl (inc (by omega)) ?_
      intro k2
      refine sc_ok hw3 hc he rfl rfl rfl rfl fun k3 => ?_
      refine sc_bad (hp.bad hx4 trivial (by omega) (fun _ => rfl)) hc he rfl rfl rfl rfl fun a' k' => ?_
      exact rd_end hc ⟨a', k', rfl, rfl⟩
     | ok x4 j4 =>
      rw [hx4] at ho
      try simp only [Out.bind_ok] at ho
      have hle4 := hp.le .cast _ _ _ trivial (by omega) hx4
      subst ho
      refine ⟨mcN_of (D := []) Tryz.func311 rfl (by kernel_rfl) fun hn s ir k he hs => ?_, fun x j h => by cases h; omega⟩
      refine sc_q (place_c hc (show at_ ≤ 1000000000 by omega)) hc he rfl rfl rfl rfl ?_
      refine sc_q hq1 hc he rfl rfl rfl rfl ?_
      refine sc_gm hs2 hc he rfl rfl (inc (by omega)) ?_
      intro k2
      refine sc_ok hw3 hc he rfl rfl rfl rfl fun k3 => ?_
      refine sc_ok (hp.ok hx4 trivial (by omega) (fun _ => rfl)) hc he rfl rfl rfl rfl fun k4 => ?_
      refine sc_ok (node_c hc (show j4 ≤ c.v.length by omega) 63 ⟨#[]⟩ (c.place at_) .tight [x2, x4] [encU x2, encU x4] (by simp)) hc he rfl rfl rfl rfl fun kN => ?_
      exact rd_end hc ⟨kN, rfl, rfl⟩
    ·rw [if_neg h3] at hw3 ho; subst ho
     refine ⟨mcN_of (D := []) Tryz.func311 rfl (by kernel_rfl) fun hn s ir k he hs => ?_, fun x j h => by cases h⟩
     refine sc_q (place_c hc (show at_ ≤ 1000000000 by omega)) hc he rfl rfl rfl rfl ?_
     refine sc_q hq1 hc he rfl rfl rfl rfl ?_
     refine sc_gm hs2 hc he rfl rfl (inc (by omega)) ?_
     intro k2
     refine sc_bad hw3 hc he rfl rfl rfl rfl fun a' k' => ?_
     exact rd_end hc ⟨a', k', rfl, rfl⟩
  ·have hf1 : c.ahead (at_) = false := by simpa using h1
   rw [if_neg h1] at ho; rw [hf1] at hq1
   cases hx6 : p .unary (at_) with
   | fuel => rw [hx6] at ho; subst ho; exact ⟨fun h => absurd rfl h, fun x j h => by cases h⟩
   | bad =>
    rw [hx6] at ho; subst ho
    refine ⟨mcN_of (D := []) Tryz.func311 rfl (by kernel_rfl) fun hn s ir k he hs => ?_, fun x j h => by cases h⟩
    refine sc_q (place_c hc (show at_ ≤ 1000000000 by omega)) hc he rfl rfl rfl rfl ?_
    refine sc_q hq1 hc he rfl rfl rfl rfl ?_
    refine sc_bad (hp.bad hx6 trivial (by omega) (fun _ => rfl)) hc he rfl rfl rfl rfl fun a' k' => ?_
    exact rd_end hc ⟨a', k', rfl, rfl⟩
   | ok x6 j6 =>
    rw [hx6] at ho
    try simp only [Out.bind_ok] at ho
    have hle6 := hp.le .unary _ _ _ trivial (by omega) hx6
    subst ho
    refine ⟨mcN_of (D := []) Tryz.func311 rfl (by kernel_rfl) fun hn s ir k he hs => ?_, fun x j h => by cases h; omega⟩
    refine sc_q (place_c hc (show at_ ≤ 1000000000 by omega)) hc he rfl rfl rfl rfl ?_
    refine sc_q hq1 hc he rfl rfl rfl rfl ?_
    refine sc_ok (hp.ok hx6 trivial (by omega) (fun _ => rfl)) hc he rfl rfl rfl rfl fun k6 => ?_
    exact rd_end hc ⟨_, rfl, rfl⟩
 exact main
end
end Go.Pv

namespace Go.Pv
open Go.Proofs
set_option linter.unusedVariables false
set_option linter.unusedSimpArgs false
set_option maxRecDepth 100000
section
variable {c : Cx} {p : NT → Nat → Out Nd} {s : St} {ir : Nat} {at_ n : Nat} {k : Int}
theorem used_t (hc : c.ok) (hp : PH c p) (b : Bool) : Told c (.used b) (c.usedS p b) := by
 intro at_ h0
 have hvl := hc.vl
 obtain ⟨o, ho⟩ : ∃ o, c.usedS p b at_ = o := ⟨_, rfl⟩
 rw [ho]
 unfold Cx.usedS at ho
 have hn := name_c hc (show at_ ≤ 1000000000 by omega)
 have main : MC c 197 [.lit (.bool b)] at_ (o.map encU) ∧ ∀ x j, o = .ok x j → at_ ≤ j ∧ j ≤ c.v.length := by
  by_cases h1 : c.kind at_ = 1
  ·rw [if_pos h1] at ho
   rw [if_pos (show (c.tk at_).kind = 1 from h1)] at hn
   have hlt := hc.ltk (at_ := at_) (by rw [show (c.tk at_).kind = 1 from h1]; decide)
   have hnd := node_c (at_ := at_ + 1) hc (show at_ + 1 ≤ c.v.length by omega) 50 (c.text at_) (c.place at_) .nil [] [] rfl
   have hq := is_c (at_ := at_ + 1) hc (show at_ + 1 ≤ 1000000000 by omega) ⟨#[40]⟩
   have hpl := place_le hc at_
   by_cases h2 : c.is (at_ + 1) ⟨#[40]⟩ = true
   ·rw [if_pos h2] at ho; rw [h2] at hq
    cases hx : p (.args (c.nodeN 50 (c.text at_) (c.place at_) (at_ + 1) []) (c.place at_)) (at_ + 1) with
    | fuel => rw [hx] at ho; subst ho; exact ⟨fun h => absurd rfl h, fun x j h => by cases h⟩
    | bad =>
     rw [hx] at ho; subst ho
     refine ⟨mcN_of (D := []) Tryz.func197 rfl (by kernel_rfl) fun _ s ir k he hs => ?_, fun x j h => by cases h⟩
     refine sc_q (place_c hc (show at_ ≤ 1000000000 by omega)) hc he rfl rfl rfl rfl ?_
     refine sc_ok hn hc he rfl rfl rfl rfl fun k1 => ?_
     refine sc_ok hnd hc he rfl rfl rfl rfl fun k2 => ?_
     refine sc_q hq hc he rfl rfl rfl rfl ?_
     refine sc_bad (hp.bad hx hpl (by omega) (fun _ => rfl)) hc he rfl rfl rfl rfl fun a' k' => ?_
     exact rd_end hc ⟨a', k', rfl, rfl⟩
    | ok x j =>
     have hle := hp.le (.args (c.nodeN 50 (c.text at_) (c.place at_) (at_ + 1) []) (c.place at_)) _ _ _ hpl (by omega) hx
     rw [hx] at ho; subst ho
     refine ⟨mcN_of (D := []) Tryz.func197 rfl (by kernel_rfl) fun _ s ir k he hs => ?_, fun x j h => by cases h; omega⟩
     refine sc_q (place_c hc (show at_ ≤ 1000000000 by omega)) hc he rfl rfl rfl rfl ?_
     refine sc_ok hn hc he rfl rfl rfl rfl fun k1 => ?_
     refine sc_ok hnd hc he rfl rfl rfl rfl fun k2 => ?_
     refine sc_q hq hc he rfl rfl rfl rfl ?_
     refine sc_ok (hp.ok hx hpl (by omega) (fun _ => rfl)) hc he rfl rfl rfl rfl fun k3 => ?_
     exact rd_end hc ⟨k3, rfl, rfl⟩
   ·have hf : c.is (at_ + 1) ⟨#[40]⟩ = false := by simpa using h2
    rw [if_neg h2] at ho; rw [hf] at hq
    cases b
    ·rw [if_neg (by simp)] at ho; subst ho
     refine ⟨mcN_of (D := []) Tryz.func197 rfl (by kernel_rfl) fun _ s ir k he hs => ?_, fun x j h => by cases h; omega⟩
     refine sc_q (place_c hc (show at_ ≤ 1000000000 by omega)) hc he rfl rfl rfl rfl ?_
     refine sc_ok hn hc he rfl rfl rfl rfl fun k1 => ?_
     refine sc_ok hnd hc he rfl rfl rfl rfl fun k2 => ?_
     refine sc_q hq hc he rfl rfl rfl rfl ?_
     exact rd_end hc ⟨k2, rfl, rfl⟩
    ·rw [if_pos rfl] at ho; subst ho
     refine ⟨mcN_of (D := []) Tryz.func197 rfl (by kernel_rfl) fun _ s ir k he hs => ?_, fun x j h => by cases h⟩
     refine sc_q (place_c hc (show at_ ≤ 1000000000 by omega)) hc he rfl rfl rfl rfl ?_
     refine sc_ok hn hc he rfl rfl rfl rfl fun k1 => ?_
     refine sc_ok hnd hc he rfl rfl rfl rfl fun k2 => ?_
     refine sc_q hq hc he rfl rfl rfl rfl ?_
     refine sc_bad wrong_m hc he rfl rfl rfl rfl fun a' k' => ?_
     exact rd_end hc ⟨a', k', rfl, rfl⟩
  ·rw [if_neg h1] at ho; subst ho
   rw [if_neg (show ¬ (c.tk at_).kind = 1 from h1)] at hn
   refine ⟨mcN_of (D := []) Tryz.func197 rfl (by kernel_rfl) fun _ s ir k he hs => ?_, fun x j h => by cases h⟩
   refine sc_q (place_c hc (show at_ ≤ 1000000000 by omega)) hc he rfl rfl rfl rfl ?_
   refine sc_bad hn hc he rfl rfl rfl rfl fun a' k' => ?_
   exact rd_end hc ⟨a', k', rfl, rfl⟩
 exact main
end
end Go.Pv

namespace Go.Pv
open Go.Proofs
set_option linter.unusedVariables false
set_option linter.unusedSimpArgs false
set_option maxRecDepth 100000
section
variable {P : Program} {T : TI} {imp : List Nat} {st : SS} {b : St} {env : SE}
theorem sw_loop1 {N : Nat} {D : Ord} {c : Code} {Q : Exit → SE → SS → St → Prop} (hT : TIok P T) (hD : (dOk N c && dOkD D) = true) (I : Nat → SE → SS → St → Prop) (n : Nat) (sel keep : List Nat) (hv : okView imp sel = true)
  (first : sx P T N imp D c (sview sel keep env) (sstore sel st) b (sthen (fun e st b => ∃ m, m < n + 1 ∧ Vw imp (I m) e st b) Q))
  (round : ∀ n env st b, I n env st b → sx P T N imp D c env st b (sthen (fun e st b => ∃ m, m < n ∧ Vw imp (I m) e st b) Q)) : SW P N imp (.loop c) env st b Q := by
 intro σ s e hR hE
 rw [Bool.and_eq_true] at hD
 refine PW.loop (fun m e s => (m = n + 1 ∧ ∃ σ, SRel imp σ (sstore sel st) b s ∧ ERel σ (sstore sel st) (sview sel keep env) e) ∨ (m < n + 1 ∧ ∃ σ st b env, SRel imp σ st b s ∧ ERel σ st env e ∧ I m env st b)) (n + 1) (.inl ⟨rfl, _, view_rel hv hR, view_env hE⟩) ?_
 have mono : ∀ {m : Nat} {x : Exit} {e : Env} {s : St}, m ≤ n + 1 → LiftQ imp (sthen (fun e st b => ∃ k, k < m ∧ Vw imp (I k) e st b) Q) x e s → thenQ (fun e' s' => ∃ k, k < m ∧ ((k = n + 1 ∧ ∃ σ, SRel imp σ (sstore sel st) b s' ∧ ERel σ (sstore sel st) (sview sel keep env) e') ∨ (k < n + 1 ∧ ∃ σ st b env, SRel imp σ st b s' ∧ ERel σ st env e' ∧ I k env st b))) (LiftQ imp Q) x e s := by
  intro m x e s hm h
  cases x with
  | normal =>
   obtain ⟨σ, st, b, env, k1, k2, k, k3, sel, keep, k4, k5⟩ := h
   exact ⟨k, k3, .inr ⟨by omega, _, _, b, _, view_rel k4 k1, view_env k2, k5⟩⟩
  | panic c => exact h
  | exit i => exact h
  | goto l => exact h
  | ret => exact h
  | outgrown => exact h
 rintro m e s (⟨rfl, σ, k1, k2⟩ | ⟨hm, σ, st, b, env, k1, k2, k3⟩)
 ·exact (sx_sound hT hD.2 c hD.1 _ _ _ _ first σ s e k1 k2).mono fun x e s h => mono (Nat.le_refl _) h
 ·exact (sx_sound hT hD.2 c hD.1 _ _ _ _ (round m env st b k3) σ s e k1 k2).mono fun x e s h => mono (by omega) h
theorem sw_nilOwn {N : Nat} {c : Code} {Q : Exit → SE → SS → St → Prop} {ty sz : Nat} (t0 : Nat) (h0 : lk env t0 = some (.av (.pv (.vec .nil []))))
  (h : SW P N imp c ((t0, .av (.own st.length)) :: env) (st ++ [some (.lst ty sz [])]) b Q) : SW P N imp c env st b Q := by
 have he : ∀ t v, lk ((t0, SV.av (.own st.length)) :: env) t = some v → lk env t = some v ∨ (lk env t = some (.av (.pv (.vec .nil []))) ∧ v = .av (.own st.length)) := fun t v hl => by
  simp only [lk] at hl
  cases hb : Nat.beq t0 t with
  | true => rw [hb] at hl; cases hl; rw [← Nat.eq_of_beq_eq_true hb]; exact .inr ⟨h0, rfl⟩
  | false => rw [hb] at hl; exact .inl hl
 intro σ s e hR hE
 have get : ∀ (k : Nat) (m : Loc), (st ++ [some (.lst ty sz [])])[k]? = some (some m) → (k < st.length ∧ st[k]? = some (some m)) ∨ (k = st.length ∧ m = .lst ty sz []) := fun k m hk => by
  rw [getElem?_app] at hk
  split at hk
  ·exact .inl ⟨‹_›, hk⟩
  ·split at hk
   ·cases hk; exact .inr ⟨‹_›, rfl⟩
   ·cases hk
 have hx : SExt σ st σ (st ++ [some (.lst ty sz [])]) := ⟨by simp, fun _ _ => rfl, fun k ty sz els hk hl => by rw [List.getElem?_append_left hk] at hl; exact hl⟩
 refine h σ s e ⟨hR.sub, fun k i hk => ⟨by have := (hR.imp k i hk).1; simp; omega, (hR.imp k i hk).2⟩, fun k m hk hm => ?_, fun k k' m m' hk hk' hm hm' hkk => ?_, fun k m hk => ?_⟩ (fun t v hl => ?_)
 ·rcases get k m hk with ⟨h1, h2⟩ | ⟨rfl, rfl⟩
  ·exact hR.fr k m h2 hm
  ·cases hm
 ·rcases get k m hk with ⟨h1, h2⟩ | ⟨rfl, rfl⟩
  ·rcases get k' m' hk' with ⟨h1', h2'⟩ | ⟨rfl, rfl⟩
   ·exact hR.inj k k' m m' h2 h2' hm hm' hkk
   ·cases hm'
  ·cases hm
 ·rcases get k m hk with ⟨h1, h2⟩ | ⟨rfl, rfl⟩
  ·exact (hR.loc k m h2).ext hx
  ·exact trivial
 ·rcases he t v hl with h1 | ⟨h1, rfl⟩
  ·exact (hE t v h1).ext hx
  ·have := pvS (hE t _ h1) rfl
   refine ⟨by simp, fun ty' sz' els' hk => ?_⟩
   rcases get _ _ hk with ⟨h1, _⟩ | ⟨_, h2⟩
   ·exact absurd h1 (Nat.lt_irrefl _)
   ·cases h2; exact this
end
@[reducible] def strV (u : ByteArray) : SV := .av (.pv (.lit (.string u)))
@[reducible] def boolV (t : Bool) : SV := .av (.pv (.lit (.bool t)))
@[reducible] def intV (n : Int) : SV := .av (.pv (.lit (.int .i64 n)))
@[reducible] def rdV : SV := .av (.cell 0 0)
@[reducible] def MvK (c : Cx) (st : SS) (b : St) (i : Nat) (K : SS → St → Prop) : Prop := ∀ k', nm (st.set 0 (rdLoc c (i : Nat) k')) fun st' => K st' b
@[reducible] def BdK (c : Cx) (st : SS) (b : St) (Kp : List PanicEntry → SS → St → Prop) : Prop := ∀ a' k', nm (st.set 0 (rdLoc c a' k')) fun st' => Kp [flt] st' b
section
variable {c : Cx} {imp : List Nat} {st : SS} {b : St} {K : SV → SS → St → Prop} {Kp : List PanicEntry → SS → St → Prop} {f : FuncId} {args : List SV} {i : Nat} {aI m : Int}
theorem sc_is {u : ByteArray} (hc : c.ok) (he : c.env b) (h0 : i ≤ c.v.length) (hst : st[0]? = some (rdLoc c aI m)) (ha : args = [rdV, strV u]) (hI : aI = (i : Nat))
  (hT : c.is i u = true → i < c.v.length → K (boolV true) st b) (hF : c.is i u = false → K (boolV false) st b) : SC Tryz.prog imp 189 args st b K Kp := by
 have hvl := hc.vl
 have hq := is_c hc (show i ≤ 1000000000 by omega) u
 cases h : c.is i u with
 | true => rw [h] at hq; exact sc_q (xs := [.lit (.string u)]) hq hc he hst ha hI rfl (hT h (hc.lt h))
 | false => rw [h] at hq; exact sc_q (xs := [.lit (.string u)]) hq hc he hst ha hI rfl (hF h)
theorem sc_eat {u : ByteArray} (hc : c.ok) (he : c.env b) (h0 : i ≤ c.v.length) (hst : st[0]? = some (rdLoc c aI m)) (ha : args = [rdV, strV u]) (hI : aI = (i : Nat))
  (hT : c.is i u = true → i < c.v.length → MvK c st b (i + 1) (K (boolV true))) (hF : c.is i u = false → MvK c st b i (K (boolV false))) : SC Tryz.prog imp 198 args st b K Kp := by
 have hvl := hc.vl
 have hq := eat_c hc (show i ≤ 1000000000 by omega) u
 unfold Cx.eat at hq
 cases h : c.is i u with
 | true => rw [h] at hq; exact sc_ok (xs := [.lit (.string u)]) hq hc he hst ha hI rfl (hT h (hc.lt h))
 | false => rw [h] at hq; exact sc_ok (xs := [.lit (.string u)]) hq hc he hst ha hI rfl (hF h)
theorem sc_want {u : ByteArray} (hc : c.ok) (he : c.env b) (h0 : i ≤ c.v.length) (hst : st[0]? = some (rdLoc c aI m)) (ha : args = [rdV, strV u]) (hI : aI = (i : Nat))
  (hF : c.is i u = false → BdK c st b Kp) (hT : c.is i u = true → i < c.v.length → MvK c st b (i + 1) (K (.av (.pv (.tup []))))) : SC Tryz.prog imp 184 args st b K Kp := by
 have hvl := hc.vl
 have hq := want_c hc (show i ≤ 1000000000 by omega) u
 cases h : c.is i u with
 | true => rw [h, if_pos rfl] at hq; exact sc_ok (xs := [.lit (.string u)]) hq hc he hst ha hI rfl (hT h (hc.lt h))
 | false => rw [h, if_neg (by simp)] at hq; exact sc_bad (xs := [.lit (.string u)]) hq hc he hst ha hI rfl (hF h)
theorem sc_name (hc : c.ok) (he : c.env b) (h0 : i ≤ c.v.length) (hst : st[0]? = some (rdLoc c aI m)) (ha : args = [rdV]) (hI : aI = (i : Nat))
  (hF : c.kind i ≠ 1 → BdK c st b Kp) (hT : c.kind i = 1 → i < c.v.length → MvK c st b (i + 1) (K (strV (c.text i)))) : SC Tryz.prog imp 188 args st b K Kp := by
 have hvl := hc.vl
 have hq := name_c hc (show i ≤ 1000000000 by omega)
 by_cases h : (c.tk i).kind = 1
 ·rw [if_pos h] at hq; exact sc_ok (xs := []) hq hc he hst ha hI rfl (hT h (hc.ltk (by rw [h]; decide)))
 ·rw [if_neg h] at hq; exact sc_bad (xs := []) hq hc he hst ha hI rfl (hF h)
theorem sc_among {kk : VK} {l : List ByteArray} {ps : List PV} (hc : c.ok) (he : c.env b) (h0 : i ≤ c.v.length) (hst : st[0]? = some (rdLoc c aI m)) (ha : args = [rdV, .av (.pv (.vec kk ps))]) (hp : ps = l.map fun u => .lit (.string u)) (hl : l.length ≤ 1000000) (hI : aI = (i : Nat))
  (hT : c.among i l = true → i < c.v.length → K (boolV true) st b) (hF : c.among i l = false → K (boolV false) st b) : SC Tryz.prog imp 250 args st b K Kp := by
 have hvl := hc.vl
 subst hp
 have hq := amongR_c hc (show i ≤ 1000000000 by omega) kk l hl
 cases h : c.among i l with
 | true => rw [h] at hq; exact sc_q (xs := [strL kk l]) hq hc he hst ha hI rfl (hT h (among_lt hc h))
 | false => rw [h] at hq; exact sc_q (xs := [strL kk l]) hq hc he hst ha hI rfl (hF h)
theorem sc_place (hc : c.ok) (he : c.env b) (h0 : i ≤ c.v.length) (hst : st[0]? = some (rdLoc c aI m)) (ha : args = [rdV]) (hI : aI = (i : Nat))
  (hK : K (intV (c.place i : Nat)) st b) : SC Tryz.prog imp 69 args st b K Kp := by
 have hvl := hc.vl
 exact sc_q (xs := []) (place_c hc (show i ≤ 1000000000 by omega)) hc he hst ha hI rfl hK
theorem sc_tok (hc : c.ok) (he : c.env b) (h0 : i ≤ c.v.length) (hst : st[0]? = some (rdLoc c aI m)) (ha : args = [rdV]) (hI : aI = (i : Nat))
  (hK : K (.av (.pv (encT (c.tk i)))) st b) : SC Tryz.prog imp 200 args st b K Kp := by
 have hvl := hc.vl
 exact sc_q (xs := []) (tok_c hc (show i ≤ 1000000000 by omega)) hc he hst ha hI rfl hK
theorem sc_ahead (hc : c.ok) (he : c.env b) (h0 : i ≤ c.v.length) (hst : st[0]? = some (rdLoc c aI m)) (ha : args = [rdV]) (hI : aI = (i : Nat))
  (hT : c.ahead i = true → i < c.v.length → K (boolV true) st b) (hF : c.ahead i = false → K (boolV false) st b) : SC Tryz.prog imp 316 args st b K Kp := by
 have hq := ahead_c hc h0
 cases h : c.ahead i with
 | true => rw [h] at hq; exact sc_q (xs := []) hq hc he hst ha hI rfl (hT h (ahead_lt hc h))
 | false => rw [h] at hq; exact sc_q (xs := []) hq hc he hst ha hI rfl (hF h)
theorem sc_node {op : Int} {u : ByteArray} {fr : Nat} {kk : VK} {ps : List PV} (l : List Nd) (hc : c.ok) (he : c.env b) (h0 : i ≤ c.v.length) (hst : st[0]? = some (rdLoc c aI m)) (ha : args = [rdV, intV op, strV u, intV (fr : Nat), .av (.pv (.vec kk ps))]) (hI : aI = (i : Nat)) (hp : ps = l.map encU)
  (hK : MvK c st b i (K (.av (.pv (encU (c.nodeN op u fr i l)))))) : SC Tryz.prog imp 71 args st b K Kp := by
 have he2 : l.map encU = l.map enc := List.map_congr_left fun x _ => (enc_eq x).symm
 exact sc_ok (xs := [.lit (.int .i64 op), .lit (.string u), .lit (.int .i64 (fr : Nat)), .vec kk ps]) (node_c hc h0 op u fr kk l ps (by rw [hp, he2])) hc he hst ha hI rfl hK
variable {p : NT → Nat → Out Nd}
theorem sc_p (hp : PH c p) (Y : NT) (hY : okY Y) {vs : List SV} (hc : c.ok) (he : c.env b) (h0 : i ≤ c.v.length) (hst : st[0]? = some (rdLoc c aI m)) (hf : f = fnOf Y) (ha : args = rdV :: vs) (hI : aI = (i : Nat)) (hl : ∀ σ ps, All2 (SVR σ st) vs ps → ps = argsOf Y (σ 0))
  (hfu : p Y i ≠ .fuel) (hF : p Y i = .bad → BdK c st b Kp) (hT : ∀ x j, p Y i = .ok x j → i ≤ j → j ≤ c.v.length → MvK c st b j (K (.av (.pv (encOf Y x))))) : SC Tryz.prog imp f args st b K Kp := by
 subst hf
 have hq := hp.mc Y i hY h0
 have hle := hp.le Y i
 cases h : p Y i with
 | fuel => exact absurd h hfu
 | bad => rw [h] at hq; exact sc_g (vs := vs) hq hc he hst ha hI hl (hF h)
 | ok x j => rw [h] at hq; exact sc_g (vs := vs) hq hc he hst ha hI hl (hT x j h (hle x j hY h0 h).1 (hle x j hY h0 h).2)
theorem sc_sizes (hp : PH c p) (hc : c.ok) (he : c.env b) (h0 : i ≤ c.v.length) (hst : st[0]? = some (rdLoc c aI m)) (ha : args = [rdV]) (hI : aI = (i : Nat))
  (hfu : p .sizes i ≠ .fuel) (hF : p .sizes i = .bad → BdK c st b Kp) (hT : ∀ x j, p .sizes i = .ok x j → i ≤ j → j ≤ c.v.length → x.l.length ≤ j → ∀ k', nm (st.set 0 (rdLoc c (j : Nat) k') ++ [some (.lst 26 6 (x.l.map encC))]) fun st' => K (.av (.own st.length)) st' b) : SC Tryz.prog imp 248 args st b K Kp :=
 sc_w (xs := []) (hp.sz i h0) hc he hst ha hI rfl hfu hF fun x j h => hT x j h (hp.szle i x j h0 h).1 (hp.szle i x j h0 h).2.1 (hp.szle i x j h0 h).2.2
theorem sc_starred (mm : Nm) (hc : c.ok) (he : c.env b) (h0 : i ≤ c.v.length) (hst : st[0]? = some (rdLoc c aI m)) (ha : args = [rdV, ruleS mm]) (hI : aI = (i : Nat))
  (hF : c.starred mm i = .bad → BdK c st b Kp) (hT : ∀ x j, c.starred mm i = .ok x j → i ≤ j → j ≤ c.v.length → MvK c st b j (K (.av (.pv (encU x))))) : SC Tryz.prog imp 192 args st b K Kp := by
 have hq := starred_c hc h0 mm
 cases h : c.starred mm i with
 | fuel =>
  unfold Cx.starred at h
  cases hb : c.base mm i with
  | fuel => exact absurd hb base_nf
  | bad => rw [hb] at h; cases h
  | ok u j => rw [hb] at h; cases h
 | bad => rw [h] at hq; exact sc_gm hq hc he hst ha hI (hF h)
 | ok x j => rw [h] at hq; exact sc_gm hq hc he hst ha hI (hT x j h (starred_le hc h0 h).1 (starred_le hc h0 h).2)
theorem simple_le (hc : c.ok) (h0 : i ≤ c.v.length) {mm : Nm} {x : Nd} {j : Nat} (h : c.simple mm i = .ok x j) : i ≤ j ∧ j ≤ c.v.length := by
 unfold Cx.simple at h
 cases hb : c.base mm i with
 | fuel => rw [hb] at h; cases h
 | bad => rw [hb] at h; cases h
 | ok u i' =>
  rw [hb] at h
  have h1 := base_le hc h0 hb
  cases h
  exact h1
theorem sc_simple (mm : Nm) (hc : c.ok) (he : c.env b) (h0 : i ≤ c.v.length) (hst : st[0]? = some (rdLoc c aI m)) (ha : args = [rdV, ruleS mm]) (hI : aI = (i : Nat))
  (hF : c.simple mm i = .bad → BdK c st b Kp) (hT : ∀ x j, c.simple mm i = .ok x j → i ≤ j → j ≤ c.v.length → MvK c st b j (K (.av (.pv (encU x))))) : SC Tryz.prog imp 185 args st b K Kp := by
 have hq := simple_c hc h0 mm
 cases h : c.simple mm i with
 | fuel =>
  unfold Cx.simple at h
  cases hb : c.base mm i with
  | fuel => exact absurd hb base_nf
  | bad => rw [hb] at h; cases h
  | ok u j => rw [hb] at h; cases h
 | bad => rw [h] at hq; exact sc_gm hq hc he hst ha hI (hF h)
 | ok x j => rw [h] at hq; exact sc_gm hq hc he hst ha hI (hT x j h (simple_le hc h0 h).1 (simple_le hc h0 h).2)
theorem sc_begins (mm : Nm) (hc : c.ok) (he : c.env b) (h0 : i ≤ c.v.length) (hst : st[0]? = some (rdLoc c aI m)) (ha : args = [rdV, ruleS mm]) (hI : aI = (i : Nat))
  (hK : ∀ t, c.begins mm i = t → K (boolV t) st b) : SC Tryz.prog imp 305 args st b K Kp :=
 sc_qm (begins_c hc h0 mm) hc he hst ha hI (hK _ rfl)
theorem sc_guessed (hc : c.ok) (he : c.env b) (h0 : i ≤ c.v.length) (hst : st[0]? = some (rdLoc c aI m)) (ha : args = [rdV]) (hI : aI = (i : Nat))
  (hK : K (intV (c.guessed i)) st b) : SC Tryz.prog imp 308 args st b K Kp :=
 sc_q (xs := []) (guessed_c hc h0) hc he hst ha hI rfl hK
theorem sc_meta (hc : c.ok) (he : c.env b) (h0 : i ≤ c.v.length) (hst : st[0]? = some (rdLoc c aI m)) (ha : args = [rdV]) (hI : aI = (i : Nat))
  (hK : K (strV ⟨#[]⟩) st b) : SC Tryz.prog imp 288 args st b K Kp :=
 sc_q (xs := []) (meta_c hc h0) hc he hst ha hI rfl hK
theorem sc_dots (hc : c.ok) (he : c.env b) (h0 : i ≤ c.v.length) (hst : st[0]? = some (rdLoc c aI m)) (ha : args = [rdV]) (hI : aI = (i : Nat))
  (hK : K (.av (.pv (.tup [zeroN, .lit (.bool false)]))) st b) : SC Tryz.prog imp 253 args st b K Kp :=
 sc_q (xs := []) (dots_c hc h0) hc he hst ha hI rfl hK
theorem sc_words (hc : c.ok) (he : c.env b) (h0 : i ≤ c.v.length) (hst : st[0]? = some (rdLoc c aI m)) (ha : args = [rdV]) (hI : aI = (i : Nat))
  (hK : i ≤ (c.words wordsL i).2 → (c.words wordsL i).2 ≤ c.v.length → MvK c st b (c.words wordsL i).2 (K (strV (c.words wordsL i).1))) : SC Tryz.prog imp 191 args st b K Kp := by
 have := words_le hc wordsL (c.v.length - i) i ⟨#[]⟩ h0
 exact sc_ok (xs := []) (words_c hc h0) hc he hst ha hI rfl (hK this.1 this.2)
end
def OLe {α : Type} (o : Out α) (i n : Nat) : Prop := ∀ x j, o = .ok x j → i ≤ j ∧ j ≤ n
section
variable {α β : Type} {i n : Nat}
theorem OLe.fuel : OLe (.fuel : Out α) i n := fun x j h => by cases h
theorem OLe.bad : OLe (.bad : Out α) i n := fun x j h => by cases h
theorem OLe.ok {a : α} {k : Nat} (h1 : i ≤ k) (h2 : k ≤ n) : OLe (.ok a k) i n := fun x j h => by cases h; exact ⟨h1, h2⟩
theorem OLe.bind {o : Out α} {f : α → Nat → Out β} (h : OLe o i n) (hf : ∀ x j, i ≤ j → j ≤ n → OLe (f x j) i n) : OLe (o.bind f) i n := by
 cases o with
 | fuel => exact .fuel
 | bad => exact .bad
 | ok a k => exact hf a k (h a k rfl).1 (h a k rfl).2
theorem OLe.want {c : Cx} (hc : c.ok) {u : ByteArray} {j : Nat} {f : Nat → Out α} (hn : n = c.v.length) (hf : j < n → OLe (f (j + 1)) i n) : OLe (c.want j u f) i n := by
 unfold Cx.want
 split
 ·rename_i h; exact hf (by rw [hn]; exact hc.lt h)
 ·exact .bad
theorem OLe.lo {o : Out α} {i' : Nat} (h : OLe o i' n) (hi : i ≤ i') : OLe o i n := fun x j hj => by have := h x j hj; omega
end
theorem told_of {c : Cx} {Y : NT} {o : Nat → Out Nd} (h1 : ∀ i, i ≤ c.v.length → MG c (fnOf Y) (argsOf Y) i ((o i).map (encOf Y))) (h2 : ∀ i, i ≤ c.v.length → OLe (o i) i c.v.length) : Told c Y o := fun i hi => ⟨h1 i hi, h2 i hi⟩
theorem PH.ole {c : Cx} {p : NT → Nat → Out Nd} (hp : PH c p) (Y : NT) (hY : okY Y) {i : Nat} (hi : i ≤ c.v.length) : OLe (p Y i) i c.v.length := fun x j h => hp.le Y i x j hY hi h
end Go.Pv

namespace Go.Pv
open Go.Proofs
set_option linter.unusedVariables false
set_option linter.unusedSimpArgs false
set_option maxRecDepth 100000
@[reducible] def zLoc : Option Loc := some (.cel 26 6 (zeroN.cells.map .pv))
@[reducible] def ndLoc (x : Nd) : Option Loc := some (.cel 26 6 ((encC x).map .pv))
@[reducible] def ownL (L : List Nd) : Option Loc := some (.lst 26 6 (L.map encC))
theorem ownL_cells (L : List Nd) : (L.map encU).map PV.cells = L.map encC := by rw [List.map_map]; rfl
theorem ownL_snoc (L : List Nd) (x : Nd) : L.map encC ++ [encC x] = (L ++ [x]).map encC := by simp
section
variable {c : Cx} {p : NT → Nat → Out Nd} {s : St} {ir : Nat} {at_ n : Nat} {k : Int}
theorem commas_ole {q : Nat → Out Nd} (hc : c.ok) (hq : ∀ j, j ≤ c.v.length → OLe (q j) j c.v.length) : ∀ (m : Nat) (L : List Nd) {i j : Nat}, i ≤ j → j ≤ c.v.length → OLe (c.commas q m L j) i c.v.length
 | 0, L, i, j, h1, h2 => .fuel
 | m + 1, L, i, j, h1, h2 => by
  unfold Cx.commas
  split
  ·rename_i h
   have hlt := hc.lt h
   exact .bind ((hq (j + 1) hlt).lo (by omega)) fun x k h3 h4 => commas_ole hc hq m _ h3 h4
  ·exact .ok h1 h2
theorem expr_t (hc : c.ok) (hp : PH c p) : Told c .expr (c.exprS p n) := by
 refine told_of (fun at_ h0 => ?_) (fun at_ h0 => ?_)
 ·have hvl := hc.vl
  obtain ⟨o, ho⟩ : ∃ o, c.exprS p n at_ = o := ⟨_, rfl⟩
  rw [ho]
  unfold Cx.exprS at ho
  show MC c 150 [] at_ (o.map encU)
  refine mcN_of (D := []) Tryz.func150 rfl (by kernel_rfl) fun hn s ir k he hs => ?_
  refine sc_place hc he h0 rfl rfl rfl ?_
  refine sc_p hp .assign trivial hc he h0 rfl rfl rfl rfl (fun σ ps h => h.nil_inv) (fun hx => hn (by rw [← ho, hx]; rfl)) (fun hx a' k' => ?_) (fun x1 j1 hx l1 u1 k1 => ?_)
  ·rw [hx] at ho; subst ho; exact rd_end hc ⟨a', k', rfl, rfl⟩
  rw [hx] at ho; simp only [Out.bind_ok] at ho
  refine sc_is hc he u1 rfl rfl rfl (fun h2 lt2 => ?_) (fun h2 => ?_)
  rotate_left
  ·rw [if_neg (by simp [h2])] at ho; subst ho; exact rd_end hc ⟨_, rfl, rfl⟩
  rw [if_pos h2] at ho
  obtain ⟨o1, ho1⟩ : ∃ o1, c.commas (p .assign) n [x1] j1 = o1 := ⟨_, rfl⟩
  rw [ho1] at ho
  cases n with
  | zero => exact absurd (show o.map encU = .fuel by rw [← ho, ← ho1]; rfl) hn
  | succ n =>
  rw [Cx.commas, if_pos h2] at ho1
  refine sw_loop1 (D := []) ti_ok (by kernel_rfl) (fun m env st b => ∃ (j : Nat) (L : List Nd) (k : Int), j ≤ c.v.length ∧ L.length ≤ j + 1 ∧ c.commas (p .assign) m L j = o1 ∧ env = [(0, rdV), (2, .av (.cell 1 0)), (3, intV (c.place at_ : Nat)), (5, .av (.own 2))] ∧ st = [rdLoc c (j : Nat) k, zLoc, ownL L] ∧ b = s.upd ir none) n [0, 1] [0, 2, 3, 5] rfl ?_ ?_
  ·refine sc_eat hc he u1 rfl rfl rfl (fun h3 lt3 k2 => ?_) (fun h3 => by rw [h2] at h3; cases h3)
   refine sc_p hp .assign trivial hc he (show j1 + 1 ≤ c.v.length by omega) rfl rfl rfl rfl (fun σ ps h => h.nil_inv) (fun hx => hn (by rw [← ho, ← ho1, hx]; rfl)) (fun hx a' k' => ?_) (fun x2 j2 hx l2 u2 k3 => ?_)
   ·rw [hx] at ho1; subst ho1; subst ho; exact rd_end hc ⟨a', k', rfl, rfl⟩
   rw [hx] at ho1; simp only [Out.bind_ok] at ho1
   refine ⟨[encC x2], rfl, [encC x1], rfl, by simp, ?_⟩
   exact ⟨n, by omega, [0, 1, 2], [0, 2, 3, 5], rfl, j2, [x1, x2], k3, u2, by show 2 ≤ j2 + 1; omega, ho1, rfl, rfl, rfl⟩
  ·rintro m env st b ⟨j, L, k4, hj, hL, hm, rfl, rfl, rfl⟩
   cases m with
   | zero => exact absurd (show o.map encU = .fuel by rw [← ho, ← hm]; rfl) hn
   | succ m =>
   rw [Cx.commas] at hm
   refine sc_eat hc he hj rfl rfl rfl (fun h3 lt3 k2 => ?_) (fun h3 k2 => ?_)
   ·rw [if_pos h3] at hm
    refine sc_p hp .assign trivial hc he (show j + 1 ≤ c.v.length by omega) rfl rfl rfl rfl (fun σ ps h => h.nil_inv) (fun hx => hn (by rw [← ho, ← hm, hx]; rfl)) (fun hx a' k' => ?_) (fun x2 j2 hx l2 u2 k3 => ?_)
    ·rw [hx] at hm; subst hm; subst ho; exact rd_end hc ⟨a', k', rfl, rfl⟩
    rw [hx] at hm; simp only [Out.bind_ok] at hm
    refine ⟨[encC x2], rfl, by simp; omega, ?_⟩
    exact ⟨m, by omega, [0, 1, 3], [0, 2, 3, 5], rfl, j2, L ++ [x2], k3, u2, by simp; omega, hm, rfl, by unfold ownL; rw [← ownL_snoc]; rfl, rfl⟩
   ·rw [if_neg (by simp [h3])] at hm
    subst hm
    simp only [Out.bind_ok] at ho
    subst ho
    refine sc_own (n := 4) (L.map encU) rfl rfl (ownL_cells L) ?_
    refine sc_node L hc he hj rfl rfl rfl rfl fun kN => ?_
    exact rd_end hc ⟨kN, rfl, rfl⟩
 ·unfold Cx.exprS
  refine .bind (hp.ole .assign trivial h0) fun x j h1 h2 => ?_
  split
  ·exact .bind (commas_ole hc (fun j h => hp.ole .assign trivial h) n [x] h1 h2) fun l j h1 h2 => .ok h1 h2
  ·exact .ok h1 h2
end
end Go.Pv

namespace Go.Pv
open Go.Proofs
set_option linter.unusedVariables false
set_option linter.unusedSimpArgs false
set_option maxRecDepth 100000
section
variable {c : Cx} {p : NT → Nat → Out Nd} {s : St} {ir : Nat} {at_ n : Nat} {k : Int}
theorem argument_c (hc : c.ok) (hp : PH c p) (h0 : at_ ≤ c.v.length) : MG c 293 (fun _ => []) at_ ((p .assign at_).map encU) := by
 obtain ⟨o, ho⟩ : ∃ o, p .assign at_ = o := ⟨_, rfl⟩
 rw [ho]
 show MC c 293 [] at_ (o.map encU)
 refine mcN_of (D := []) Tryz.func293 rfl (by kernel_rfl) fun hn s ir k he hs => ?_
 refine sc_dots hc he h0 rfl rfl rfl ?_
 refine sc_meta hc he h0 rfl rfl rfl ?_
 rintro (_ | _) hm
 ·refine sc_p hp (.assign) (trivial) hc he (h0) rfl rfl rfl (by first | rfl | exact inc (by omega) | exact inc2 (by omega)) (fun σ ps h => h.nil_inv) (fun hx => hn (by rw [← ho, hx]; rfl)) (fun hx a' k' => ?_) (fun x1 j1 hx l1 u1 k1 => ?_)
  ·rw [hx] at ho; subst ho; exact rd_end hc ⟨a', k', rfl, rfl⟩
  rw [hx] at ho; try simp only [Out.bind_ok] at ho
  subst ho
  exact rd_end hc ⟨_, rfl, rfl⟩
 ·exact absurd (of_decide_eq_true hm) (by decide)
end
section
variable {c : Cx} {p : NT → Nat → Out Nd} {imp : List Nat} {st : SS} {b : St} {K : SV → SS → St → Prop} {Kp : List PanicEntry → SS → St → Prop} {args : List SV} {i : Nat} {aI m : Int}
theorem sc_arg (hp : PH c p) (hc : c.ok) (he : c.env b) (h0 : i ≤ c.v.length) (hst : st[0]? = some (rdLoc c aI m)) (ha : args = [rdV]) (hI : aI = (i : Nat))
  (hfu : p .assign i ≠ .fuel) (hF : p .assign i = .bad → BdK c st b Kp) (hT : ∀ x j, p .assign i = .ok x j → i ≤ j → j ≤ c.v.length → MvK c st b j (K (.av (.pv (encU x))))) : SC Tryz.prog imp 293 args st b K Kp := by
 have hq := argument_c hc hp h0
 have hle := hp.le .assign i
 cases h : p .assign i with
 | fuel => exact absurd h hfu
 | bad => rw [h] at hq; exact sc_g (vs := []) hq hc he hst ha hI (fun σ ps h => h.nil_inv) (hF h)
 | ok x j => rw [h] at hq; exact sc_g (vs := []) hq hc he hst ha hI (fun σ ps h => h.nil_inv) (hT x j h (hle x j trivial h0 h).1 (hle x j trivial h0 h).2)
end
section
variable {c : Cx} {p : NT → Nat → Out Nd} {s : St} {ir : Nat} {at_ n : Nat} {k : Int}
theorem args_t (hc : c.ok) (hp : PH c p) (f : Nd) (fr : Nat) : Told c (.args f fr) (c.argsS p n f fr) := by
 refine told_of (fun at_ h0 => ?_) (fun at_ h0 => ?_)
 ·have hvl := hc.vl
  obtain ⟨o, ho⟩ : ∃ o, c.argsS p n f fr at_ = o := ⟨_, rfl⟩
  rw [ho]
  unfold Cx.argsS at ho
  simp only [Cx.want] at ho
  show MC c 255 [encU f, .lit (.int .i64 (fr : Nat))] at_ (o.map encU)
  refine mcN_of (D := []) Tryz.func255 rfl (by kernel_rfl) fun hn s ir k he hs => ?_
  refine sc_want hc he (h0) rfl rfl (by first | rfl | exact inc (by omega) | exact inc2 (by omega)) (fun h a' k' => ?_) (fun h1 lt1 k1 => ?_)
  ·rw [if_neg (by simp [h])] at ho; subst ho; exact rd_end hc ⟨a', k', rfl, rfl⟩
  rw [if_pos h1] at ho; try simp only [Out.bind_ok] at ho
  refine sc_is hc he (show at_ + 1 ≤ c.v.length by omega) rfl rfl rfl (fun h2 lt2 => ?_) (fun h2 => ?_)
  ·rw [if_pos h2] at ho; simp only [Out.bind_ok] at ho
   refine sc_want hc he (show at_ + 1 ≤ c.v.length by omega) rfl rfl (by first | rfl | exact inc (by omega) | exact inc2 (by omega)) (fun h a' k' => ?_) (fun h3 lt3 k3 => ?_)
   ·rw [if_neg (by simp [h])] at ho; subst ho; exact rd_end hc ⟨a', k', rfl, rfl⟩
   rw [if_pos h3] at ho; try simp only [Out.bind_ok] at ho
   subst ho
   refine sc_node ([f]) hc he (show at_ + 1 + 1 ≤ c.v.length by omega) rfl rfl (by first | rfl | exact inc (by omega) | exact inc2 (by omega)) rfl fun kN => ?_
   exact rd_end hc ⟨kN, rfl, rfl⟩
  ·rw [if_neg (by simp [h2])] at ho
   obtain ⟨o1, ho1⟩ : ∃ o1, ((p .assign (at_ + 1)).bind fun x j => c.commas (p .assign) n [f, x] j) = o1 := ⟨_, rfl⟩
   rw [ho1] at ho
   refine sc_arg hp hc he (show at_ + 1 ≤ c.v.length by omega) rfl rfl rfl (fun hx => hn (by rw [← ho, ← ho1, hx]; rfl)) (fun hx a' k' => ?_) (fun x1 j1 hx l1 u1 k4 => ?_)
   ·rw [hx] at ho1; subst ho1; subst ho; exact rd_end hc ⟨a', k', rfl, rfl⟩
   rw [hx] at ho1; simp only [Out.bind_ok] at ho1
   refine ⟨[encC x1], rfl, [encC f], rfl, by simp, ?_⟩
   refine sw_loop (D := []) ti_ok (by kernel_rfl) (fun m env st b => ∃ (j : Nat) (L : List Nd) (k : Int), j ≤ c.v.length ∧ L.length ≤ j + 2 ∧ c.commas (p .assign) m L j = o1 ∧ env = [(0, rdV), (2, intV (fr : Nat)), (6, .av (.cell 1 0)), (7, .av (.own 2))] ∧ st = [rdLoc c (j : Nat) k, zLoc, ownL L] ∧ b = s.upd ir none) n ⟨[0, 2, 3], [0, 2, 6, 7], rfl, j1, [f, x1], k4, u1, by simp, ho1, rfl, rfl, rfl⟩ ?_
   rintro m env st b ⟨j, L, k4, hj, hL, hm, rfl, rfl, rfl⟩
   cases m with
   | zero => exact absurd (show o.map encU = .fuel by rw [← ho, ← hm]; rfl) hn
   | succ m =>
   rw [Cx.commas] at hm
   refine sc_eat hc he hj rfl rfl rfl (fun h3 lt3 k2 => ?_) (fun h3 k2 => ?_)
   ·rw [if_pos h3] at hm
    refine sc_arg hp hc he (show j + 1 ≤ c.v.length by omega) rfl rfl rfl (fun hx => hn (by rw [← ho, ← hm, hx]; rfl)) (fun hx a' k' => ?_) (fun x2 j2 hx l2 u2 k3 => ?_)
    ·rw [hx] at hm; subst hm; subst ho; exact rd_end hc ⟨a', k', rfl, rfl⟩
    rw [hx] at hm; simp only [Out.bind_ok] at hm
    refine ⟨[encC x2], rfl, by simp; omega, ?_⟩
    exact ⟨m, by omega, [0, 1, 3], [0, 2, 6, 7], rfl, j2, L ++ [x2], k3, u2, by simp; omega, hm, rfl, by unfold ownL; rw [← ownL_snoc]; rfl, rfl⟩
   ·rw [if_neg (by simp [h3])] at hm
    subst hm
    simp only [Out.bind_ok] at ho
    refine sc_want hc he (hj) rfl rfl (by first | rfl | exact inc (by omega) | exact inc2 (by omega)) (fun h a' k' => ?_) (fun h5 lt5 k5 => ?_)
    ·rw [if_neg (by simp [h])] at ho; subst ho; exact rd_end hc ⟨a', k', rfl, rfl⟩
    rw [if_pos h5] at ho; try simp only [Out.bind_ok] at ho
    subst ho
    refine sc_own (n := 4) (L.map encU) rfl rfl (ownL_cells L) ?_
    refine sc_node (L) hc he (show j + 1 ≤ c.v.length by omega) rfl rfl (by first | rfl | exact inc (by omega) | exact inc2 (by omega)) rfl fun kN => ?_
    exact rd_end hc ⟨kN, rfl, rfl⟩
 ·unfold Cx.argsS
  refine .want hc rfl fun h1 => .bind ?_ fun l j h2 h3 => .want hc rfl fun h4 => .ok (by omega) (by omega)
  split
  ·exact .ok (by omega) (by omega)
  ·exact .bind ((hp.ole .assign trivial (by omega)).lo (by omega)) fun x j h2 h3 => commas_ole hc (fun j h => hp.ole .assign trivial h) n _ h2 h3
theorem dclrs_t (hc : c.ok) (hp : PH c p) (b : Bool) : Told c (.dclrs b) (c.dclrsS p n b) := by
 refine told_of (fun at_ h0 => ?_) (fun at_ h0 => ?_)
 ·have hvl := hc.vl
  obtain ⟨o, ho⟩ : ∃ o, c.dclrsS p n b at_ = o := ⟨_, rfl⟩
  rw [ho]
  unfold Cx.dclrsS at ho
  simp only [Cx.want] at ho
  have hn0 : o.map (encOf (.dclrs b)) ≠ .fuel → o ≠ .fuel := fun h e => by subst e; exact h rfl
  intro hn
  replace hn := hn0 hn
  intro s ir k he hs
  refine PCalls.objO ti_ok hs Tryz.func190 rfl (D := []) (by kernel_rfl) rfl ?_
  replace he := he.upd hs none
  refine sc_p hp (.dclr b) (trivial) hc he (h0) rfl rfl rfl (by first | rfl | exact inc (by omega) | exact inc2 (by omega)) (fun σ ps h => pvs_rel (ps := [.lit (.bool b)]) rfl h) (fun hx => hn (by rw [← ho, hx]; rfl)) (fun hx a' k' => ?_) (fun x1 j1 hx l1 u1 k1 => ?_)
  ·rw [hx] at ho; subst ho; exact rd_end hc ⟨a', k', rfl, rfl⟩
  rw [hx] at ho; try simp only [Out.bind_ok] at ho
  obtain ⟨o1, ho1⟩ : ∃ o1, c.commas (p (.dclr b)) n [x1] j1 = o1 := ⟨_, rfl⟩
  rw [ho1] at ho
  cases n with
  | zero => exact absurd (show o = .fuel by rw [← ho, ← ho1]; rfl) hn
  | succ n =>
  rw [Cx.commas] at ho1
  refine sw_loop1 (D := []) ti_ok (by kernel_rfl) (fun m env st b2 => ∃ (j : Nat) (L : List Nd) (k : Int), j ≤ c.v.length ∧ L.length ≤ j + 1 ∧ c.commas (p (.dclr b)) m L j = o1 ∧ env = [(0, rdV), (1, boolV b), (5, .av (.own 1))] ∧ st = [rdLoc c (j : Nat) k, ownL L] ∧ b2 = s.upd ir none) n [0] [0, 1, 5] rfl ?_ ?_
  ·refine sc_eat hc he u1 rfl rfl rfl (fun h3 lt3 k2 => ?_) (fun h3 k2 => ?_)
   ·rw [if_pos h3] at ho1
    refine sc_p hp (.dclr b) (trivial) hc he (show j1 + 1 ≤ c.v.length by omega) rfl rfl rfl (by first | rfl | exact inc (by omega) | exact inc2 (by omega)) (fun σ ps h => pvs_rel (ps := [.lit (.bool b)]) rfl h) (fun hx => hn (by rw [← ho, ← ho1, hx]; rfl)) (fun hx a' k' => ?_) (fun x2 j2 hx l2 u2 k3 => ?_)
    ·rw [hx] at ho1; subst ho1; subst ho; exact rd_end hc ⟨a', k', rfl, rfl⟩
    rw [hx] at ho1; try simp only [Out.bind_ok] at ho1
    refine ⟨[encC x2], rfl, [encC x1], rfl, by simp, ?_⟩
    exact ⟨n, by omega, [0, 1], [0, 1, 5], rfl, j2, [x1, x2], k3, u2, by show 2 ≤ j2 + 1; omega, ho1, rfl, rfl, rfl⟩
   ·rw [if_neg (by simp [h3])] at ho1
    subst ho1
    simp only [Out.bind_ok] at ho
    refine sc_want hc he (u1) rfl rfl (by first | rfl | exact inc (by omega) | exact inc2 (by omega)) (fun h a' k' => ?_) (fun h5 lt5 k5 => ?_)
    ·rw [if_neg (by simp [h])] at ho; subst ho; exact rd_end hc ⟨a', k', rfl, rfl⟩
    rw [if_pos h5] at ho; try simp only [Out.bind_ok] at ho
    subst ho
    exact rd_end hc ⟨_, rfl, by simp [encOf, Cx.listN]⟩
  ·rintro m env st b2 ⟨j, L, k4, hj, hL, hm, rfl, rfl, rfl⟩
   cases m with
   | zero => exact absurd (show o = .fuel by rw [← ho, ← hm]; rfl) hn
   | succ m =>
   rw [Cx.commas] at hm
   refine sc_eat hc he hj rfl rfl rfl (fun h3 lt3 k2 => ?_) (fun h3 k2 => ?_)
   ·rw [if_pos h3] at hm
    refine sc_p hp (.dclr b) (trivial) hc he (show j + 1 ≤ c.v.length by omega) rfl rfl rfl (by first | rfl | exact inc (by omega) | exact inc2 (by omega)) (fun σ ps h => pvs_rel (ps := [.lit (.bool b)]) rfl h) (fun hx => hn (by rw [← ho, ← hm, hx]; rfl)) (fun hx a' k' => ?_) (fun x2 j2 hx l2 u2 k3 => ?_)
    ·rw [hx] at hm; subst hm; subst ho; exact rd_end hc ⟨a', k', rfl, rfl⟩
    rw [hx] at hm; try simp only [Out.bind_ok] at hm
    refine ⟨[encC x2], rfl, by simp; omega, ?_⟩
    exact ⟨m, by omega, [0, 2], [0, 1, 5], rfl, j2, L ++ [x2], k3, u2, by simp; omega, hm, rfl, by unfold ownL; rw [← ownL_snoc]; rfl, rfl⟩
   ·rw [if_neg (by simp [h3])] at hm
    subst hm
    simp only [Out.bind_ok] at ho
    refine sc_want hc he (hj) rfl rfl (by first | rfl | exact inc (by omega) | exact inc2 (by omega)) (fun h a' k' => ?_) (fun h5 lt5 k5 => ?_)
    ·rw [if_neg (by simp [h])] at ho; subst ho; exact rd_end hc ⟨a', k', rfl, rfl⟩
    rw [if_pos h5] at ho; try simp only [Out.bind_ok] at ho
    subst ho
    exact ⟨L.map encU, ownL_cells L, rd_end hc ⟨_, rfl, by simp [encOf, Cx.listN]⟩⟩
 ·unfold Cx.dclrsS
  refine .bind (hp.ole (.dclr b) trivial h0) fun x j h1 h2 => .bind (commas_ole hc (fun j h => hp.ole (.dclr b) trivial h) n _ h1 h2) fun l j h2 h3 => .want hc rfl fun h4 => .ok (by omega) (by omega)
end
end Go.Pv

namespace Go.Pv
open Go.Proofs
set_option linter.unusedVariables false
set_option linter.unusedSimpArgs false
set_option maxRecDepth 100000
@[reducible] def lenV (l : List ByteArray) : SV := intV ((l.map fun u => PV.lit (.string u)).length : Nat)
section
variable {c : Cx} {p : NT → Nat → Out Nd} {s : St} {ir : Nat} {at_ n : Nat} {k : Int}
theorem first_go {l : List ByteArray} {i j : Nat} (h : i < l.length) (hx : (l.drop i).find? (fun u => c.is j u) = c.first l j) : (c.is j l[i] = true → c.first l j = some l[i]) ∧ (c.is j l[i] = false → (l.drop (i + 1)).find? (fun u => c.is j u) = c.first l j) := by
 rw [List.drop_eq_getElem_cons h, List.find?_cons] at hx
 constructor
 ·intro h1; rw [h1] at hx; exact hx.symm
 ·intro h1; rw [h1] at hx; exact hx
theorem first_is {l : List ByteArray} {j : Nat} {u : ByteArray} (h : c.first l j = some u) : c.is j u = true := by
 have := List.find?_some h
 exact this
theorem assign_t (hc : c.ok) (hp : PH c p) : Told c .assign (c.assignS p) := by
 refine told_of (fun at_ h0 => ?_) (fun at_ h0 => ?_)
 ·have hvl := hc.vl
  obtain ⟨o, ho⟩ : ∃ o, c.assignS p at_ = o := ⟨_, rfl⟩
  rw [ho]
  unfold Cx.assignS at ho
  show MC c 224 [] at_ (o.map encU)
  refine mcN_of (D := []) Tryz.func224 rfl (by kernel_rfl) fun hn s ir k he hs => ?_
  refine sc_place hc he h0 rfl rfl rfl ?_
  refine sc_p hp (.choice) (trivial) hc he (h0) rfl rfl rfl (by first | rfl | exact inc (by omega) | exact inc2 (by omega)) (fun σ ps h => h.nil_inv) (fun hx => hn (by rw [← ho, hx]; rfl)) (fun hx a' k' => ?_) (fun x1 j1 hx l1 u1 k1 => ?_)
  ·rw [hx] at ho; subst ho; exact rd_end hc ⟨a', k', rfl, rfl⟩
  rw [hx] at ho; try simp only [Out.bind_ok] at ho
  refine sc_pure (fun s _ => assigns_c s) rfl rfl ?_
  refine sw_loop (D := []) ti_ok (by kernel_rfl) (fun m env st b => ∃ (i : Nat) (k : Int), i + m = assignsL.length ∧ (assignsL.drop i).find? (fun u => c.is j1 u) = c.first assignsL j1 ∧ env = [(0, rdV), (2, .av (.cell 1 0)), (3, intV (c.place at_ : Nat)), (4, .av (.cell 2 0)), (12, .av (.pv (strL .tight assignsL))), (13, lenV assignsL), (14, intV (i : Nat))] ∧ st = [rdLoc c (j1 : Nat) k, zLoc, ndLoc x1] ∧ b = s.upd ir none) assignsL.length ⟨[0, 1, 2], [0, 2, 3, 4, 12, 13, 14], rfl, 0, k1, by omega, rfl, rfl, rfl, rfl⟩ ?_
  rintro m env st b ⟨i, k2, hi, hx, rfl, rfl, rfl⟩
  rintro (_ | _) ht
  ·rw [List.length_map] at ht
   have hle : assignsL.length ≤ i := by have := of_decide_eq_false ht; omega
   rw [List.drop_eq_nil_of_le hle] at hx
   rw [← hx] at ho
   subst ho
   exact rd_end hc ⟨_, rfl, rfl⟩
  rw [List.length_map] at ht
  have hlt : i < assignsL.length := by have := of_decide_eq_true ht; omega
  have hil : i ≤ 1000000000 := by have : assignsL.length = 11 := rfl; omega
  have hg := List.getElem?_eq_getElem hlt
  obtain ⟨hx1, hx2⟩ := first_go hlt hx
  refine ⟨.lit (.string assignsL[i]), ⟨by omega, by rw [Int.toNat_natCast, List.getElem?_map, hg]; rfl, rfl⟩, ?_⟩
  refine sc_eat hc he u1 rfl rfl rfl (fun h3 lt3 k3 => ?_) (fun h3 k3 => ?_)
  ·rw [hx1 h3] at ho
   simp only at ho
   refine sc_p hp (.assign) (trivial) hc he (show j1 + 1 ≤ c.v.length by omega) rfl rfl rfl (by first | rfl | exact inc (by omega) | exact inc2 (by omega)) (fun σ ps h => h.nil_inv) (fun hx => hn (by rw [← ho, hx]; rfl)) (fun hx a' k' => ?_) (fun x2 j2 hx l2 u2 k4 => ?_)
   ·rw [hx] at ho; subst ho; exact rd_end hc ⟨a', k', rfl, rfl⟩
   rw [hx] at ho; try simp only [Out.bind_ok] at ho
   subst ho
   refine sc_node ([x1, x2]) hc he (u2) rfl rfl (by first | rfl | exact inc (by omega) | exact inc2 (by omega)) rfl fun kN => ?_
   exact rd_end hc ⟨kN, rfl, rfl⟩
  ·refine ⟨m - 1, by omega, [0, 1, 2], [0, 2, 3, 4, 12, 13, 14], rfl, i + 1, k3, by omega, hx2 h3, ?_, rfl, rfl⟩
   rw [← inc hil]; rfl
 ·unfold Cx.assignS
  refine .bind (hp.ole .choice trivial h0) fun x j h1 h2 => ?_
  split
  ·rename_i u hu
   have := hc.lt (first_is hu)
   exact .bind ((hp.ole .assign trivial (by omega)).lo (by omega)) fun y k h3 h4 => .ok (by omega) h4
  ·exact .ok h1 h2
theorem unary_t (hc : c.ok) (hp : PH c p) : Told c .unary (c.unaryS p) := by
 refine told_of (fun at_ h0 => ?_) (fun at_ h0 => ?_)
 ·have hvl := hc.vl
  obtain ⟨o, ho⟩ : ∃ o, c.unaryS p at_ = o := ⟨_, rfl⟩
  rw [ho]
  unfold Cx.unaryS at ho
  simp only [Cx.want] at ho
  show MC c 317 [] at_ (o.map encU)
  refine mcN_of (D := []) Tryz.func317 rfl (by kernel_rfl) fun hn s ir k he hs => ?_
  refine sc_place hc he h0 rfl rfl rfl ?_
  refine sc_eat hc he h0 rfl rfl rfl (fun h1 lt1 k1 => ?_) (fun h1 k1 => ?_)
  ·rw [if_pos h1] at ho
   refine sc_ahead hc he (show at_ + 1 ≤ c.v.length by omega) rfl rfl rfl (fun h2 lt2 => ?_) (fun h2 => ?_)
   ·rw [if_pos h2] at ho
    refine sc_starred (.casted) hc he (show at_ + 2 ≤ c.v.length by omega) rfl rfl (by first | rfl | exact inc (by omega) | exact inc2 (by omega)) (fun hx a' k' => ?_) (fun x2 j2 hx l2 u2 k2 => ?_)
    ·rw [hx] at ho; subst ho; exact rd_end hc ⟨a', k', rfl, rfl⟩
    rw [hx] at ho; simp only [Out.bind_ok] at ho
    refine sc_want hc he (u2) rfl rfl (by first | rfl | exact inc (by omega) | exact inc2 (by omega)) (fun h a' k' => ?_) (fun h3 lt3 k3 => ?_)
    ·rw [if_neg (by simp [h])] at ho; subst ho; exact rd_end hc ⟨a', k', rfl, rfl⟩
    rw [if_pos h3] at ho; try simp only [Out.bind_ok] at ho
    subst ho
    refine sc_node ([x2]) hc he (show j2 + 1 ≤ c.v.length by omega) rfl rfl (by first | rfl | exact inc (by omega) | exact inc2 (by omega)) rfl fun kN => ?_
    exact rd_end hc ⟨kN, rfl, rfl⟩
   ·rw [if_neg (by simp [h2])] at ho
    refine sc_p hp (.unary) (trivial) hc he (show at_ + 1 ≤ c.v.length by omega) rfl rfl rfl (by first | rfl | exact inc (by omega) | exact inc2 (by omega)) (fun σ ps h => h.nil_inv) (fun hx => hn (by rw [← ho, hx]; rfl)) (fun hx a' k' => ?_) (fun x2 j2 hx l2 u2 k2 => ?_)
    ·rw [hx] at ho; subst ho; exact rd_end hc ⟨a', k', rfl, rfl⟩
    rw [hx] at ho; try simp only [Out.bind_ok] at ho
    subst ho
    refine sc_node ([x2]) hc he (u2) rfl rfl (by first | rfl | exact inc (by omega) | exact inc2 (by omega)) rfl fun kN => ?_
    exact rd_end hc ⟨kN, rfl, rfl⟩
  ·rw [if_neg (by simp [h1])] at ho
   refine sw_loop (D := []) ti_ok (by kernel_rfl) (fun m env st b => ∃ (i : Nat) (k : Int), i + m = unaryL.length ∧ (unaryL.drop i).find? (fun u => c.is at_ u) = c.first unaryL at_ ∧ env = [(0, rdV), (2, .av (.cell 1 0)), (3, intV (c.place at_ : Nat)), (40, .av (.pv (strL .tight unaryL))), (41, lenV unaryL), (42, intV (i : Nat))] ∧ st = [rdLoc c (at_ : Nat) k, zLoc] ∧ b = s.upd ir none) unaryL.length ⟨[0, 1], [0, 2, 3, 40, 41, 42], rfl, 0, k1, by omega, rfl, rfl, rfl, rfl⟩ ?_
   rintro m env st b ⟨i, k2, hi, hx, rfl, rfl, rfl⟩
   rintro (_ | _) ht
   ·rw [List.length_map] at ht
    have hle : unaryL.length ≤ i := by have := of_decide_eq_false ht; omega
    rw [List.drop_eq_nil_of_le hle] at hx
    rw [← hx] at ho
    simp only [List.find?_nil] at ho
    refine sc_p hp (.post) (trivial) hc he (h0) rfl rfl rfl (by first | rfl | exact inc (by omega) | exact inc2 (by omega)) (fun σ ps h => h.nil_inv) (fun hx => hn (by rw [← ho, hx]; rfl)) (fun hx a' k' => ?_) (fun x2 j2 hx l2 u2 k3 => ?_)
    ·rw [hx] at ho; subst ho; exact rd_end hc ⟨a', k', rfl, rfl⟩
    rw [hx] at ho; try simp only [Out.bind_ok] at ho
    subst ho
    exact rd_end hc ⟨_, rfl, rfl⟩
   rw [List.length_map] at ht
   have hlt : i < unaryL.length := by have := of_decide_eq_true ht; omega
   have hil : i ≤ 1000000000 := by have : unaryL.length = 8 := rfl; omega
   have hg := List.getElem?_eq_getElem hlt
   obtain ⟨hx1, hx2⟩ := first_go hlt hx
   refine ⟨.lit (.string unaryL[i]), ⟨by omega, by rw [Int.toNat_natCast, List.getElem?_map, hg]; rfl, rfl⟩, ?_⟩
   refine sc_eat hc he h0 rfl rfl rfl (fun h3 lt3 k3 => ?_) (fun h3 k3 => ?_)
   ·rw [hx1 h3] at ho
    simp only at ho
    refine sc_p hp (.cast) (trivial) hc he (show at_ + 1 ≤ c.v.length by omega) rfl rfl rfl (by first | rfl | exact inc (by omega) | exact inc2 (by omega)) (fun σ ps h => h.nil_inv) (fun hx => hn (by rw [← ho, hx]; rfl)) (fun hx a' k' => ?_) (fun x2 j2 hx l2 u2 k4 => ?_)
    ·rw [hx] at ho; subst ho; exact rd_end hc ⟨a', k', rfl, rfl⟩
    rw [hx] at ho; try simp only [Out.bind_ok] at ho
    subst ho
    refine sc_node ([x2]) hc he (u2) rfl rfl (by first | rfl | exact inc (by omega) | exact inc2 (by omega)) rfl fun kN => ?_
    exact rd_end hc ⟨kN, rfl, rfl⟩
   ·refine ⟨m - 1, by omega, [0, 1], [0, 2, 3, 40, 41, 42], rfl, i + 1, k3, by omega, hx2 h3, ?_, rfl, rfl⟩
    rw [← inc hil]; rfl
 ·unfold Cx.unaryS
  split
  ·rename_i h
   have := hc.lt h
   split
   ·rename_i h
    have := ahead_lt hc h
    refine .bind (OLe.lo (i' := at_ + 2) (fun x j h => starred_le hc (by omega) h) (by omega)) fun t j h1 h2 => .want hc rfl fun h3 => .ok (by omega) (by omega)
   ·exact .bind ((hp.ole .unary trivial (by omega)).lo (by omega)) fun x j h1 h2 => .ok h1 h2
  ·split
   ·rename_i u hu
    have := hc.lt (first_is hu)
    exact .bind ((hp.ole .cast trivial (by omega)).lo (by omega)) fun y k h3 h4 => .ok (by omega) h4
   ·exact hp.ole .post trivial h0
end
end Go.Pv

namespace Go.Pv
open Go.Proofs
set_option linter.unusedVariables false
set_option linter.unusedSimpArgs false
set_option maxRecDepth 100000
section
variable {c : Cx} {p : NT → Nat → Out Nd} {s : St} {ir : Nat} {at_ n : Nat} {k : Int}
theorem sizesF_le (hc : c.ok) (hp : PH c p) : ∀ (m : Nat) (L : List Nd) (i : Nat) (l : List Nd) (j : Nat), i ≤ c.v.length → c.sizesF p m L i = .ok l j → i ≤ j ∧ j ≤ c.v.length ∧ l.length + i ≤ L.length + j
 | 0, L, i, l, j, hi, h => by cases h
 | m + 1, L, i, l, j, hi, h => by
  unfold Cx.sizesF at h
  simp only [Cx.want] at h
  split at h
  ·rename_i h1
   have hlt := hc.lt h1
   split at h
   ·rename_i h2
    simp only [Out.bind_ok] at h
    rw [if_pos h2] at h
    have hlt2 := hc.lt h2
    have := sizesF_le hc hp m _ _ _ _ (show i + 1 + 1 ≤ c.v.length by omega) h
    simp at this
    omega
   ·rename_i h2
    cases hx : p .expr (i + 1) with
    | fuel => rw [hx] at h; cases h
    | bad => rw [hx] at h; cases h
    | ok x k =>
     rw [hx] at h
     simp only [Out.bind_ok] at h
     have hle := hp.le .expr _ _ _ trivial (by omega) hx
     split at h
     ·rename_i h3
      have hlt3 := hc.lt h3
      have := sizesF_le hc hp m _ _ _ _ (show k + 1 ≤ c.v.length by omega) h
      simp at this
      omega
     ·cases h
  ·cases h
   omega
theorem sizes_w (hc : c.ok) (hp : PH c p) (h0 : at_ ≤ c.v.length) : MW c (fnOf .sizes) [] at_ ((c.sizesF p n [] at_).bind fun l j => .ok (Cx.listN l) j) := by
 have hvl := hc.vl
 obtain ⟨o1, ho1⟩ : ∃ o1, c.sizesF p n [] at_ = o1 := ⟨_, rfl⟩
 rw [ho1]
 obtain ⟨o, ho⟩ : ∃ o, (o1.bind fun l j => .ok (Cx.listN l) j) = o := ⟨_, rfl⟩
 rw [ho]
 intro hn s ir k he hs
 refine (PCalls.sxW (D := []) (ty := 26) (sz := 6) (t := 2) (W := fun els base => ∃ x i k', o = .ok x i ∧ els = x.l.map encC ∧ base = s.upd ir (some (rdRow c (i : Nat) k'))) (Rp := fun ch s' => ∃ a' k', o = .bad ∧ s' = s.upd ir (some (rdRow c a' k')) ∧ ch = [flt]) ti_ok (SRel.one hs) (vs := [rdV]) (.cons (show SVR _ _ (.av (.cell 0 0)) (.pt ir 0 0) from (⟨by simp, rfl⟩ : _ ∧ _)) .nil) Tryz.func248 rfl (by kernel_rfl) rfl ?_).mono ?_
 rotate_left
 ·intro r s' h
  cases r with
  | ret p => exact h
  | pan c => exact h
 replace he := he.upd hs none
 refine sw_nilOwn (ty := 26) (sz := 6) 3 rfl ?_
 refine sw_loop (D := []) ti_ok (by kernel_rfl) (fun m env st b => ∃ (j : Nat) (L : List Nd) (k : Int), j ≤ c.v.length ∧ L.length ≤ j ∧ c.sizesF p m L j = o1 ∧ env = [(0, rdV), (3, .av (.own 1))] ∧ st = [rdLoc c (j : Nat) k, ownL L] ∧ b = s.upd ir none) n ⟨[0, 1], [0, 3], rfl, at_, [], k, h0, Nat.zero_le _, ho1, rfl, rfl, rfl⟩ ?_
 rintro m env st b ⟨j, L, k4, hj, hL, hm, rfl, rfl, rfl⟩
 cases m with
 | zero => exact absurd (show o = .fuel by rw [← ho, ← hm]; rfl) hn
 | succ m =>
 rw [Cx.sizesF] at hm
 simp only [Cx.want] at hm
 refine sc_is hc he hj rfl rfl rfl (fun h1 lt1 => ?_) (fun h1 => ?_)
 rotate_left
 ·rw [if_neg (by simp [h1])] at hm
  subst hm
  simp only [Out.bind_ok] at ho
  subst ho
  exact rd_end hc ⟨_, _, _, rfl, rfl, rfl⟩
 rw [if_pos h1] at hm
 refine sc_place hc he hj rfl rfl rfl ?_
 refine sc_is hc he (show j + 1 ≤ c.v.length by omega) rfl rfl (inc (by omega)) (fun h2 lt2 => ?_) (fun h2 => ?_)
 ·rw [if_pos h2] at hm; simp only [Out.bind_ok] at hm
  refine sc_want hc he (show j + 1 ≤ c.v.length by omega) rfl rfl (inc (by omega)) (fun h => by rw [h2] at h; cases h) (fun h lt k5 => ?_)
  rw [if_pos h] at hm
  refine sc_node [] hc he (show j + 1 + 1 ≤ c.v.length by omega) rfl rfl rfl rfl fun kN => ?_
  refine ⟨[encC (c.nodeN 11 ⟨#[]⟩ (c.place j) (j + 1 + 1) [])], rfl, by simp; omega, ?_⟩
  exact ⟨m, by omega, [0, 2], [0, 3], rfl, j + 1 + 1, L ++ [c.nodeN 11 ⟨#[]⟩ (c.place j) (j + 1 + 1) []], kN, by omega, by simp; omega, hm, rfl, by unfold ownL; rw [← ownL_snoc]; rfl, rfl⟩
 ·rw [if_neg (by simp [h2])] at hm
  refine sc_p hp .expr trivial hc he (show j + 1 ≤ c.v.length by omega) rfl rfl rfl (inc (by omega)) (fun σ ps h => h.nil_inv) (fun hx => hn (by rw [← ho, ← hm, hx]; rfl)) (fun hx a' k' => ?_) (fun x2 j2 hx l2 u2 k5 => ?_)
  ·rw [hx] at hm; subst hm; subst ho; exact rd_end hc ⟨a', k', rfl, rfl, rfl⟩
  rw [hx] at hm; simp only [Out.bind_ok] at hm
  refine ⟨[encC x2], rfl, by simp, ?_⟩
  refine sc_want hc he u2 rfl rfl rfl (fun h a' k' => ?_) (fun h lt k6 => ?_)
  ·rw [if_neg (by simp [h])] at hm; subst hm; subst ho; exact rd_end hc ⟨a', k', rfl, rfl, rfl⟩
  rw [if_pos h] at hm
  refine sc_own (n := 4) [encU x2] rfl rfl rfl ?_
  refine sc_node [x2] hc he (show j2 + 1 ≤ c.v.length by omega) rfl rfl rfl rfl fun kN => ?_
  refine ⟨[encC (c.nodeN 11 ⟨#[]⟩ (c.place j) (j2 + 1) [x2])], rfl, by simp; omega, ?_⟩
  exact ⟨m, by omega, [0, 3], [0, 3], rfl, j2 + 1, L ++ [c.nodeN 11 ⟨#[]⟩ (c.place j) (j2 + 1) [x2]], kN, by omega, by simp; omega, hm, rfl, by unfold ownL; rw [← ownL_snoc]; rfl, rfl⟩
theorem sizes_le (hc : c.ok) (hp : PH c p) (h0 : at_ ≤ c.v.length) {x : Nd} {j : Nat} (h : ((c.sizesF p n [] at_).bind fun l j => .ok (Cx.listN l) j) = .ok x j) : at_ ≤ j ∧ j ≤ c.v.length ∧ x.l.length ≤ j := by
 cases hs : c.sizesF p n [] at_ with
 | fuel => rw [hs] at h; cases h
 | bad => rw [hs] at h; cases h
 | ok l k =>
  rw [hs] at h
  cases h
  have := sizesF_le hc hp n _ _ _ _ h0 hs
  simp at this
  refine ⟨this.1, this.2.1, ?_⟩
  show l.length ≤ _
  omega
theorem value_t (hc : c.ok) (hp : PH c p) : Told c .value (c.valueS p n) := by
 refine told_of (fun at_ h0 => ?_) (fun at_ h0 => ?_)
 ·have hvl := hc.vl
  obtain ⟨o, ho⟩ : ∃ o, c.valueS p n at_ = o := ⟨_, rfl⟩
  rw [ho]
  unfold Cx.valueS at ho
  simp only [Cx.want] at ho
  show MC c 285 [] at_ (o.map encU)
  refine mcN_of (D := []) Tryz.func285 rfl (by kernel_rfl) fun hn s ir k he hs => ?_
  refine sc_is hc he h0 rfl rfl rfl (fun h1 lt1 => ?_) (fun h1 => ?_)
  rotate_left
  ·rw [if_neg (by simp [h1])] at ho
   refine sc_p hp (.assign) (trivial) hc he (h0) rfl rfl rfl (by first | rfl | exact inc (by omega) | exact inc2 (by omega)) (fun σ ps h => h.nil_inv) (fun hx => hn (by rw [← ho, hx]; rfl)) (fun hx a' k' => ?_) (fun x2 j2 hx l2 u2 k2 => ?_)
   ·rw [hx] at ho; subst ho; exact rd_end hc ⟨a', k', rfl, rfl⟩
   rw [hx] at ho; try simp only [Out.bind_ok] at ho
   subst ho
   exact rd_end hc ⟨_, rfl, rfl⟩
  rw [if_pos h1] at ho
  refine sc_place hc he h0 rfl rfl rfl ?_
  obtain ⟨o1, ho1⟩ : ∃ o1, c.valueF p n [] (at_ + 1) = o1 := ⟨_, rfl⟩
  rw [ho1] at ho
  refine sw_nilOwn (ty := 26) (sz := 6) 4 rfl ?_
  refine sw_loop (D := []) ti_ok (by kernel_rfl) (fun m env st b => ∃ (j : Nat) (L : List Nd) (k : Int), j ≤ c.v.length ∧ L.length ≤ j ∧ c.valueF p m L j = o1 ∧ env = [(0, rdV), (2, .av (.cell 1 0)), (3, intV (c.place at_ : Nat)), (4, .av (.own 2))] ∧ st = [rdLoc c (j : Nat) k, zLoc, ownL L] ∧ b = s.upd ir none) n ⟨[0, 1, 2], [0, 2, 3, 4], rfl, at_ + 1, [], k, by omega, Nat.zero_le _, ho1, rfl, by rw [← inc (show at_ ≤ 1000000000 by omega)]; rfl, rfl⟩ ?_
  rintro m env st b ⟨j, L, k4, hj, hL, hm, rfl, rfl, rfl⟩
  cases m with
  | zero => exact absurd (show o.map encU = .fuel by rw [← ho, ← hm]; rfl) hn
  | succ m =>
  rw [Cx.valueF] at hm
  refine sc_is hc he hj rfl rfl rfl (fun h2 lt2 => ?_) (fun h2 => ?_)
  ·rw [if_pos h2] at hm
   subst hm
   simp only [Out.bind_ok] at ho
   refine sc_want hc he (hj) rfl rfl (by first | rfl | exact inc (by omega) | exact inc2 (by omega)) (fun h a' k' => ?_) (fun h5 lt5 k5 => ?_)
   ·rw [if_neg (by simp [h])] at ho; subst ho; exact rd_end hc ⟨a', k', rfl, rfl⟩
   rw [if_pos h5] at ho; try simp only [Out.bind_ok] at ho
   subst ho
   refine sc_own (n := 4) (L.map encU) rfl rfl (ownL_cells L) ?_
   refine sc_node (L) hc he (show j + 1 ≤ c.v.length by omega) rfl rfl (by first | rfl | exact inc (by omega) | exact inc2 (by omega)) rfl fun kN => ?_
   exact rd_end hc ⟨kN, rfl, rfl⟩
  rw [if_neg (by simp [h2])] at hm
  refine sc_p hp (.value) (trivial) hc he (hj) rfl rfl rfl (by first | rfl | exact inc (by omega) | exact inc2 (by omega)) (fun σ ps h => h.nil_inv) (fun hx => hn (by rw [← ho, ← hm, hx]; rfl)) (fun hx a' k' => ?_) (fun x2 j2 hx l2 u2 k2 => ?_)
  ·rw [hx] at hm; subst hm; subst ho; exact rd_end hc ⟨a', k', rfl, rfl⟩
  rw [hx] at hm; try simp only [Out.bind_ok] at hm
  refine ⟨[encC x2], rfl, by simp; omega, ?_⟩
  refine sc_eat hc he u2 rfl rfl rfl (fun h3 lt3 k3 => ?_) (fun h3 k3 => ?_)
  ·rw [if_pos h3] at hm
   exact ⟨m, by omega, [0, 1, 3], [0, 2, 3, 4], rfl, j2 + 1, L ++ [x2], k3, by omega, by simp; omega, hm, rfl, by unfold ownL; rw [← ownL_snoc]; rfl, rfl⟩
  ·rw [if_neg (by simp [h3])] at hm
   subst hm
   simp only [Out.bind_ok] at ho
   refine sc_want hc he (u2) rfl rfl (by first | rfl | exact inc (by omega) | exact inc2 (by omega)) (fun h a' k' => ?_) (fun h5 lt5 k5 => ?_)
   ·rw [if_neg (by simp [h])] at ho; subst ho; exact rd_end hc ⟨a', k', rfl, rfl⟩
   rw [if_pos h5] at ho; try simp only [Out.bind_ok] at ho
   subst ho
   refine sc_own (n := 4) ((L ++ [x2]).map encU) rfl rfl (by rw [ownL_cells, ownL_snoc]) ?_
   refine sc_node (L ++ [x2]) hc he (show j2 + 1 ≤ c.v.length by omega) rfl rfl (by first | rfl | exact inc (by omega) | exact inc2 (by omega)) rfl fun kN => ?_
   exact rd_end hc ⟨kN, rfl, rfl⟩
 ·have key : ∀ (m : Nat) (L : List Nd) {i j : Nat}, i ≤ j → j ≤ c.v.length → OLe (c.valueF p m L j) i c.v.length := by
   intro m
   induction m with
   | zero => intro L i j h1 h2; exact .fuel
   | succ m ih =>
    intro L i j h1 h2
    unfold Cx.valueF
    split
    ·exact .ok h1 h2
    ·refine .bind ((hp.ole .value trivial h2).lo h1) fun x k h3 h4 => ?_
     split
     ·rename_i h
      exact ih _ (by omega) (hc.lt h)
     ·exact .ok h3 h4
  unfold Cx.valueS
  split
  ·rename_i h
   exact .bind (key n [] (by omega) (hc.lt h)) fun l j h1 h2 => .want hc rfl fun h3 => .ok (by omega) h3
  ·exact hp.ole .assign trivial h0
end
end Go.Pv

namespace Go.Pv
open Go.Proofs
set_option linter.unusedVariables false
set_option linter.unusedSimpArgs false
set_option maxRecDepth 100000
theorem elems_enc (kk : VK) (L : List Nd) : elemsS 6 (.vec kk (L.map enc)) = some (L.map encC) := by
 have h : ((L.map enc).all fun y => Nat.beq y.width 6 && y.solid) = true := by
  rw [List.all_map, List.all_eq_true]
  intro x _
  simp only [Function.comp, enc_eq]
  rfl
 show (match (L.map enc).all (fun y => Nat.beq y.width 6 && y.solid) with
  | true => some ((L.map enc).map PV.cells)
  | false => none) = _
 rw [h]
 simp only [List.map_map, cells_enc]
section
variable {c : Cx} {p : NT → Nat → Out Nd} {s : St} {ir : Nat} {at_ n : Nat} {k : Int}
theorem mgmN_of {f : FuncId} {fn : Func} {code : Code} {D : Ord} {m : Nm} {o : Out PV} (hf : Tryz.prog.funcs[f]? = some fn) (hb : fn.body = some code) (hn : ((fn.name != "runtime.NumGoroutine") && Nat.ble 2 fn.ntmps && dOk fn.ntmps code && dOkD D) = true)
  (h : o ≠ .fuel → ∀ (s : St) (ir : Nat) (k : Int), c.env (s.upd ir none) → s ir = some (rdRow c at_ k) → sx Tryz.prog TI0 fn.ntmps [ir] D code (argE 0 [.av (.cell 0 0), ruleS m]) [rdLoc c at_ k] (s.upd ir none) (endQ TI0 [ir] fn.results.toList (MR c s ir o))) : MG c f (fun ir => [ruleV m ir]) at_ o := fun hq s ir k he hs =>
 PCalls.sx ti_ok (SRel.one hs) (.cons (show SVR _ _ (.av (.cell 0 0)) (.pt ir 0 0) from (⟨by simp, rfl⟩ : _ ∧ _)) (.cons (nm_rel m (by simp)) .nil)) hf hb hn (h hq s ir k (he.upd hs _) hs)
theorem skip_le {q : Nat → Bool} {i : Nat} (h : i ≤ c.v.length) : i ≤ c.skip q i ∧ c.skip q i ≤ c.v.length := ⟨scanW_ge _ _ _, scanW_le _ h⟩
theorem dclr_t (hc : c.ok) (hp : PH c p) (b : Bool) : Told c (.dclr b) (c.dclrS p b) := by
 refine told_of (fun at_ h0 => ?_) (fun at_ h0 => ?_)
 ·have hvl := hc.vl
  obtain ⟨o, ho⟩ : ∃ o, c.dclrS p b at_ = o := ⟨_, rfl⟩
  rw [ho]
  unfold Cx.dclrS at ho
  simp only at ho
  show MC c 187 [.lit (.bool b)] at_ (o.map encU)
  refine mcN_of (D := []) Tryz.func187 rfl (by kernel_rfl) fun hn s ir k he hs => ?_
  refine sc_place hc he h0 rfl rfl rfl ?_
  refine sw_loop (D := []) ti_ok (by kernel_rfl) (fun m env st b2 => ∃ (j : Nat) (k : Int), j + m = c.v.length ∧ at_ ≤ j ∧ c.skip (fun j => c.is j ⟨#[42]⟩) j = c.skip (fun j => c.is j ⟨#[42]⟩) at_ ∧ env = [(0, rdV), (1, boolV b), (4, .av (.cell 1 0)), (5, intV (c.place at_ : Nat)), (6, intV (j - at_ : Nat))] ∧ st = [rdLoc c (j : Nat) k, zLoc] ∧ b2 = s.upd ir none) (c.v.length - at_) ⟨[0, 1], [0, 1, 4, 5, 6], rfl, at_, k, by omega, Nat.le_refl _, rfl, by rw [Nat.sub_self]; rfl, rfl, rfl⟩ ?_
  rintro m env st b2 ⟨j, k4, hj, haj, hx, rfl, rfl, rfl⟩
  refine sc_eat hc he (show j ≤ c.v.length by omega) rfl rfl rfl (fun h1 lt1 k2 => ?_) (fun h1 k2 => ?_)
  ·rw [skip_go lt1 h1] at hx
   refine ⟨m - 1, by omega, [0, 1], [0, 1, 4, 5, 6], rfl, j + 1, k2, by omega, by omega, hx, ?_, rfl, rfl⟩
   have : IntKind.i64.wrap (((j - at_ : Nat) : Int) + 1) = ((j + 1 - at_ : Nat) : Int) := by rw [inc (show j - at_ ≤ 1000000000 by omega)]; congr 1; omega
   rw [← this]; rfl
  rw [skip_stop h1] at hx
  rw [← hx] at ho
  refine sc_name hc he (show j ≤ c.v.length by omega) rfl rfl rfl (fun h a' k' => ?_) (fun h lt k5 => ?_)
  ·rw [if_neg h] at ho; subst ho; exact rd_end hc ⟨a', k', rfl, rfl⟩
  rw [if_pos h] at ho
  refine sc_sizes hp hc he (show j + 1 ≤ c.v.length by omega) rfl rfl rfl (fun hx => hn (by rw [← ho, hx]; rfl)) (fun hx a' k' => ?_) (fun x1 j1 hx l1 u1 w1 k6 => ?_)
  ·rw [hx] at ho; subst ho; exact rd_end hc ⟨a', k', rfl, rfl⟩
  rw [hx] at ho; simp only [Out.bind_ok] at ho
  cases b
  ·rw [if_neg (by simp)] at ho; simp only [Out.bind_ok] at ho
   subst ho
   refine sc_own (n := 4) (x1.l.map encU) rfl rfl (ownL_cells _) ?_
   refine sc_node x1.l hc he u1 rfl rfl rfl rfl fun kN => ?_
   exact rd_end hc ⟨kN, rfl, rfl⟩
  ·refine sc_is hc he u1 rfl rfl rfl (fun h2 lt2 => ?_) (fun h2 => ?_)
   ·rw [if_pos ⟨rfl, h2⟩] at ho
    refine sc_p hp .initial trivial hc he (show j1 + 1 ≤ c.v.length by omega) rfl rfl rfl (inc (by omega)) (fun σ ps h => h.nil_inv) (fun hx => hn (by rw [← ho, hx]; rfl)) (fun hx a' k' => ?_) (fun x2 j2 hx l2 u2 k7 => ?_)
    ·rw [hx] at ho; subst ho; exact rd_end hc ⟨a', k', rfl, rfl⟩
    rw [hx] at ho; simp only [Out.bind_ok] at ho
    refine ⟨[encC x2], rfl, by simp; omega, ?_⟩
    subst ho
    refine sc_own (n := 4) ((x1.l ++ [x2]).map encU) rfl rfl (by rw [ownL_cells, ownL_snoc]) ?_
    refine sc_node (x1.l ++ [x2]) hc he u2 rfl rfl rfl rfl fun kN => ?_
    exact rd_end hc ⟨kN, rfl, rfl⟩
   ·rw [if_neg (by simp [h2])] at ho; simp only [Out.bind_ok] at ho
    subst ho
    refine sc_own (n := 4) (x1.l.map encU) rfl rfl (ownL_cells _) ?_
    refine sc_node x1.l hc he u1 rfl rfl rfl rfl fun kN => ?_
    exact rd_end hc ⟨kN, rfl, rfl⟩
 ·unfold Cx.dclrS
  simp only
  have h1 := skip_le (c := c) (q := fun j => c.is j ⟨#[42]⟩) h0
  generalize c.skip (fun j => c.is j ⟨#[42]⟩) at_ = q at *
  split
  ·rename_i hk
   have hlt := hc.ltk (at_ := q) (by rw [show (c.tk q).kind = 1 from hk]; decide)
   refine .bind (OLe.lo (i' := q + 1) (fun x j h => ⟨(hp.szle _ _ _ (by omega) h).1, (hp.szle _ _ _ (by omega) h).2.1⟩) (by omega)) fun l j h2 h3 => .bind ?_ fun l j h2 h3 => .ok h2 h3
   split
   ·rename_i h
    have := hc.lt h.2
    exact .bind ((hp.ole .initial trivial (by omega)).lo (by omega)) fun x k h3 h4 => .ok h3 h4
   ·exact .ok h2 h3
  ·exact .bad
theorem block_t (hc : c.ok) (hp : PH c p) (hnn : n ≤ 1000000000) : Told c .block (c.blockS p n) := by
 refine told_of (fun at_ h0 => ?_) (fun at_ h0 => ?_)
 ·have hvl := hc.vl
  obtain ⟨o, ho⟩ : ∃ o, c.blockS p n at_ = o := ⟨_, rfl⟩
  rw [ho]
  unfold Cx.blockS at ho
  simp only [Cx.want] at ho
  show MC c 195 [] at_ (o.map encU)
  refine mcN_of (D := []) Tryz.func195 rfl (by kernel_rfl) fun hn s ir k he hs => ?_
  refine sc_place hc he h0 rfl rfl rfl ?_
  refine sc_want hc he (h0) rfl rfl (by first | rfl | exact inc (by omega) | exact inc2 (by omega)) (fun h a' k' => ?_) (fun h1 lt1 k1 => ?_)
  ·rw [if_neg (by simp [h])] at ho; subst ho; exact rd_end hc ⟨a', k', rfl, rfl⟩
  rw [if_pos h1] at ho; try simp only [Out.bind_ok] at ho
  obtain ⟨o1, ho1⟩ : ∃ o1, c.blockF p n [] (at_ + 1) = o1 := ⟨_, rfl⟩
  rw [ho1] at ho
  refine sw_nilOwn (ty := 26) (sz := 6) 4 rfl ?_
  refine sw_loop (D := []) ti_ok (by kernel_rfl) (fun m env st b => ∃ (j : Nat) (L : List Nd) (k : Int), j ≤ c.v.length ∧ L.length + m = n ∧ c.blockF p m L j = o1 ∧ env = [(0, rdV), (2, .av (.cell 1 0)), (3, intV (c.place at_ : Nat)), (4, .av (.own 2))] ∧ st = [rdLoc c (j : Nat) k, zLoc, ownL L] ∧ b = s.upd ir none) n ⟨[0, 1, 2], [0, 2, 3, 4], rfl, at_ + 1, [], k1, by omega, by simp, ho1, rfl, rfl, rfl⟩ ?_
  rintro m env st b ⟨j, L, k4, hj, hL, hm, rfl, rfl, rfl⟩
  cases m with
  | zero => exact absurd (show o.map encU = .fuel by rw [← ho, ← hm]; rfl) hn
  | succ m =>
  rw [Cx.blockF] at hm
  refine sc_is hc he hj rfl rfl rfl (fun h2 lt2 => ?_) (fun h2 => ?_)
  ·rw [if_pos h2] at hm
   subst hm
   simp only [Out.bind_ok] at ho
   refine sc_want hc he (hj) rfl rfl (by first | rfl | exact inc (by omega) | exact inc2 (by omega)) (fun h a' k' => ?_) (fun h5 lt5 k5 => ?_)
   ·rw [if_neg (by simp [h])] at ho; subst ho; exact rd_end hc ⟨a', k', rfl, rfl⟩
   rw [if_pos h5] at ho; try simp only [Out.bind_ok] at ho
   subst ho
   refine sc_own (n := 4) (L.map encU) rfl rfl (ownL_cells L) ?_
   refine sc_node (L) hc he (show j + 1 ≤ c.v.length by omega) rfl rfl (by first | rfl | exact inc (by omega) | exact inc2 (by omega)) rfl fun kN => ?_
   exact rd_end hc ⟨kN, rfl, rfl⟩
  rw [if_neg (by simp [h2])] at hm
  refine sc_dots hc he hj rfl rfl rfl ?_
  refine sc_p hp (.stat) (trivial) hc he (hj) rfl rfl rfl (by first | rfl | exact inc (by omega) | exact inc2 (by omega)) (fun σ ps h => h.nil_inv) (fun hx => hn (by rw [← ho, ← hm, hx]; rfl)) (fun hx a' k' => ?_) (fun x2 j2 hx l2 u2 k2 => ?_)
  ·rw [hx] at hm; subst hm; subst ho; exact rd_end hc ⟨a', k', rfl, rfl⟩
  rw [hx] at hm; try simp only [Out.bind_ok] at hm
  refine ⟨[encC x2], rfl, by simp; omega, ?_⟩
  exact ⟨m, by omega, [0, 1, 4], [0, 2, 3, 4], rfl, j2, L ++ [x2], k2, u2, by simp; omega, hm, rfl, by unfold ownL; rw [← ownL_snoc]; rfl, rfl⟩
 ·have key : ∀ (m : Nat) (L : List Nd) {i j : Nat}, i ≤ j → j ≤ c.v.length → OLe (c.blockF p m L j) i c.v.length := by
   intro m
   induction m with
   | zero => intro L i j h1 h2; exact .fuel
   | succ m ih =>
    intro L i j h1 h2
    unfold Cx.blockF
    split
    ·exact .ok h1 h2
    ·exact .bind ((hp.ole .stat trivial h2).lo h1) fun x k h3 h4 => ih _ h3 h4
  unfold Cx.blockS
  exact .want hc rfl fun h1 => .bind (key n [] (by omega) (by omega)) fun l j h2 h3 => .want hc rfl fun h4 => .ok (by omega) (by omega)
theorem marked_t (hc : c.ok) (hp : PH c p) : Told c .marked (c.markedS p) := by
 refine told_of (fun at_ h0 => ?_) (fun at_ h0 => ?_)
 ·have hvl := hc.vl
  obtain ⟨o, ho⟩ : ∃ o, c.markedS p at_ = o := ⟨_, rfl⟩
  rw [ho]
  unfold Cx.markedS at ho
  show MC c 291 [] at_ (o.map encU)
  by_cases h1 : c.is at_ ⟨#[125]⟩ = true
  ·rw [if_pos h1] at ho
   subst ho
   refine MC.wk (p := .agg [.lit (.int .i64 34), .lit (.string ⟨#[]⟩), .lit (.int .i64 0), .lit (.int .i64 (c.place at_ : Nat)), .lit (.int .i64 (c.place at_ : Nat)), .vec .nil []]) ?_ (.aggs (.cons (.refl _) (.cons (.refl _) (.cons (.refl _) (.cons (.refl _) (.cons (.refl _) (.cons (.any .nil _) .nil)))))))
   refine mcN_of (D := []) Tryz.func291 rfl (by kernel_rfl) fun hn s ir k he hs => ?_
   refine sc_is hc he h0 rfl rfl rfl (fun h2 lt2 => ?_) (fun h2 => by rw [h1] at h2; cases h2)
   refine sc_place hc he h0 rfl rfl rfl ?_
   refine sc_place hc he h0 rfl rfl rfl ?_
   exact rd_end hc ⟨_, rfl, rfl⟩
  ·rw [if_neg h1] at ho
   refine mcN_of (D := []) Tryz.func291 rfl (by kernel_rfl) fun hn s ir k he hs => ?_
   refine sc_is hc he h0 rfl rfl rfl (fun h2 lt2 => absurd h2 h1) (fun h2 => ?_)
   refine sc_p hp (.stat) (trivial) hc he (h0) rfl rfl rfl (by first | rfl | exact inc (by omega) | exact inc2 (by omega)) (fun σ ps h => h.nil_inv) (fun hx => hn (by rw [← ho, hx]; rfl)) (fun hx a' k' => ?_) (fun x2 j2 hx l2 u2 k2 => ?_)
   ·rw [hx] at ho; subst ho; exact rd_end hc ⟨a', k', rfl, rfl⟩
   rw [hx] at ho; try simp only [Out.bind_ok] at ho
   subst ho
   exact rd_end hc ⟨_, rfl, rfl⟩
 ·unfold Cx.markedS
  split
  ·exact .ok (Nat.le_refl _) h0
  ·exact hp.ole .stat trivial h0
end
end Go.Pv

namespace Go.Pv
open Go.Proofs
set_option linter.unusedVariables false
set_option linter.unusedSimpArgs false
set_option maxRecDepth 100000
theorem sc_sub {P : Program} {imp : List Nat} {f : FuncId} {args : List SV} {st : SS} {b b2 : St} {K : SV → SS → St → Prop} {Kp : List PanicEntry → SS → St → Prop} (hs : b2.sub b) (h : SC P imp f args st b2 K Kp) : SC P imp f args st b K Kp := by
 intro σ s ps hR hA
 refine h σ s ps ⟨fun k c hk => hR.sub k c (hs k c hk), hR.imp, fun k l hk hl => ?_, hR.inj, hR.loc⟩ hA
 have := hR.fr k l hk hl
 show b2 _ = none
 cases hb : b2 (σ k) with
 | none => rfl
 | some x => have h1 := hs _ _ hb; rw [show b (σ k) = none from this] at h1; cases h1
section
variable {c : Cx} {p : NT → Nat → Out Nd} {s : St} {ir : Nat} {at_ n : Nat} {k : Int}
theorem decl_t (hc : c.ok) (hp : PH c p) (m : Nm) : Told c (.decl m) (c.declS p m) := by
 refine told_of (fun at_ h0 => ?_) (fun at_ h0 => ?_)
 ·have hvl := hc.vl
  obtain ⟨o, ho⟩ : ∃ o, c.declS p m at_ = o := ⟨_, rfl⟩
  rw [ho]
  unfold Cx.declS at ho
  show MG c 196 (fun ir => [ruleV m ir]) at_ (o.map encU)
  refine mgmN_of (D := [(4, ([0, 1, 2, 3, 4, 5], [(0, 3)], [2]))]) Tryz.func196 rfl (by kernel_rfl) fun hn s ir k he hs => ?_
  cases m
  ·
   refine sc_place hc he h0 rfl rfl rfl ?_
   refine sc_words hc he h0 rfl rfl rfl fun w1 w2 k1 => ?_
   refine sc_simple (.always) hc he (w2) rfl rfl (by first | rfl | exact inc (by omega) | exact inc2 (by omega)) (fun hx a' k' => ?_) (fun x1 j1 hx l1 u1 k2 => ?_)
   ·rw [hx] at ho; subst ho; exact rd_end hc ⟨a', k', rfl, rfl⟩
   rw [hx] at ho; simp only [Out.bind_ok] at ho
   refine ⟨by kernel_rfl, ?_⟩
   refine sc_p hp (.dclrs true) (trivial) hc he (u1) rfl rfl rfl (by first | rfl | exact inc (by omega) | exact inc2 (by omega)) (fun σ ps h => pvs_rel (ps := [.lit (.bool true)]) rfl h) (fun hx => hn (by rw [← ho, hx]; rfl)) (fun hx a' k' => ?_) (fun x2 j2 hx l2 u2 k3 => ?_)
   ·rw [hx] at ho; subst ho; exact rd_end hc ⟨a', k', rfl, rfl⟩
   rw [hx] at ho; try simp only [Out.bind_ok] at ho
   have hdl := hp.dl _ _ _ _ u1 hx
   refine ⟨rfl, ?_⟩
   refine ⟨x2.l.map encC, elems_enc .any x2.l, ?_⟩
   cases hL : x2.l with
   | nil =>
    rw [hL] at ho
    subst ho
    refine sc_node ([x1]) hc he (u2) rfl rfl (by first | rfl | exact inc (by omega) | exact inc2 (by omega)) rfl fun kN => ?_
    exact rd_end hc ⟨kN, rfl, rfl⟩
   | cons y ys =>
    rw [hL] at ho hdl
    refine ⟨[encC x1], rfl, by simp at hdl ⊢; omega, ?_⟩
    subst ho
    refine sc_own (n := 4) ((x1 :: y :: ys).map encU) rfl rfl (ownL_cells _) ?_
    refine sc_node (x1 :: y :: ys) hc he (u2) rfl rfl (by first | rfl | exact inc (by omega) | exact inc2 (by omega)) rfl fun kN => ?_
    exact rd_end hc ⟨kN, rfl, rfl⟩
  ·
   refine sc_place hc he h0 rfl rfl rfl ?_
   refine sc_words hc he h0 rfl rfl rfl fun w1 w2 k1 => ?_
   refine sc_simple (.typed) hc he (w2) rfl rfl (by first | rfl | exact inc (by omega) | exact inc2 (by omega)) (fun hx a' k' => ?_) (fun x1 j1 hx l1 u1 k2 => ?_)
   ·rw [hx] at ho; subst ho; exact rd_end hc ⟨a', k', rfl, rfl⟩
   rw [hx] at ho; simp only [Out.bind_ok] at ho
   refine ⟨by kernel_rfl, ?_⟩
   refine sc_p hp (.dclrs true) (trivial) hc he (u1) rfl rfl rfl (by first | rfl | exact inc (by omega) | exact inc2 (by omega)) (fun σ ps h => pvs_rel (ps := [.lit (.bool true)]) rfl h) (fun hx => hn (by rw [← ho, hx]; rfl)) (fun hx a' k' => ?_) (fun x2 j2 hx l2 u2 k3 => ?_)
   ·rw [hx] at ho; subst ho; exact rd_end hc ⟨a', k', rfl, rfl⟩
   rw [hx] at ho; try simp only [Out.bind_ok] at ho
   have hdl := hp.dl _ _ _ _ u1 hx
   refine ⟨rfl, ?_⟩
   refine ⟨x2.l.map encC, elems_enc .any x2.l, ?_⟩
   cases hL : x2.l with
   | nil =>
    rw [hL] at ho
    subst ho
    refine sc_node ([x1]) hc he (u2) rfl rfl (by first | rfl | exact inc (by omega) | exact inc2 (by omega)) rfl fun kN => ?_
    exact rd_end hc ⟨kN, rfl, rfl⟩
   | cons y ys =>
    rw [hL] at ho hdl
    refine ⟨[encC x1], rfl, by simp at hdl ⊢; omega, ?_⟩
    subst ho
    refine sc_own (n := 4) ((x1 :: y :: ys).map encU) rfl rfl (ownL_cells _) ?_
    refine sc_node (x1 :: y :: ys) hc he (u2) rfl rfl (by first | rfl | exact inc (by omega) | exact inc2 (by omega)) rfl fun kN => ?_
    exact rd_end hc ⟨kN, rfl, rfl⟩
  ·
   refine sc_place hc he h0 rfl rfl rfl ?_
   refine sc_words hc he h0 rfl rfl rfl fun w1 w2 k1 => ?_
   refine sc_simple (.casted) hc he (w2) rfl rfl (by first | rfl | exact inc (by omega) | exact inc2 (by omega)) (fun hx a' k' => ?_) (fun x1 j1 hx l1 u1 k2 => ?_)
   ·rw [hx] at ho; subst ho; exact rd_end hc ⟨a', k', rfl, rfl⟩
   rw [hx] at ho; simp only [Out.bind_ok] at ho
   refine ⟨by kernel_rfl, ?_⟩
   refine sc_p hp (.dclrs true) (trivial) hc he (u1) rfl rfl rfl (by first | rfl | exact inc (by omega) | exact inc2 (by omega)) (fun σ ps h => pvs_rel (ps := [.lit (.bool true)]) rfl h) (fun hx => hn (by rw [← ho, hx]; rfl)) (fun hx a' k' => ?_) (fun x2 j2 hx l2 u2 k3 => ?_)
   ·rw [hx] at ho; subst ho; exact rd_end hc ⟨a', k', rfl, rfl⟩
   rw [hx] at ho; try simp only [Out.bind_ok] at ho
   have hdl := hp.dl _ _ _ _ u1 hx
   refine ⟨rfl, ?_⟩
   refine ⟨x2.l.map encC, elems_enc .any x2.l, ?_⟩
   cases hL : x2.l with
   | nil =>
    rw [hL] at ho
    subst ho
    refine sc_node ([x1]) hc he (u2) rfl rfl (by first | rfl | exact inc (by omega) | exact inc2 (by omega)) rfl fun kN => ?_
    exact rd_end hc ⟨kN, rfl, rfl⟩
   | cons y ys =>
    rw [hL] at ho hdl
    refine ⟨[encC x1], rfl, by simp at hdl ⊢; omega, ?_⟩
    subst ho
    refine sc_own (n := 4) ((x1 :: y :: ys).map encU) rfl rfl (ownL_cells _) ?_
    refine sc_node (x1 :: y :: ys) hc he (u2) rfl rfl (by first | rfl | exact inc (by omega) | exact inc2 (by omega)) rfl fun kN => ?_
    exact rd_end hc ⟨kN, rfl, rfl⟩
 ·unfold Cx.declS
  have h1 := words_le hc wordsL (c.v.length - at_) at_ ⟨#[]⟩ h0
  exact .bind (OLe.lo (i' := (c.words wordsL at_).2) (fun x j h => simple_le hc h1.2 h) h1.1) fun t j h2 h3 => .bind ((hp.ole (.dclrs true) trivial h3).lo h2) fun l k h4 h5 => .ok h4 h5
theorem post_t (hc : c.ok) (hp : PH c p) : Told c .post (c.postS p n) := by
 refine told_of (fun at_ h0 => ?_) (fun at_ h0 => ?_)
 ·have hvl := hc.vl
  have hpl := place_le hc at_
  obtain ⟨o, ho⟩ : ∃ o, c.postS p n at_ = o := ⟨_, rfl⟩
  rw [ho]
  unfold Cx.postS at ho
  show MC c 326 [] at_ (o.map encU)
  refine mcN_of (D := []) Tryz.func326 rfl (by kernel_rfl) fun hn s ir k he hs => ?_
  refine sc_place hc he h0 rfl rfl rfl ?_
  refine sc_p hp (.primary) (trivial) hc he (h0) rfl rfl rfl (by first | rfl | exact inc (by omega) | exact inc2 (by omega)) (fun σ ps h => h.nil_inv) (fun hx => hn (by rw [← ho, hx]; rfl)) (fun hx a' k' => ?_) (fun x1 j1 hx l1 u1 k1 => ?_)
  ·rw [hx] at ho; subst ho; exact rd_end hc ⟨a', k', rfl, rfl⟩
  rw [hx] at ho; try simp only [Out.bind_ok] at ho
  refine sw_loop (D := []) ti_ok (by kernel_rfl) (fun m env st b => ∃ (j : Nat) (x : Nd) (k : Int), j ≤ c.v.length ∧ c.postF p (c.place at_) m x j = o ∧ env = [(0, rdV), (2, .av (.cell 1 0)), (3, intV (c.place at_ : Nat)), (4, .av (.cell 2 0))] ∧ st = [rdLoc c (j : Nat) k, zLoc, ndLoc x] ∧ b = s.upd ir none) n ⟨[0, 1, 2], [0, 2, 3, 4], rfl, j1, x1, k1, u1, ho, rfl, rfl, rfl⟩ ?_
  rintro m env st b ⟨j, x, k4, hj, hm, rfl, rfl, rfl⟩
  clear ho
  cases m with
  | zero => exact absurd (show o.map encU = .fuel by rw [← hm]; rfl) hn
  | succ m =>
  rw [Cx.postF] at hm
  simp only [Cx.want] at hm
  refine sc_is hc he hj rfl rfl rfl (fun h1 lt1 => ?_) (fun h1 => ?_)
  ·rw [if_pos h1] at hm
   refine sc_p hp (.args x (c.place at_)) (hpl) hc he (hj) rfl rfl rfl (by first | rfl | exact inc (by omega) | exact inc2 (by omega)) (fun σ ps h => pvs_rel (ps := [encU x, .lit (.int .i64 (c.place at_ : Nat))]) rfl h) (fun hx => hn (by rw [← hm, hx]; rfl)) (fun hx a' k' => ?_) (fun x2 j2 hx l2 u2 k2 => ?_)
   ·rw [hx] at hm; subst hm; exact rd_end hc ⟨a', k', rfl, rfl⟩
   rw [hx] at hm; try simp only [Out.bind_ok] at hm
   exact ⟨m, by omega, [0, 1, 2], [0, 2, 3, 4], rfl, j2, x2, k2, u2, hm, rfl, rfl, rfl⟩
  rw [if_neg (by simp [h1])] at hm
  refine sc_eat hc he hj rfl rfl rfl (fun h2 lt2 k2 => ?_) (fun h2 k2 => ?_)
  ·rw [if_pos h2] at hm
   refine sc_p hp (.expr) (trivial) hc he (show j + 1 ≤ c.v.length by omega) rfl rfl rfl (by first | rfl | exact inc (by omega) | exact inc2 (by omega)) (fun σ ps h => h.nil_inv) (fun hx => hn (by rw [← hm, hx]; rfl)) (fun hx a' k' => ?_) (fun x2 j2 hx l2 u2 k3 => ?_)
   ·rw [hx] at hm; subst hm; exact rd_end hc ⟨a', k', rfl, rfl⟩
   rw [hx] at hm; try simp only [Out.bind_ok] at hm
   refine sc_want hc he (u2) rfl rfl (by first | rfl | exact inc (by omega) | exact inc2 (by omega)) (fun h a' k' => ?_) (fun h3 lt3 k5 => ?_)
   ·rw [if_neg (by simp [h])] at hm; subst hm; exact rd_end hc ⟨a', k', rfl, rfl⟩
   rw [if_pos h3] at hm; try simp only [Out.bind_ok] at hm
   refine sc_node [x, x2] hc he (show j2 + 1 ≤ c.v.length by omega) rfl rfl rfl rfl fun kN => ?_
   exact ⟨m, by omega, [0, 1, 2], [0, 2, 3, 4], rfl, j2 + 1, _, kN, by omega, hm, rfl, rfl, rfl⟩
  rw [if_neg (by simp [h2])] at hm
  have htx := text_le hc j
  have htx2 := text_le hc (j + 1)
  refine sc_among (l := [⟨#[46]⟩, ⟨#[45, 62]⟩]) hc he hj rfl rfl rfl (by decide) rfl (fun h3 lt3 => ?_) (fun h3 => ?_)
  ·rw [if_pos h3] at hm
   refine sc_tok hc he hj rfl rfl rfl ?_
   refine sc_name hc he (show j + 1 ≤ c.v.length by omega) rfl rfl (inc (by omega)) (fun h a' k' => ?_) (fun h lt k5 => ?_)
   ·rw [if_neg h] at hm; subst hm; exact rd_end hc ⟨a', k', rfl, rfl⟩
   rw [if_pos h] at hm
   refine ⟨by show 1 + (c.tk (j + 1)).text.size ≤ _; omega, ?_⟩
   refine ⟨by rw [size_app]; show (c.tk j).text.size + (1 + (c.tk (j + 1)).text.size) ≤ _; omega, ?_⟩
   refine sc_node [x] hc he (show j + 1 + 1 ≤ c.v.length by omega) rfl rfl rfl rfl fun kN => ?_
   exact ⟨m, by omega, [0, 1, 2], [0, 2, 3, 4], rfl, j + 2, _, kN, by omega, hm, rfl, rfl, rfl⟩
  rw [if_neg (by simp [h3])] at hm
  refine sc_among (l := [⟨#[43, 43]⟩, ⟨#[45, 45]⟩]) hc he hj rfl rfl rfl (by decide) rfl (fun h4 lt4 => ?_) (fun h4 => ?_)
  ·rw [if_pos h4] at hm
   refine sc_tok hc he hj rfl rfl rfl ?_
   refine sc_node [x] hc he (show j + 1 ≤ c.v.length by omega) rfl rfl (inc (by omega)) rfl fun kN => ?_
   exact ⟨m, by omega, [0, 1, 2], [0, 2, 3, 4], rfl, j + 1, _, kN, by omega, hm, rfl, rfl, rfl⟩
  rw [if_neg (by simp [h4])] at hm
  subst hm
  exact rd_end hc ⟨_, rfl, rfl⟩
 ·have hpl := place_le hc at_
  have key : ∀ (m : Nat) (x : Nd) {i j : Nat}, i ≤ j → j ≤ c.v.length → OLe (c.postF p (c.place at_) m x j) i c.v.length := by
   intro m
   induction m with
   | zero => intro L i j h1 h2; exact .fuel
   | succ m ih =>
    intro x i j h1 h2
    unfold Cx.postF
    split
    ·exact .bind ((hp.ole (.args x (c.place at_)) hpl h2).lo h1) fun x k h3 h4 => ih _ h3 h4
    ·split
     ·rename_i h
      have := hc.lt h
      exact .bind ((hp.ole .expr trivial (by omega)).lo (by omega)) fun x k h3 h4 => .want hc rfl fun h5 => ih _ (by omega) (by omega)
     ·split
      ·split
       ·rename_i h
        have hlt := hc.ltk (at_ := j + 1) (by rw [show (c.tk (j + 1)).kind = 1 from h]; decide)
        exact ih _ (by omega) (by omega)
       ·exact .bad
      ·split
       ·rename_i h
        have := among_lt hc h
        exact ih _ (by omega) (by omega)
       ·exact .ok h1 h2
  unfold Cx.postS
  exact .bind (hp.ole .primary trivial h0) fun x j h1 h2 => key n x h1 h2
end
end Go.Pv

namespace Go.Pv
open Go.Proofs
set_option linter.unusedVariables false
set_option linter.unusedSimpArgs false
set_option maxRecDepth 100000
theorem gi_of {c : Bool} {K : Prop} (h : c = true) (hK : K) : gi c K := by rw [h]; exact hK
theorem nm_of {α : Type} {l l' : List α} {K : List α → Prop} (h : l = l') (hK : nm l' K) : nm l K := by rw [h]; exact hK
@[reducible] def levP : List PV := levelsL.map fun l => strL .tight l
@[reducible] def levLoc : Option Loc := some (.cel 344 10 (levP.map .pv))
theorem lev_get {k : Nat} (h : k < 10) : ((levP.map AV.pv).drop (0 + ((k : Nat) : Int).toNat * 1)).take 1 = [.pv (strL .tight (levelsL.getD k []))] := by
 rw [Int.toNat_natCast, Nat.mul_one, Nat.zero_add]
 match k, h with
 | 0, _ => rfl
 | 1, _ => rfl
 | 2, _ => rfl
 | 3, _ => rfl
 | 4, _ => rfl
 | 5, _ => rfl
 | 6, _ => rfl
 | 7, _ => rfl
 | 8, _ => rfl
 | 9, _ => rfl
theorem lev_len {k : Nat} (h : k < 10) : (levelsL.getD k []).length ≤ 4 := by
 match k, h with
 | 0, _ => decide
 | 1, _ => decide
 | 2, _ => decide
 | 3, _ => decide
 | 4, _ => decide
 | 5, _ => decide
 | 6, _ => decide
 | 7, _ => decide
 | 8, _ => decide
 | 9, _ => decide
section
variable {c : Cx} {p : NT → Nat → Out Nd} {s : St} {ir : Nat} {at_ n : Nat} {k : Int}
theorem idx_spec {j : Nat} : ∀ (l : List ByteArray) (i : Nat), (c.idx j l i = -1 ∧ c.first l j = none) ∨ ∃ q, ∃ h : q < l.length, c.idx j l i = ((q + i : Nat) : Int) ∧ c.first l j = some l[q]
 | [], i => .inl ⟨rfl, rfl⟩
 | u :: r, i => by
  unfold Cx.idx Cx.first
  rw [List.find?_cons]
  cases hu : c.is j u with
  | true => rw [if_pos rfl]; exact .inr ⟨0, by simp, by simp, rfl⟩
  | false =>
   rw [if_neg (by simp)]
   rcases idx_spec (j := j) r (i + 1) with ⟨h1, h2⟩ | ⟨q, h, h1, h2⟩
   ·exact .inl ⟨h1, h2⟩
   ·refine .inr ⟨q + 1, by simp; omega, by rw [h1]; congr 1; omega, ?_⟩
    simp only [List.getElem_cons_succ]
    exact h2
theorem binary_t (hc : c.ok) (hp : PH c p) (kk : Nat) (hk : kk ≤ 10) : Told c (.binary kk) (c.binaryS p n kk) := by
 refine told_of (fun at_ h0 => ?_) (fun at_ h0 => ?_)
 ·have hvl := hc.vl
  obtain ⟨o, ho⟩ : ∃ o, c.binaryS p n kk at_ = o := ⟨_, rfl⟩
  rw [ho]
  unfold Cx.binaryS at ho
  show MC c 299 [.lit (.int .i64 (kk : Nat))] at_ (o.map encU)
  refine mcN_of (D := []) Tryz.func299 rfl (by kernel_rfl) fun hn s ir k he hs => ?_
  refine sc_pure (fun s _ => levels_c s) rfl rfl ?_
  rintro (_ | _) h1
  rotate_left
  ·have h1 := of_decide_eq_true h1
   rw [if_pos (by omega)] at ho
   refine sc_p hp (.cast) (trivial) hc he (h0) rfl rfl rfl (by first | rfl | exact inc (by omega) | exact inc2 (by omega)) (fun σ ps h => h.nil_inv) (fun hx => hn (by rw [← ho, hx]; rfl)) (fun hx a' k' => ?_) (fun x1 j1 hx l1 u1 k1 => ?_)
   ·rw [hx] at ho; subst ho; exact rd_end hc ⟨a', k', rfl, rfl⟩
   rw [hx] at ho; try simp only [Out.bind_ok] at ho
   subst ho
   exact rd_end hc ⟨_, rfl, rfl⟩
  have h1 := of_decide_eq_false h1
  have hk9 : kk < 10 := by omega
  rw [if_neg (by omega)] at ho
  refine sc_place hc he h0 rfl rfl rfl ?_
  have hrel : IntKind.i64.wrap ((kk : Int) + 1) = ((kk + 1 : Nat) : Int) := inc (by omega)
  refine sc_p hp (.binary (kk + 1)) (hk9) hc he (h0) rfl rfl rfl (by first | rfl | exact inc (by omega) | exact inc2 (by omega)) (fun σ ps h => (pvs_rel (ps := [.lit (.int .i64 (IntKind.i64.wrap ((kk : Int) + 1)))]) rfl h).trans (congrArg (fun z => [PV.lit (.int .i64 z)]) hrel)) (fun hx => hn (by rw [← ho, hx]; rfl)) (fun hx a' k' => ?_) (fun x1 j1 hx l1 u1 k1 => ?_)
  ·rw [hx] at ho; subst ho; exact rd_end hc ⟨a', k', rfl, rfl⟩
  rw [hx] at ho; try simp only [Out.bind_ok] at ho
  refine sw_loop (D := []) ti_ok (by kernel_rfl) (fun m env st b => ∃ (j : Nat) (x : Nd) (k : Int), j ≤ c.v.length ∧ c.binF p kk (c.place at_) m x j = o ∧ env = [(0, rdV), (1, intV (kk : Nat)), (4, .av (.cell 1 0)), (5, .av (.cell 2 0)), (6, intV (c.place at_ : Nat)), (7, .av (.cell 3 0))] ∧ st = [rdLoc c (j : Nat) k, zLoc, levLoc, ndLoc x] ∧ b = s.upd ir none) n ⟨[0, 1, 2, 3], [0, 1, 4, 5, 6, 7], rfl, j1, x1, k1, u1, ho, rfl, rfl, rfl⟩ ?_
  rintro m env st b ⟨j, x, k4, hj, hm, rfl, rfl, rfl⟩
  clear ho
  cases m with
  | zero => exact absurd (show o.map encU = .fuel by rw [← hm]; rfl) hn
  | succ m =>
  rw [Cx.binF] at hm
  refine ⟨⟨by omega, by show kk < 10; exact hk9⟩, ?_⟩
  refine gi_of (by rw [Bool.and_eq_true]; exact ⟨(by rw [Nat.ble_eq]; show 0 + ((kk : Nat) : Int).toNat * 1 + 1 ≤ 10; omega), rfl⟩) ?_
  have hget := lev_get hk9
  have hlen := lev_len hk9
  obtain ⟨l, hl⟩ : ∃ l, levelsL.getD kk [] = l := ⟨_, rfl⟩
  rw [hl] at hget hlen hm
  refine nm_of hget ?_
  have hq : ∀ (s : St) (ir : Nat) (k : Int), c.env s → s ir = some (rdRow c (j : Nat) k) → PCalls Tryz.prog 304 [strL .tight l, .fn 189 [.pt ir 0 0] []] s fun r s' => s' = s ∧ r = .ret (.lit (.int .i64 (c.idx j l 0))) := fun s ir k he hs => idx_c hc (by omega) he hs .tight l (by omega)
  rcases idx_spec (c := c) (j := j) l 0 with ⟨h2, h3⟩ | ⟨q, hql, h2, h3⟩
  ·rw [h2] at hq
   rw [h3] at hm
   refine sc_f hq hc he rfl rfl rfl rfl ?_
   rintro (_ | _) h4
   ·exact absurd (of_decide_eq_false h4) (by decide)
   subst hm
   exact rd_end hc ⟨_, rfl, rfl⟩
  ·rw [h2] at hq
   rw [h3] at hm
   simp only at hm
   have hlt := hc.lt (first_is h3)
   refine sc_f hq hc he rfl rfl rfl rfl ?_
   rintro (_ | _) h4
   rotate_left
   ·exact absurd (of_decide_eq_true h4) (by omega)
   have hg := List.getElem?_eq_getElem hql
   refine ⟨⟨by omega, by show kk < 10; exact hk9⟩, ?_⟩
   refine gi_of (by rw [Bool.and_eq_true]; exact ⟨(by rw [Nat.ble_eq]; show 0 + ((kk : Nat) : Int).toNat * 1 + 1 ≤ 10; omega), rfl⟩) ?_
   refine nm_of hget ?_
   refine ⟨.lit (.string l[q]), ⟨by omega, by rw [Nat.add_zero, Int.toNat_natCast, List.getElem?_map, hg]; rfl, rfl⟩, ?_⟩
   refine sc_p hp (.binary (kk + 1)) (hk9) hc he (show j + 1 ≤ c.v.length by omega) rfl rfl rfl (by first | rfl | exact inc (by omega) | exact inc2 (by omega)) (fun σ ps h => (pvs_rel (ps := [.lit (.int .i64 (IntKind.i64.wrap ((kk : Int) + 1)))]) rfl h).trans (congrArg (fun z => [PV.lit (.int .i64 z)]) hrel)) (fun hx => hn (by rw [← hm, hx]; rfl)) (fun hx a' k' => ?_) (fun x2 j2 hx l2 u2 k2 => ?_)
   ·rw [hx] at hm; subst hm; exact rd_end hc ⟨a', k', rfl, rfl⟩
   rw [hx] at hm; try simp only [Out.bind_ok] at hm
   refine sc_node [x, x2] hc he u2 rfl rfl rfl rfl fun kN => ?_
   exact ⟨m, by omega, [0, 1, 2, 3], [0, 1, 4, 5, 6, 7], rfl, j2, _, kN, u2, hm, rfl, rfl, rfl⟩
 ·have key : ∀ (m : Nat) (x : Nd) {i j : Nat}, i ≤ j → j ≤ c.v.length → kk < 10 → OLe (c.binF p kk (c.place at_) m x j) i c.v.length := by
   intro m
   induction m with
   | zero => intro L i j h1 h2 _; exact .fuel
   | succ m ih =>
    intro x i j h1 h2 h3
    unfold Cx.binF
    split
    ·exact .ok h1 h2
    ·rename_i u hu
     have := hc.lt (first_is hu)
     exact .bind ((hp.ole (.binary (kk + 1)) h3 (by omega)).lo (by omega)) fun x k h3' h4 => ih _ h3' h4 h3
  unfold Cx.binaryS
  split
  ·exact hp.ole .cast trivial h0
  ·exact .bind (hp.ole (.binary (kk + 1)) (show kk + 1 ≤ 10 by omega) h0) fun x j h1 h2 => key n x h1 h2 (by omega)
theorem St.upd_fresh {s s2 : St} {i : Nat} {x : Option Blk} (h : s2.sub s) (hi : Fresh s i) : s2.sub (s.upd i x) := fun k c hk => by
 have h1 := h k c hk
 have hki : k ≠ i := fun e => by subst e; rw [show s k = none from hi] at h1; cases h1
 rw [St.upd_ne _ _ hki]; exact h1
theorem strsF_stop {f i : Nat} {a : ByteArray} (h : c.kind i ≠ 5) : c.strsF f i a = (a, i) := by
 cases f with
 | zero => rfl
 | succ f => unfold Cx.strsF; rw [if_neg h]
theorem strsF_go (hc : c.ok) {i : Nat} {a : ByteArray} (h : c.kind i = 5) : i < c.v.length ∧ c.strsF (c.v.length - i) i a = c.strsF (c.v.length - (i + 1)) (i + 1) (a ++ (blank ++ c.text i)) := by
 have hlt := hc.ltk (at_ := i) (by rw [show (c.tk i).kind = 5 from h]; decide)
 refine ⟨hlt, ?_⟩
 rw [show c.v.length - i = (c.v.length - (i + 1)) + 1 by omega, Cx.strsF, if_pos h]
theorem strs_le (hc : c.ok) : ∀ (f i : Nat) (a : ByteArray), i ≤ c.v.length → i ≤ (c.strsF f i a).2 ∧ (c.strsF f i a).2 ≤ c.v.length
 | 0, i, a, h => ⟨Nat.le_refl _, h⟩
 | f + 1, i, a, h => by
  unfold Cx.strsF
  split
  ·rename_i hi
   have hlt := hc.ltk (at_ := i) (by rw [show (c.tk i).kind = 5 from hi]; decide)
   have := strs_le hc f (i + 1) (a ++ (blank ++ c.text i)) hlt
   omega
  ·exact ⟨Nat.le_refl _, h⟩
theorem primary_t (hc : c.ok) (hp : PH c p) : Told c .primary (c.primaryS p) := by
 refine told_of (fun at_ h0 => ?_) (fun at_ h0 => ?_)
 ·have hvl := hc.vl
  obtain ⟨o, ho⟩ : ∃ o, c.primaryS p at_ = o := ⟨_, rfl⟩
  rw [ho]
  unfold Cx.primaryS at ho
  simp only [Cx.want] at ho
  show MC c 329 [] at_ (o.map encU)
  refine mcN_of (D := []) Tryz.func329 rfl (by kernel_rfl) fun hn s ir k he hs => ?_
  refine sc_place hc he h0 rfl rfl rfl ?_
  refine sc_tok hc he h0 rfl rfl rfl ?_
  refine sc_meta hc he h0 rfl rfl rfl ?_
  rintro (_ | _) m1
  rotate_left
  ·exact absurd (of_decide_eq_true m1) (by decide)
  rintro (_ | _) m2
  rotate_left
  ·exact absurd (of_decide_eq_true m2) (by decide)
  rintro (_ | _) m3
  rotate_left
  ·exact absurd (of_decide_eq_true m3) (by decide)
  rintro (_ | _) m4
  ·exact absurd (of_decide_eq_false m4) (by simp)
  have htx := text_le hc at_
  rintro (_ | _) k1
  ·have k1 : c.kind at_ ≠ 1 := of_decide_eq_false k1
   rw [if_neg k1] at ho
   rintro (_ | _) k3
   ·have k3 : c.kind at_ ≠ 3 := of_decide_eq_false k3
    rw [if_neg k3] at ho
    rintro (_ | _) k4
    ·have k4 : c.kind at_ ≠ 4 := of_decide_eq_false k4
     rw [if_neg k4] at ho
     rintro (_ | _) k5
     ·have k5 : c.kind at_ ≠ 5 := of_decide_eq_false k5
      rw [if_neg k5] at ho
      refine sc_want hc he (h0) rfl rfl (by first | rfl | exact inc (by omega) | exact inc2 (by omega)) (fun h a' k' => ?_) (fun h1 lt1 kk1 => ?_)
      ·rw [if_neg (by simp [h])] at ho; subst ho; exact rd_end hc ⟨a', k', rfl, rfl⟩
      rw [if_pos h1] at ho; try simp only [Out.bind_ok] at ho
      refine sc_p hp (.expr) (trivial) hc he (show at_ + 1 ≤ c.v.length by omega) rfl rfl rfl (by first | rfl | exact inc (by omega) | exact inc2 (by omega)) (fun σ ps h => h.nil_inv) (fun hx => hn (by rw [← ho, hx]; rfl)) (fun hx a' k' => ?_) (fun x2 j2 hx l2 u2 kk2 => ?_)
      ·rw [hx] at ho; subst ho; exact rd_end hc ⟨a', k', rfl, rfl⟩
      rw [hx] at ho; try simp only [Out.bind_ok] at ho
      refine sc_want hc he (u2) rfl rfl (by first | rfl | exact inc (by omega) | exact inc2 (by omega)) (fun h a' k' => ?_) (fun h3 lt3 kk3 => ?_)
      ·rw [if_neg (by simp [h])] at ho; subst ho; exact rd_end hc ⟨a', k', rfl, rfl⟩
      rw [if_pos h3] at ho; try simp only [Out.bind_ok] at ho
      subst ho
      refine sc_node ([x2]) hc he (show j2 + 1 ≤ c.v.length by omega) rfl rfl (by first | rfl | exact inc (by omega) | exact inc2 (by omega)) rfl fun kN => ?_
      exact rd_end hc ⟨kN, rfl, rfl⟩
     ·have k5 : c.kind at_ = 5 := of_decide_eq_true k5
      rw [if_pos k5] at ho
      have hlt := hc.ltk (at_ := at_) (by rw [show (c.tk at_).kind = 5 from k5]; decide)
      refine sw_loop (D := []) ti_ok (by kernel_rfl) (fun m env st b => ∃ (j : Nat) (a : ByteArray) (k : Int), j + m = c.v.length ∧ at_ + 1 ≤ j ∧ a.size ≤ j * 1000001 ∧ c.strsF (c.v.length - j) j a = c.strsF (c.v.length - (at_ + 1)) (at_ + 1) (c.text at_) ∧ env = [(0, rdV), (2, .av (.cell 1 0)), (3, intV (c.place at_ : Nat)), (6, strV a)] ∧ st = [rdLoc c (j : Nat) k, zLoc] ∧ b = s.upd ir none) (c.v.length - (at_ + 1)) ⟨[0, 1], [0, 2, 3, 6], rfl, at_ + 1, c.text at_, k, by omega, Nat.le_refl _, by show (c.tk at_).text.size ≤ _; omega, rfl, rfl, by rw [← inc (show at_ ≤ 1000000000 by omega)]; rfl, rfl⟩ ?_
      rintro m env st b ⟨j, a, kk4, hj, haj, hsz, hx, rfl, rfl, rfl⟩
      refine sc_tok hc he (show j ≤ c.v.length by omega) rfl rfl rfl ?_
      have htj := text_le hc j
      rintro (_ | _) h5
      ·have h5 : c.kind j ≠ 5 := of_decide_eq_false h5
       rw [strsF_stop h5] at hx
       rw [← hx] at ho
       subst ho
       refine sc_node ([]) hc he (show j ≤ c.v.length by omega) rfl rfl (by first | rfl | exact inc (by omega) | exact inc2 (by omega)) rfl fun kN => ?_
       exact rd_end hc ⟨kN, rfl, rfl⟩
      ·have h5 : c.kind j = 5 := of_decide_eq_true h5
       obtain ⟨hlj, hgo⟩ := strsF_go (a := a) hc h5
       rw [hgo] at hx
       refine sc_tok hc he (show j ≤ c.v.length by omega) rfl rfl rfl ?_
       refine ⟨by show 1 + (c.tk j).text.size ≤ _; omega, ?_⟩
       refine ⟨by rw [size_app]; show a.size + (1 + (c.tk j).text.size) ≤ _; omega, ?_⟩
       refine ⟨m - 1, by omega, [0, 1], [0, 2, 3, 6], rfl, j + 1, _, kk4, by omega, by omega, ?_, hx, rfl, ?_, rfl⟩
       ·rw [size_app, size_app]; show a.size + (1 + (c.tk j).text.size) ≤ _; omega
       ·rw [← inc (show j ≤ 1000000000 by omega)]; rfl
    ·have k4 : c.kind at_ = 4 := of_decide_eq_true k4
     rw [if_pos k4] at ho
     have hlt := hc.ltk (at_ := at_) (by rw [show (c.tk at_).kind = 4 from k4]; decide)
     intro i hi
     refine ⟨_, St.upd_same _ _ _, ?_⟩
     refine ⟨_, St.upd_same _ _ _, ?_⟩
     refine ⟨_, St.upd_same _ _ _, ?_⟩
     refine ⟨_, St.upd_same _ _ _, fun r hr => ?_⟩
     rw [show (c.tk at_).kind = 4 from k4] at hr
     obtain rfl : r = some (.lit (.int .i64 52)) := hr.symm
     refine sc_sub (b2 := s.upd ir none) (by simp only [St.upd_upd]; exact St.upd_fresh sub_refl hi) ?_
     subst ho
     refine sc_node ([]) hc he (show at_ + 1 ≤ c.v.length by omega) rfl rfl (by first | rfl | exact inc (by omega) | exact inc2 (by omega)) rfl fun kN => ?_
     exact rd_end hc ⟨kN, rfl, rfl⟩
   ·have k4 : c.kind at_ = 3 := of_decide_eq_true k3
    rw [if_pos k4] at ho
    have hlt := hc.ltk (at_ := at_) (by rw [show (c.tk at_).kind = 3 from k4]; decide)
    intro i hi
    refine ⟨_, St.upd_same _ _ _, ?_⟩
    refine ⟨_, St.upd_same _ _ _, ?_⟩
    refine ⟨_, St.upd_same _ _ _, ?_⟩
    refine ⟨_, St.upd_same _ _ _, fun r hr => ?_⟩
    rw [show (c.tk at_).kind = 3 from k4] at hr
    obtain rfl : r = some (.lit (.int .i64 51)) := hr.symm
    refine sc_sub (b2 := s.upd ir none) (by simp only [St.upd_upd]; exact St.upd_fresh sub_refl hi) ?_
    subst ho
    refine sc_node ([]) hc he (show at_ + 1 ≤ c.v.length by omega) rfl rfl (by first | rfl | exact inc (by omega) | exact inc2 (by omega)) rfl fun kN => ?_
    exact rd_end hc ⟨kN, rfl, rfl⟩
  ·have k4 : c.kind at_ = 1 := of_decide_eq_true k1
   rw [if_pos k4] at ho
   have hlt := hc.ltk (at_ := at_) (by rw [show (c.tk at_).kind = 1 from k4]; decide)
   intro i hi
   refine ⟨_, St.upd_same _ _ _, ?_⟩
   refine ⟨_, St.upd_same _ _ _, ?_⟩
   refine ⟨_, St.upd_same _ _ _, ?_⟩
   refine ⟨_, St.upd_same _ _ _, fun r hr => ?_⟩
   rw [show (c.tk at_).kind = 1 from k4] at hr
   obtain rfl : r = some (.lit (.int .i64 50)) := hr.symm
   refine sc_sub (b2 := s.upd ir none) (by simp only [St.upd_upd]; exact St.upd_fresh sub_refl hi) ?_
   subst ho
   refine sc_node ([]) hc he (show at_ + 1 ≤ c.v.length by omega) rfl rfl (by first | rfl | exact inc (by omega) | exact inc2 (by omega)) rfl fun kN => ?_
   exact rd_end hc ⟨kN, rfl, rfl⟩
 ·unfold Cx.primaryS
  have hk : ∀ {q : Int}, c.kind at_ = q → q ≠ 0 → at_ < c.v.length := fun {q} h h2 => hc.ltk (at_ := at_) (by rw [show (c.tk at_).kind = q from h]; exact h2)
  split
  ·rename_i h; exact .ok (by omega) (hk h (by decide))
  ·split
   ·rename_i h; exact .ok (by omega) (hk h (by decide))
   ·split
    ·rename_i h; exact .ok (by omega) (hk h (by decide))
    ·split
     ·rename_i h
      have := strs_le hc (c.v.length - (at_ + 1)) (at_ + 1) (c.text at_) (hk h (by decide))
      exact .ok (by omega) this.2
     ·exact .want hc rfl fun h1 => .bind ((hp.ole .expr trivial (by omega)).lo (by omega)) fun x j h2 h3 => .want hc rfl fun h4 => .ok (by omega) (by omega)
end
end Go.Pv

namespace Go.Pv
open Go.Proofs
set_option linter.unusedVariables false
set_option linter.unusedSimpArgs false
set_option maxRecDepth 100000
section
variable {c : Cx} {imp : List Nat} {st : SS} {b : St} {K : SV → SS → St → Prop} {Kp : List PanicEntry → SS → St → Prop} {args : List SV} {i : Nat} {aI m : Int}
theorem sc_sign {u : ByteArray} (n : Nat) (hc : c.ok) (he : c.env b) (h0 : i ≤ c.v.length) (hn : n ≤ 1000000000) (hst : st[0]? = some (rdLoc c aI m)) (ha : args = [rdV, intV (n : Nat), strV u]) (hI : aI = (i : Nat))
  (hT : c.sg (i + n) u = true → i + n < c.v.length → K (boolV true) st b) (hF : c.sg (i + n) u = false → K (boolV false) st b) : SC Tryz.prog imp 252 args st b K Kp := by
 have hvl := hc.vl
 have hq := signQ hc (show i ≤ 1000000000 by omega) hn u
 cases h : c.sg (i + n) u with
 | true => rw [h] at hq; exact sc_q (xs := [.lit (.int .i64 (n : Nat)), .lit (.string u)]) hq hc he hst ha hI rfl (hT h (sg_lt hc h))
 | false => rw [h] at hq; exact sc_q (xs := [.lit (.int .i64 (n : Nat)), .lit (.string u)]) hq hc he hst ha hI rfl (hF h)
end
section
variable {c : Cx} {p : NT → Nat → Out Nd} {s : St} {ir : Nat} {at_ n : Nat} {k : Int}
theorem part_c (hc : c.ok) (h0 : at_ ≤ c.v.length) (op : Int) (fr : Nat) (kk : VK) (l : List Nd) : MC c 307 [.lit (.int .i64 op), .lit (.int .i64 (fr : Nat)), .vec kk (l.map encU)] at_ (.ok (encU (c.partN op fr at_ l)) at_) := by
 cases l with
 | nil =>
  refine MC.wk (p := .agg [.lit (.int .i64 op), .lit (.string ⟨#[]⟩), .lit (.int .i64 0), .lit (.int .i64 (fr : Nat)), .lit (.int .i64 (fr : Nat)), .vec .nil []]) ?_ (.aggs (.cons (.refl _) (.cons (.refl _) (.cons (.refl _) (.cons (.refl _) (.cons (.refl _) (.cons (.any .nil _) .nil)))))))
  refine mc_of (D := []) Tryz.func307 rfl (by kernel_rfl) fun s ir k he hs => ?_
  rintro (_ | _) h1
  ·exact absurd (of_decide_eq_false h1) (by simp)
  exact rd_end hc ⟨_, rfl, rfl⟩
 | cons x l =>
  refine mc_of (D := []) Tryz.func307 rfl (by kernel_rfl) fun s ir k he hs => ?_
  rintro (_ | _) h1
  rotate_left
  ·exact absurd (of_decide_eq_true h1) (by simp; omega)
  refine sc_node (x :: l) hc he h0 rfl rfl rfl rfl fun kN => ?_
  exact rd_end hc ⟨kN, rfl, rfl⟩
theorem other_t (hc : c.ok) (hp : PH c p) (fr : Nat) : Told c (.other fr) (c.otherS p fr) := by
 refine told_of (fun at_ h0 => ?_) (fun at_ h0 => ?_)
 ·have hvl := hc.vl
  obtain ⟨o, ho⟩ : ∃ o, c.otherS p fr at_ = o := ⟨_, rfl⟩
  rw [ho]
  unfold Cx.otherS at ho
  simp only [Cx.want] at ho
  show MC c 292 [.lit (.int .i64 (fr : Nat))] at_ (o.map encU)
  refine mcN_of (D := []) Tryz.func292 rfl (by kernel_rfl) fun hn s ir k he hs => ?_
  refine sc_tok hc he h0 rfl rfl rfl ?_
  rintro (_ | _) h1
  ·have h1 : c.kind at_ ≠ 1 := of_decide_eq_false h1
   rw [if_neg (fun h => h1 h.1)] at ho
   refine sc_guessed hc he h0 rfl rfl rfl ?_
   rintro (_ | _) g1
   rotate_left
   ·have g1 : c.guessed at_ = 1 := of_decide_eq_true g1
    rw [if_pos g1] at ho
    refine sc_p hp (.used true) (trivial) hc he (h0) rfl rfl rfl (by first | rfl | exact inc (by omega) | exact inc2 (by omega)) (fun σ ps h => pvs_rel (ps := [.lit (.bool true)]) rfl h) (fun hx => hn (by rw [← ho, hx]; rfl)) (fun hx a' k' => ?_) (fun x1 j1 hx l1 u1 k1 => ?_)
    ·rw [hx] at ho; subst ho; exact rd_end hc ⟨a', k', rfl, rfl⟩
    rw [hx] at ho; try simp only [Out.bind_ok] at ho
    refine sc_p hp (.stat) (trivial) hc he (u1) rfl rfl rfl (by first | rfl | exact inc (by omega) | exact inc2 (by omega)) (fun σ ps h => h.nil_inv) (fun hx => hn (by rw [← ho, hx]; rfl)) (fun hx a' k' => ?_) (fun x2 j2 hx l2 u2 k2 => ?_)
    ·rw [hx] at ho; subst ho; exact rd_end hc ⟨a', k', rfl, rfl⟩
    rw [hx] at ho; try simp only [Out.bind_ok] at ho
    subst ho
    refine sc_node ([x1, x2]) hc he (u2) rfl rfl (by first | rfl | exact inc (by omega) | exact inc2 (by omega)) rfl fun kN => ?_
    exact rd_end hc ⟨kN, rfl, rfl⟩
   have g1 : c.guessed at_ ≠ 1 := of_decide_eq_false g1
   rw [if_neg g1] at ho
   refine sc_guessed hc he h0 rfl rfl rfl ?_
   rintro (_ | _) g2
   rotate_left
   ·have g2 : c.guessed at_ = 2 := of_decide_eq_true g2
    rw [if_pos g2] at ho
    refine sc_p hp (.used false) (trivial) hc he (h0) rfl rfl rfl (by first | rfl | exact inc (by omega) | exact inc2 (by omega)) (fun σ ps h => pvs_rel (ps := [.lit (.bool false)]) rfl h) (fun hx => hn (by rw [← ho, hx]; rfl)) (fun hx a' k' => ?_) (fun x1 j1 hx l1 u1 k1 => ?_)
    ·rw [hx] at ho; subst ho; exact rd_end hc ⟨a', k', rfl, rfl⟩
    rw [hx] at ho; try simp only [Out.bind_ok] at ho
    subst ho
    refine sc_node ([x1]) hc he (u1) rfl rfl (by first | rfl | exact inc (by omega) | exact inc2 (by omega)) rfl fun kN => ?_
    exact rd_end hc ⟨kN, rfl, rfl⟩
   have g2 : c.guessed at_ ≠ 2 := of_decide_eq_false g2
   rw [if_neg g2] at ho
   refine sc_among (l := [⟨#[115, 116, 97, 116, 105, 99]⟩, ⟨#[101, 120, 116, 101, 114, 110]⟩]) hc he h0 rfl rfl rfl (by decide) rfl (fun h3 lt3 => ?_) (fun h3 => ?_)
   ·rw [if_pos (by rw [h3]; rfl)] at ho
    refine sc_p hp (.decl .typed) (trivial) hc he (h0) rfl rfl rfl (by first | rfl | exact inc (by omega) | exact inc2 (by omega)) (fun σ ps h => rule_rel (m := .typed) h) (fun hx => hn (by rw [← ho, hx]; rfl)) (fun hx a' k' => ?_) (fun x1 j1 hx l1 u1 k1 => ?_)
    ·rw [hx] at ho; subst ho; exact rd_end hc ⟨a', k', rfl, rfl⟩
    rw [hx] at ho; try simp only [Out.bind_ok] at ho
    subst ho
    exact rd_end hc ⟨_, rfl, rfl⟩
   refine sc_begins .typed hc he h0 rfl rfl rfl fun t ht => ?_
   rw [h3, ht, Bool.false_or] at ho
   cases t
   ·rw [if_neg (by simp)] at ho
    refine sc_p hp (.expr) (trivial) hc he (h0) rfl rfl rfl (by first | rfl | exact inc (by omega) | exact inc2 (by omega)) (fun σ ps h => h.nil_inv) (fun hx => hn (by rw [← ho, hx]; rfl)) (fun hx a' k' => ?_) (fun x1 j1 hx l1 u1 k1 => ?_)
    ·rw [hx] at ho; subst ho; exact rd_end hc ⟨a', k', rfl, rfl⟩
    rw [hx] at ho; try simp only [Out.bind_ok] at ho
    refine sc_want hc he (u1) rfl rfl (by first | rfl | exact inc (by omega) | exact inc2 (by omega)) (fun h a' k' => ?_) (fun h5 lt5 k5 => ?_)
    ·rw [if_neg (by simp [h])] at ho; subst ho; exact rd_end hc ⟨a', k', rfl, rfl⟩
    rw [if_pos h5] at ho; try simp only [Out.bind_ok] at ho
    subst ho
    refine sc_node ([x1]) hc he (show j1 + 1 ≤ c.v.length by omega) rfl rfl (by first | rfl | exact inc (by omega) | exact inc2 (by omega)) rfl fun kN => ?_
    exact rd_end hc ⟨kN, rfl, rfl⟩
   ·rw [if_pos rfl] at ho
    refine sc_p hp (.decl .typed) (trivial) hc he (h0) rfl rfl rfl (by first | rfl | exact inc (by omega) | exact inc2 (by omega)) (fun σ ps h => rule_rel (m := .typed) h) (fun hx => hn (by rw [← ho, hx]; rfl)) (fun hx a' k' => ?_) (fun x1 j1 hx l1 u1 k1 => ?_)
    ·rw [hx] at ho; subst ho; exact rd_end hc ⟨a', k', rfl, rfl⟩
    rw [hx] at ho; try simp only [Out.bind_ok] at ho
    subst ho
    exact rd_end hc ⟨_, rfl, rfl⟩
  ·have h1 : c.kind at_ = 1 := of_decide_eq_true h1
   refine sc_sign 1 hc he h0 (by decide) rfl rfl rfl (fun h2 lt2 => ?_) (fun h2 => ?_)
   ·rw [if_pos ⟨h1, h2⟩] at ho
    refine sc_name hc he h0 rfl rfl rfl (fun h a' k' => absurd h1 h) (fun h lt k5 => ?_)
    refine sc_p hp (.marked) (trivial) hc he (show at_ + 2 ≤ c.v.length by omega) rfl rfl rfl (by first | rfl | exact inc (by omega) | exact inc2 (by omega)) (fun σ ps h => h.nil_inv) (fun hx => hn (by rw [← ho, hx]; rfl)) (fun hx a' k' => ?_) (fun x2 j2 hx l2 u2 kk2 => ?_)
    ·rw [hx] at ho; subst ho; exact rd_end hc ⟨a', k', rfl, rfl⟩
    rw [hx] at ho; try simp only [Out.bind_ok] at ho
    subst ho
    refine sc_node ([x2]) hc he (u2) rfl rfl (by first | rfl | exact inc (by omega) | exact inc2 (by omega)) rfl fun kN => ?_
    exact rd_end hc ⟨kN, rfl, rfl⟩
   ·rw [if_neg (by simp [h2])] at ho
    refine sc_guessed hc he h0 rfl rfl rfl ?_
    rintro (_ | _) g1
    rotate_left
    ·have g1 : c.guessed at_ = 1 := of_decide_eq_true g1
     rw [if_pos g1] at ho
     refine sc_p hp (.used true) (trivial) hc he (h0) rfl rfl rfl (by first | rfl | exact inc (by omega) | exact inc2 (by omega)) (fun σ ps h => pvs_rel (ps := [.lit (.bool true)]) rfl h) (fun hx => hn (by rw [← ho, hx]; rfl)) (fun hx a' k' => ?_) (fun x1 j1 hx l1 u1 k1 => ?_)
     ·rw [hx] at ho; subst ho; exact rd_end hc ⟨a', k', rfl, rfl⟩
     rw [hx] at ho; try simp only [Out.bind_ok] at ho
     refine sc_p hp (.stat) (trivial) hc he (u1) rfl rfl rfl (by first | rfl | exact inc (by omega) | exact inc2 (by omega)) (fun σ ps h => h.nil_inv) (fun hx => hn (by rw [← ho, hx]; rfl)) (fun hx a' k' => ?_) (fun x2 j2 hx l2 u2 k2 => ?_)
     ·rw [hx] at ho; subst ho; exact rd_end hc ⟨a', k', rfl, rfl⟩
     rw [hx] at ho; try simp only [Out.bind_ok] at ho
     subst ho
     refine sc_node ([x1, x2]) hc he (u2) rfl rfl (by first | rfl | exact inc (by omega) | exact inc2 (by omega)) rfl fun kN => ?_
     exact rd_end hc ⟨kN, rfl, rfl⟩
    have g1 : c.guessed at_ ≠ 1 := of_decide_eq_false g1
    rw [if_neg g1] at ho
    refine sc_guessed hc he h0 rfl rfl rfl ?_
    rintro (_ | _) g2
    rotate_left
    ·have g2 : c.guessed at_ = 2 := of_decide_eq_true g2
     rw [if_pos g2] at ho
     refine sc_p hp (.used false) (trivial) hc he (h0) rfl rfl rfl (by first | rfl | exact inc (by omega) | exact inc2 (by omega)) (fun σ ps h => pvs_rel (ps := [.lit (.bool false)]) rfl h) (fun hx => hn (by rw [← ho, hx]; rfl)) (fun hx a' k' => ?_) (fun x1 j1 hx l1 u1 k1 => ?_)
     ·rw [hx] at ho; subst ho; exact rd_end hc ⟨a', k', rfl, rfl⟩
     rw [hx] at ho; try simp only [Out.bind_ok] at ho
     subst ho
     refine sc_node ([x1]) hc he (u1) rfl rfl (by first | rfl | exact inc (by omega) | exact inc2 (by omega)) rfl fun kN => ?_
     exact rd_end hc ⟨kN, rfl, rfl⟩
    have g2 : c.guessed at_ ≠ 2 := of_decide_eq_false g2
    rw [if_neg g2] at ho
    refine sc_among (l := [⟨#[115, 116, 97, 116, 105, 99]⟩, ⟨#[101, 120, 116, 101, 114, 110]⟩]) hc he h0 rfl rfl rfl (by decide) rfl (fun h3 lt3 => ?_) (fun h3 => ?_)
    ·rw [if_pos (by rw [h3]; rfl)] at ho
     refine sc_p hp (.decl .typed) (trivial) hc he (h0) rfl rfl rfl (by first | rfl | exact inc (by omega) | exact inc2 (by omega)) (fun σ ps h => rule_rel (m := .typed) h) (fun hx => hn (by rw [← ho, hx]; rfl)) (fun hx a' k' => ?_) (fun x1 j1 hx l1 u1 k1 => ?_)
     ·rw [hx] at ho; subst ho; exact rd_end hc ⟨a', k', rfl, rfl⟩
     rw [hx] at ho; try simp only [Out.bind_ok] at ho
     subst ho
     exact rd_end hc ⟨_, rfl, rfl⟩
    refine sc_begins .typed hc he h0 rfl rfl rfl fun t ht => ?_
    rw [h3, ht, Bool.false_or] at ho
    cases t
    ·rw [if_neg (by simp)] at ho
     refine sc_p hp (.expr) (trivial) hc he (h0) rfl rfl rfl (by first | rfl | exact inc (by omega) | exact inc2 (by omega)) (fun σ ps h => h.nil_inv) (fun hx => hn (by rw [← ho, hx]; rfl)) (fun hx a' k' => ?_) (fun x1 j1 hx l1 u1 k1 => ?_)
     ·rw [hx] at ho; subst ho; exact rd_end hc ⟨a', k', rfl, rfl⟩
     rw [hx] at ho; try simp only [Out.bind_ok] at ho
     refine sc_want hc he (u1) rfl rfl (by first | rfl | exact inc (by omega) | exact inc2 (by omega)) (fun h a' k' => ?_) (fun h5 lt5 k5 => ?_)
     ·rw [if_neg (by simp [h])] at ho; subst ho; exact rd_end hc ⟨a', k', rfl, rfl⟩
     rw [if_pos h5] at ho; try simp only [Out.bind_ok] at ho
     subst ho
     refine sc_node ([x1]) hc he (show j1 + 1 ≤ c.v.length by omega) rfl rfl (by first | rfl | exact inc (by omega) | exact inc2 (by omega)) rfl fun kN => ?_
     exact rd_end hc ⟨kN, rfl, rfl⟩
    ·rw [if_pos rfl] at ho
     refine sc_p hp (.decl .typed) (trivial) hc he (h0) rfl rfl rfl (by first | rfl | exact inc (by omega) | exact inc2 (by omega)) (fun σ ps h => rule_rel (m := .typed) h) (fun hx => hn (by rw [← ho, hx]; rfl)) (fun hx a' k' => ?_) (fun x1 j1 hx l1 u1 k1 => ?_)
     ·rw [hx] at ho; subst ho; exact rd_end hc ⟨a', k', rfl, rfl⟩
     rw [hx] at ho; try simp only [Out.bind_ok] at ho
     subst ho
     exact rd_end hc ⟨_, rfl, rfl⟩
 ·unfold Cx.otherS
  split
  ·rename_i h
   have := sg_lt hc h.2
   exact .bind ((hp.ole .marked trivial (by omega)).lo (by omega)) fun x j h1 h2 => .ok h1 h2
  ·split
   ·exact .bind (hp.ole (.used true) trivial h0) fun x j h1 h2 => .bind ((hp.ole .stat trivial h2).lo h1) fun y k h3 h4 => .ok h3 h4
   ·split
    ·exact .bind (hp.ole (.used false) trivial h0) fun x j h1 h2 => .ok h1 h2
    ·split
     ·exact hp.ole (.decl .typed) trivial h0
     ·exact .bind (hp.ole .expr trivial h0) fun x j h1 h2 => .want hc rfl fun h3 => .ok (by omega) (by omega)
end
section
variable (c : Cx) (p : NT → Nat → Out Nd)
def sgOf : Nat → ByteArray
 | 0 => ⟨#[59]⟩
 | _ => ⟨#[41]⟩
def opOf : Nat → Int
 | 0 => 38
 | _ => 39
def Cx.restF (fr : Nat) : Nat → List Nd → Nat → Out Nd
 | 0, L, i => (p .stat i).bind fun x m => .ok (c.nodeN 24 ⟨#[]⟩ fr m (L ++ [x])) m
 | m + 1, L, i => (c.perhaps p (sgOf (1 - m)) i).bind fun t j => c.want j (sgOf (1 - m)) fun j' => Cx.restF fr m (L ++ [c.partN (opOf (1 - m)) (c.place i) j t]) j'
theorem loopS_eq (fr i : Nat) : c.loopS p fr i = c.want i ⟨#[40]⟩ fun i =>
 (if (c.among i [⟨#[115, 116, 97, 116, 105, 99]⟩, ⟨#[101, 120, 116, 101, 114, 110]⟩] || c.begins .typed i) = true then (p (.decl .typed) i).bind fun d j => (.ok [c.nodeN 37 ⟨#[]⟩ (c.place i) j [d]] j : Out (List Nd))
 else (c.perhaps p ⟨#[59]⟩ i).bind fun l j => c.want j ⟨#[59]⟩ fun j' => .ok [c.partN 37 (c.place i) j l] j').bind fun l i => c.restF p fr 2 l i := by
 unfold Cx.loopS
 congr 1
 funext i
 congr 1
 funext l i
 simp only [Cx.restF, List.append_assoc, List.cons_append, List.nil_append]
 rfl
end
end Go.Pv

namespace Go.Pv
open Go.Proofs
set_option linter.unusedVariables false
set_option linter.unusedSimpArgs false
set_option maxRecDepth 100000
section
variable {c : Cx} {imp : List Nat} {st : SS} {b : St} {K : SV → SS → St → Prop} {Kp : List PanicEntry → SS → St → Prop} {args : List SV} {i : Nat} {aI m : Int}
theorem sc_part {op : Int} {fr : Nat} {kk : VK} {ps : List PV} (l : List Nd) (hc : c.ok) (he : c.env b) (h0 : i ≤ c.v.length) (hst : st[0]? = some (rdLoc c aI m)) (ha : args = [rdV, intV op, intV (fr : Nat), .av (.pv (.vec kk ps))]) (hI : aI = (i : Nat)) (hp : ps = l.map encU)
  (hK : MvK c st b i (K (.av (.pv (encU (c.partN op fr i l)))))) : SC Tryz.prog imp 307 args st b K Kp := by
 subst hp
 exact sc_ok (xs := [.lit (.int .i64 op), .lit (.int .i64 (fr : Nat)), .vec kk (l.map encU)]) (part_c hc h0 op fr kk l) hc he hst ha hI rfl hK
end
section
variable {c : Cx} {p : NT → Nat → Out Nd} {s : St} {ir : Nat} {at_ n : Nat} {k : Int}
theorem perhaps_ole (hc : c.ok) (hp : PH c p) {u : ByteArray} {i j : Nat} (h1 : i ≤ j) (h2 : j ≤ c.v.length) : OLe (c.perhaps p u j) i c.v.length := by
 unfold Cx.perhaps
 split
 ·exact .ok h1 h2
 ·exact .bind ((hp.ole .expr trivial h2).lo h1) fun x k h3 h4 => .ok h3 h4
theorem restF_ole (hc : c.ok) (hp : PH c p) (fr : Nat) : ∀ (m : Nat) (L : List Nd) {i j : Nat}, i ≤ j → j ≤ c.v.length → OLe (c.restF p fr m L j) i c.v.length
 | 0, L, i, j, h1, h2 => .bind ((hp.ole .stat trivial h2).lo h1) fun x k h3 h4 => .ok h3 h4
 | m + 1, L, i, j, h1, h2 => .bind (perhaps_ole hc hp h1 h2) fun t k h3 h4 => .want hc rfl fun h5 => restF_ole hc hp fr m _ (by omega) (by omega)
theorem loop_t (hc : c.ok) (hp : PH c p) (fr : Nat) : Told c (.loop fr) (c.loopS p fr) := by
 refine told_of (fun at_ h0 => ?_) (fun at_ h0 => ?_)
 ·have hvl := hc.vl
  obtain ⟨o, ho⟩ : ∃ o, c.loopS p fr at_ = o := ⟨_, rfl⟩
  rw [ho]
  rw [loopS_eq] at ho
  simp only [Cx.want] at ho
  show MC c 290 [.lit (.int .i64 (fr : Nat))] at_ (o.map encU)
  refine mcN_of (D := []) Tryz.func290 rfl (by kernel_rfl) fun hn s ir k he hs => ?_
  refine sc_want hc he (h0) rfl rfl (by first | rfl | exact inc (by omega) | exact inc2 (by omega)) (fun h a' k' => ?_) (fun h1 lt1 k1 => ?_)
  ·rw [if_neg (by simp [h])] at ho; subst ho; exact rd_end hc ⟨a', k', rfl, rfl⟩
  rw [if_pos h1] at ho; try simp only [Out.bind_ok] at ho
  refine sc_place hc he (show at_ + 1 ≤ c.v.length by omega) rfl rfl rfl ?_
  refine sc_among (l := [⟨#[115, 116, 97, 116, 105, 99]⟩, ⟨#[101, 120, 116, 101, 114, 110]⟩]) hc he (show at_ + 1 ≤ c.v.length by omega) rfl rfl rfl (by decide) rfl (fun h3 lt3 => ?_) (fun h3 => ?_)
  ·rw [if_pos (by rw [h3]; rfl)] at ho
   refine sc_p hp (.decl .typed) (trivial) hc he (show at_ + 1 ≤ c.v.length by omega) rfl rfl rfl (by first | rfl | exact inc (by omega) | exact inc2 (by omega)) (fun σ ps h => rule_rel (m := .typed) h) (fun hx => hn (by rw [← ho, hx]; rfl)) (fun hx a' k' => ?_) (fun x1 j1 hx l1 u1 k2 => ?_)
   ·rw [hx] at ho; subst ho; exact rd_end hc ⟨a', k', rfl, rfl⟩
   rw [hx] at ho; try simp only [Out.bind_ok] at ho
   refine ⟨[encC x1], rfl, by simp, ?_⟩
   refine sc_own (n := 4) [encU x1] rfl rfl rfl ?_
   refine sc_node [x1] hc he u1 rfl rfl rfl rfl fun kN => ?_
   refine ⟨[encC (c.nodeN 37 ⟨#[]⟩ (c.place (at_ + 1)) j1 [x1])], rfl, by simp, ?_⟩
   refine sw_loop (D := []) ti_ok (by kernel_rfl) (fun m env st b => ∃ (j : Nat) (L : List Nd) (k : Int), m ≤ 2 ∧ j ≤ c.v.length ∧ L.length ≤ 5 ∧ L.length + m = 3 ∧ c.restF p fr m L j = o ∧ env = [(0, rdV), (1, intV (fr : Nat)), (4, .av (.cell 1 0)), (6, .av (.own 2)), (57, .av (.pv (.vec .tight [.lit (.int .i64 38), .lit (.int .i64 39)]))), (58, intV 2), (59, intV (2 - m : Nat))] ∧ st = [rdLoc c (j : Nat) k, zLoc, ownL L] ∧ b = s.upd ir none) 2 ⟨[0, 1, 3], [0, 1, 4, 6, 57, 58, 59], rfl, j1, [c.nodeN 37 ⟨#[]⟩ (c.place (at_ + 1)) j1 [x1]], _, by omega, by omega, by simp, by simp, ho, rfl, rfl, rfl⟩ ?_
   rintro m env st b ⟨j, L, kk4, hm2, hj, hL, hLm, hm, rfl, rfl, rfl⟩
   rintro (_ | _) ht
   ·have ht := of_decide_eq_false ht
    have hm0 : m = 0 := by omega
    subst hm0
    rw [Cx.restF] at hm
    refine sc_p hp (.stat) (trivial) hc he (hj) rfl rfl rfl (by first | rfl | exact inc (by omega) | exact inc2 (by omega)) (fun σ ps h => h.nil_inv) (fun hx => hn (by rw [← hm, hx]; rfl)) (fun hx a' k' => ?_) (fun x7 j7 hx l7 u7 kk7 => ?_)
    ·rw [hx] at hm; subst hm; exact rd_end hc ⟨a', k', rfl, rfl⟩
    rw [hx] at hm; try simp only [Out.bind_ok] at hm
    refine ⟨[encC x7], rfl, by simp; omega, ?_⟩
    subst hm
    refine sc_own (n := 4) ((L ++ [x7]).map encU) rfl rfl (by rw [ownL_cells, ownL_snoc]) ?_
    refine sc_node (L ++ [x7]) hc he (u7) rfl rfl (by first | rfl | exact inc (by omega) | exact inc2 (by omega)) rfl fun kN => ?_
    exact rd_end hc ⟨kN, rfl, rfl⟩
   have ht := of_decide_eq_true ht
   cases m with
   | zero => omega
   | succ m =>
   rw [Cx.restF] at hm
   simp only [Cx.want, Cx.perhaps] at hm
   have hq : 2 - (m + 1) = 1 - m := by omega
   have hq0 : 1 - m = 0 ∨ 1 - m = 1 := by omega
   have hx1 : ([.lit (.int .i64 38), .lit (.int .i64 39)] : List PV)[1 - m]? = some (.lit (.int .i64 (opOf (1 - m)))) := by rcases hq0 with h | h <;> rw [h] <;> rfl
   have hx2 : ([.lit (.string ⟨#[59]⟩), .lit (.string ⟨#[41]⟩)] : List PV)[1 - m]? = some (.lit (.string (sgOf (1 - m)))) := by rcases hq0 with h | h <;> rw [h] <;> rfl
   generalize hop : opOf (1 - m) = op at hm hx1
   generalize hsg : sgOf (1 - m) = sg at hm hx2
   refine ⟨.lit (.int .i64 op), ⟨by omega, by rw [Int.toNat_natCast, hq]; exact hx1, rfl⟩, ?_⟩
   refine ⟨.lit (.string sg), ⟨by omega, by rw [Int.toNat_natCast, hq]; exact hx2, rfl⟩, ?_⟩
   refine sc_place hc he hj rfl rfl rfl ?_
   refine sc_is hc he hj rfl rfl rfl (fun h2 lt2 => ?_) (fun h2 => ?_)
   ·rw [if_pos h2] at hm
    simp only [Out.bind_ok] at hm
    refine sc_part [] hc he hj rfl rfl rfl rfl fun kk5 => ?_
    refine ⟨[encC (c.partN op (c.place j) j [])], rfl, by simp; omega, ?_⟩
    refine sc_want hc he (hj) rfl rfl (by first | rfl | exact inc (by omega) | exact inc2 (by omega)) (fun h a' k' => ?_) (fun h3 lt3 kk6 => ?_)
    ·rw [if_neg (by simp [h])] at hm; subst hm; exact rd_end hc ⟨a', k', rfl, rfl⟩
    rw [if_pos h3] at hm; try simp only [Out.bind_ok] at hm
    refine ⟨m, by omega, [0, 1, 3], [0, 1, 4, 6, 57, 58, 59], rfl, j + 1, L ++ [c.partN op (c.place j) j []], kk6, by omega, by omega, by simp; omega, by simp; omega, hm, ?_, by unfold ownL; rw [← ownL_snoc]; rfl, rfl⟩
    have : IntKind.i64.wrap (((2 - (m + 1) : Nat) : Int) + 1) = ((2 - m : Nat) : Int) := by rw [inc (show 2 - (m + 1) ≤ 1000000000 by omega)]; congr 1; omega
    rw [← this]; rfl
   ·rw [if_neg (by simp [h2])] at hm
    refine sc_p hp (.expr) (trivial) hc he (hj) rfl rfl rfl (by first | rfl | exact inc (by omega) | exact inc2 (by omega)) (fun σ ps h => h.nil_inv) (fun hx => hn (by rw [← hm, hx]; rfl)) (fun hx a' k' => ?_) (fun x2 j2 hx l2 u2 kk5 => ?_)
    ·rw [hx] at hm; subst hm; exact rd_end hc ⟨a', k', rfl, rfl⟩
    rw [hx] at hm; try simp only [Out.bind_ok] at hm
    refine ⟨[encC x2], rfl, by simp, ?_⟩
    refine sc_own (n := 3) [encU x2] rfl rfl rfl ?_
    refine sc_part [x2] hc he u2 rfl rfl rfl rfl fun kk6 => ?_
    refine ⟨[encC (c.partN op (c.place j) j2 [x2])], rfl, by simp; omega, ?_⟩
    refine sc_want hc he (u2) rfl rfl (by first | rfl | exact inc (by omega) | exact inc2 (by omega)) (fun h a' k' => ?_) (fun h3 lt3 kk7 => ?_)
    ·rw [if_neg (by simp [h])] at hm; subst hm; exact rd_end hc ⟨a', k', rfl, rfl⟩
    rw [if_pos h3] at hm; try simp only [Out.bind_ok] at hm
    refine ⟨m, by omega, [0, 1, 4], [0, 1, 4, 6, 57, 58, 59], rfl, j2 + 1, L ++ [c.partN op (c.place j) j2 [x2]], kk7, by omega, by omega, by simp; omega, by simp; omega, hm, ?_, by unfold ownL; rw [← ownL_snoc]; rfl, rfl⟩
    have : IntKind.i64.wrap (((2 - (m + 1) : Nat) : Int) + 1) = ((2 - m : Nat) : Int) := by rw [inc (show 2 - (m + 1) ≤ 1000000000 by omega)]; congr 1; omega
    rw [← this]; rfl
  refine sc_begins .typed hc he (show at_ + 1 ≤ c.v.length by omega) rfl rfl rfl fun t ht => ?_
  rw [h3, ht, Bool.false_or] at ho
  cases t
  rotate_left
  ·rw [if_pos rfl] at ho
   refine sc_p hp (.decl .typed) (trivial) hc he (show at_ + 1 ≤ c.v.length by omega) rfl rfl rfl (by first | rfl | exact inc (by omega) | exact inc2 (by omega)) (fun σ ps h => rule_rel (m := .typed) h) (fun hx => hn (by rw [← ho, hx]; rfl)) (fun hx a' k' => ?_) (fun x1 j1 hx l1 u1 k2 => ?_)
   ·rw [hx] at ho; subst ho; exact rd_end hc ⟨a', k', rfl, rfl⟩
   rw [hx] at ho; try simp only [Out.bind_ok] at ho
   refine ⟨[encC x1], rfl, by simp, ?_⟩
   refine sc_own (n := 4) [encU x1] rfl rfl rfl ?_
   refine sc_node [x1] hc he u1 rfl rfl rfl rfl fun kN => ?_
   refine ⟨[encC (c.nodeN 37 ⟨#[]⟩ (c.place (at_ + 1)) j1 [x1])], rfl, by simp, ?_⟩
   refine sw_loop (D := []) ti_ok (by kernel_rfl) (fun m env st b => ∃ (j : Nat) (L : List Nd) (k : Int), m ≤ 2 ∧ j ≤ c.v.length ∧ L.length ≤ 5 ∧ L.length + m = 3 ∧ c.restF p fr m L j = o ∧ env = [(0, rdV), (1, intV (fr : Nat)), (4, .av (.cell 1 0)), (6, .av (.own 2)), (57, .av (.pv (.vec .tight [.lit (.int .i64 38), .lit (.int .i64 39)]))), (58, intV 2), (59, intV (2 - m : Nat))] ∧ st = [rdLoc c (j : Nat) k, zLoc, ownL L] ∧ b = s.upd ir none) 2 ⟨[0, 1, 3], [0, 1, 4, 6, 57, 58, 59], rfl, j1, [c.nodeN 37 ⟨#[]⟩ (c.place (at_ + 1)) j1 [x1]], _, by omega, by omega, by simp, by simp, ho, rfl, rfl, rfl⟩ ?_
   rintro m env st b ⟨j, L, kk4, hm2, hj, hL, hLm, hm, rfl, rfl, rfl⟩
   rintro (_ | _) ht
   ·have ht := of_decide_eq_false ht
    have hm0 : m = 0 := by omega
    subst hm0
    rw [Cx.restF] at hm
    refine sc_p hp (.stat) (trivial) hc he (hj) rfl rfl rfl (by first | rfl | exact inc (by omega) | exact inc2 (by omega)) (fun σ ps h => h.nil_inv) (fun hx => hn (by rw [← hm, hx]; rfl)) (fun hx a' k' => ?_) (fun x7 j7 hx l7 u7 kk7 => ?_)
    ·rw [hx] at hm; subst hm; exact rd_end hc ⟨a', k', rfl, rfl⟩
    rw [hx] at hm; try simp only [Out.bind_ok] at hm
    refine ⟨[encC x7], rfl, by simp; omega, ?_⟩
    subst hm
    refine sc_own (n := 4) ((L ++ [x7]).map encU) rfl rfl (by rw [ownL_cells, ownL_snoc]) ?_
    refine sc_node (L ++ [x7]) hc he (u7) rfl rfl (by first | rfl | exact inc (by omega) | exact inc2 (by omega)) rfl fun kN => ?_
    exact rd_end hc ⟨kN, rfl, rfl⟩
   have ht := of_decide_eq_true ht
   cases m with
   | zero => omega
   | succ m =>
   rw [Cx.restF] at hm
   simp only [Cx.want, Cx.perhaps] at hm
   have hq : 2 - (m + 1) = 1 - m := by omega
   have hq0 : 1 - m = 0 ∨ 1 - m = 1 := by omega
   have hx1 : ([.lit (.int .i64 38), .lit (.int .i64 39)] : List PV)[1 - m]? = some (.lit (.int .i64 (opOf (1 - m)))) := by rcases hq0 with h | h <;> rw [h] <;> rfl
   have hx2 : ([.lit (.string ⟨#[59]⟩), .lit (.string ⟨#[41]⟩)] : List PV)[1 - m]? = some (.lit (.string (sgOf (1 - m)))) := by rcases hq0 with h | h <;> rw [h] <;> rfl
   generalize hop : opOf (1 - m) = op at hm hx1
   generalize hsg : sgOf (1 - m) = sg at hm hx2
   refine ⟨.lit (.int .i64 op), ⟨by omega, by rw [Int.toNat_natCast, hq]; exact hx1, rfl⟩, ?_⟩
   refine ⟨.lit (.string sg), ⟨by omega, by rw [Int.toNat_natCast, hq]; exact hx2, rfl⟩, ?_⟩
   refine sc_place hc he hj rfl rfl rfl ?_
   refine sc_is hc he hj rfl rfl rfl (fun h2 lt2 => ?_) (fun h2 => ?_)
   ·rw [if_pos h2] at hm
    simp only [Out.bind_ok] at hm
    refine sc_part [] hc he hj rfl rfl rfl rfl fun kk5 => ?_
    refine ⟨[encC (c.partN op (c.place j) j [])], rfl, by simp; omega, ?_⟩
    refine sc_want hc he (hj) rfl rfl (by first | rfl | exact inc (by omega) | exact inc2 (by omega)) (fun h a' k' => ?_) (fun h3 lt3 kk6 => ?_)
    ·rw [if_neg (by simp [h])] at hm; subst hm; exact rd_end hc ⟨a', k', rfl, rfl⟩
    rw [if_pos h3] at hm; try simp only [Out.bind_ok] at hm
    refine ⟨m, by omega, [0, 1, 3], [0, 1, 4, 6, 57, 58, 59], rfl, j + 1, L ++ [c.partN op (c.place j) j []], kk6, by omega, by omega, by simp; omega, by simp; omega, hm, ?_, by unfold ownL; rw [← ownL_snoc]; rfl, rfl⟩
    have : IntKind.i64.wrap (((2 - (m + 1) : Nat) : Int) + 1) = ((2 - m : Nat) : Int) := by rw [inc (show 2 - (m + 1) ≤ 1000000000 by omega)]; congr 1; omega
    rw [← this]; rfl
   ·rw [if_neg (by simp [h2])] at hm
    refine sc_p hp (.expr) (trivial) hc he (hj) rfl rfl rfl (by first | rfl | exact inc (by omega) | exact inc2 (by omega)) (fun σ ps h => h.nil_inv) (fun hx => hn (by rw [← hm, hx]; rfl)) (fun hx a' k' => ?_) (fun x2 j2 hx l2 u2 kk5 => ?_)
    ·rw [hx] at hm; subst hm; exact rd_end hc ⟨a', k', rfl, rfl⟩
    rw [hx] at hm; try simp only [Out.bind_ok] at hm
    refine ⟨[encC x2], rfl, by simp, ?_⟩
    refine sc_own (n := 3) [encU x2] rfl rfl rfl ?_
    refine sc_part [x2] hc he u2 rfl rfl rfl rfl fun kk6 => ?_
    refine ⟨[encC (c.partN op (c.place j) j2 [x2])], rfl, by simp; omega, ?_⟩
    refine sc_want hc he (u2) rfl rfl (by first | rfl | exact inc (by omega) | exact inc2 (by omega)) (fun h a' k' => ?_) (fun h3 lt3 kk7 => ?_)
    ·rw [if_neg (by simp [h])] at hm; subst hm; exact rd_end hc ⟨a', k', rfl, rfl⟩
    rw [if_pos h3] at hm; try simp only [Out.bind_ok] at hm
    refine ⟨m, by omega, [0, 1, 4], [0, 1, 4, 6, 57, 58, 59], rfl, j2 + 1, L ++ [c.partN op (c.place j) j2 [x2]], kk7, by omega, by omega, by simp; omega, by simp; omega, hm, ?_, by unfold ownL; rw [← ownL_snoc]; rfl, rfl⟩
    have : IntKind.i64.wrap (((2 - (m + 1) : Nat) : Int) + 1) = ((2 - m : Nat) : Int) := by rw [inc (show 2 - (m + 1) ≤ 1000000000 by omega)]; congr 1; omega
    rw [← this]; rfl
  rw [if_neg (by simp)] at ho
  simp only [Cx.perhaps] at ho
  refine sc_is hc he (show at_ + 1 ≤ c.v.length by omega) rfl rfl rfl (fun h4 lt4 => ?_) (fun h4 => ?_)
  ·rw [if_pos h4] at ho
   simp only [Out.bind_ok] at ho
   rw [if_pos h4] at ho
   simp only [Out.bind_ok] at ho
   refine sc_part [] hc he (show at_ + 1 ≤ c.v.length by omega) rfl rfl rfl rfl fun kN => ?_
   refine ⟨[encC (c.partN 37 (c.place (at_ + 1)) (at_ + 1) [])], rfl, by simp, ?_⟩
   refine sc_want hc he (show at_ + 1 ≤ c.v.length by omega) rfl rfl rfl (fun h => by rw [h4] at h; cases h) (fun h5 lt5 kk5 => ?_)
   refine sw_loop (D := []) ti_ok (by kernel_rfl) (fun m env st b => ∃ (j : Nat) (L : List Nd) (k : Int), m ≤ 2 ∧ j ≤ c.v.length ∧ L.length ≤ 5 ∧ L.length + m = 3 ∧ c.restF p fr m L j = o ∧ env = [(0, rdV), (1, intV (fr : Nat)), (4, .av (.cell 1 0)), (6, .av (.own 2)), (57, .av (.pv (.vec .tight [.lit (.int .i64 38), .lit (.int .i64 39)]))), (58, intV 2), (59, intV (2 - m : Nat))] ∧ st = [rdLoc c (j : Nat) k, zLoc, ownL L] ∧ b = s.upd ir none) 2 ⟨[0, 1, 2], [0, 1, 4, 6, 57, 58, 59], rfl, at_ + 1 + 1, [c.partN 37 (c.place (at_ + 1)) (at_ + 1) []], _, by omega, by omega, by simp, by simp, ho, rfl, rfl, rfl⟩ ?_
   rintro m env st b ⟨j, L, kk4, hm2, hj, hL, hLm, hm, rfl, rfl, rfl⟩
   rintro (_ | _) ht
   ·have ht := of_decide_eq_false ht
    have hm0 : m = 0 := by omega
    subst hm0
    rw [Cx.restF] at hm
    refine sc_p hp (.stat) (trivial) hc he (hj) rfl rfl rfl (by first | rfl | exact inc (by omega) | exact inc2 (by omega)) (fun σ ps h => h.nil_inv) (fun hx => hn (by rw [← hm, hx]; rfl)) (fun hx a' k' => ?_) (fun x7 j7 hx l7 u7 kk7 => ?_)
    ·rw [hx] at hm; subst hm; exact rd_end hc ⟨a', k', rfl, rfl⟩
    rw [hx] at hm; try simp only [Out.bind_ok] at hm
    refine ⟨[encC x7], rfl, by simp; omega, ?_⟩
    subst hm
    refine sc_own (n := 4) ((L ++ [x7]).map encU) rfl rfl (by rw [ownL_cells, ownL_snoc]) ?_
    refine sc_node (L ++ [x7]) hc he (u7) rfl rfl (by first | rfl | exact inc (by omega) | exact inc2 (by omega)) rfl fun kN => ?_
    exact rd_end hc ⟨kN, rfl, rfl⟩
   have ht := of_decide_eq_true ht
   cases m with
   | zero => omega
   | succ m =>
   rw [Cx.restF] at hm
   simp only [Cx.want, Cx.perhaps] at hm
   have hq : 2 - (m + 1) = 1 - m := by omega
   have hq0 : 1 - m = 0 ∨ 1 - m = 1 := by omega
   have hx1 : ([.lit (.int .i64 38), .lit (.int .i64 39)] : List PV)[1 - m]? = some (.lit (.int .i64 (opOf (1 - m)))) := by rcases hq0 with h | h <;> rw [h] <;> rfl
   have hx2 : ([.lit (.string ⟨#[59]⟩), .lit (.string ⟨#[41]⟩)] : List PV)[1 - m]? = some (.lit (.string (sgOf (1 - m)))) := by rcases hq0 with h | h <;> rw [h] <;> rfl
   generalize hop : opOf (1 - m) = op at hm hx1
   generalize hsg : sgOf (1 - m) = sg at hm hx2
   refine ⟨.lit (.int .i64 op), ⟨by omega, by rw [Int.toNat_natCast, hq]; exact hx1, rfl⟩, ?_⟩
   refine ⟨.lit (.string sg), ⟨by omega, by rw [Int.toNat_natCast, hq]; exact hx2, rfl⟩, ?_⟩
   refine sc_place hc he hj rfl rfl rfl ?_
   refine sc_is hc he hj rfl rfl rfl (fun h2 lt2 => ?_) (fun h2 => ?_)
   ·rw [if_pos h2] at hm
    simp only [Out.bind_ok] at hm
    refine sc_part [] hc he hj rfl rfl rfl rfl fun kk5 => ?_
    refine ⟨[encC (c.partN op (c.place j) j [])], rfl, by simp; omega, ?_⟩
    refine sc_want hc he (hj) rfl rfl (by first | rfl | exact inc (by omega) | exact inc2 (by omega)) (fun h a' k' => ?_) (fun h3 lt3 kk6 => ?_)
    ·rw [if_neg (by simp [h])] at hm; subst hm; exact rd_end hc ⟨a', k', rfl, rfl⟩
    rw [if_pos h3] at hm; try simp only [Out.bind_ok] at hm
    refine ⟨m, by omega, [0, 1, 3], [0, 1, 4, 6, 57, 58, 59], rfl, j + 1, L ++ [c.partN op (c.place j) j []], kk6, by omega, by omega, by simp; omega, by simp; omega, hm, ?_, by unfold ownL; rw [← ownL_snoc]; rfl, rfl⟩
    have : IntKind.i64.wrap (((2 - (m + 1) : Nat) : Int) + 1) = ((2 - m : Nat) : Int) := by rw [inc (show 2 - (m + 1) ≤ 1000000000 by omega)]; congr 1; omega
    rw [← this]; rfl
   ·rw [if_neg (by simp [h2])] at hm
    refine sc_p hp (.expr) (trivial) hc he (hj) rfl rfl rfl (by first | rfl | exact inc (by omega) | exact inc2 (by omega)) (fun σ ps h => h.nil_inv) (fun hx => hn (by rw [← hm, hx]; rfl)) (fun hx a' k' => ?_) (fun x2 j2 hx l2 u2 kk5 => ?_)
    ·rw [hx] at hm; subst hm; exact rd_end hc ⟨a', k', rfl, rfl⟩
    rw [hx] at hm; try simp only [Out.bind_ok] at hm
    refine ⟨[encC x2], rfl, by simp, ?_⟩
    refine sc_own (n := 3) [encU x2] rfl rfl rfl ?_
    refine sc_part [x2] hc he u2 rfl rfl rfl rfl fun kk6 => ?_
    refine ⟨[encC (c.partN op (c.place j) j2 [x2])], rfl, by simp; omega, ?_⟩
    refine sc_want hc he (u2) rfl rfl (by first | rfl | exact inc (by omega) | exact inc2 (by omega)) (fun h a' k' => ?_) (fun h3 lt3 kk7 => ?_)
    ·rw [if_neg (by simp [h])] at hm; subst hm; exact rd_end hc ⟨a', k', rfl, rfl⟩
    rw [if_pos h3] at hm; try simp only [Out.bind_ok] at hm
    refine ⟨m, by omega, [0, 1, 4], [0, 1, 4, 6, 57, 58, 59], rfl, j2 + 1, L ++ [c.partN op (c.place j) j2 [x2]], kk7, by omega, by omega, by simp; omega, by simp; omega, hm, ?_, by unfold ownL; rw [← ownL_snoc]; rfl, rfl⟩
    have : IntKind.i64.wrap (((2 - (m + 1) : Nat) : Int) + 1) = ((2 - m : Nat) : Int) := by rw [inc (show 2 - (m + 1) ≤ 1000000000 by omega)]; congr 1; omega
    rw [← this]; rfl
  ·rw [if_neg (by simp [h4])] at ho
   refine sc_p hp (.expr) (trivial) hc he (show at_ + 1 ≤ c.v.length by omega) rfl rfl rfl (by first | rfl | exact inc (by omega) | exact inc2 (by omega)) (fun σ ps h => h.nil_inv) (fun hx => hn (by rw [← ho, hx]; rfl)) (fun hx a' k' => ?_) (fun x1 j1 hx l1 u1 k2 => ?_)
   ·rw [hx] at ho; subst ho; exact rd_end hc ⟨a', k', rfl, rfl⟩
   rw [hx] at ho; try simp only [Out.bind_ok] at ho
   refine ⟨[encC x1], rfl, by simp, ?_⟩
   refine sc_own (n := 3) [encU x1] rfl rfl rfl ?_
   refine sc_part [x1] hc he u1 rfl rfl rfl rfl fun kN => ?_
   refine ⟨[encC (c.partN 37 (c.place (at_ + 1)) j1 [x1])], rfl, by simp, ?_⟩
   refine sc_want hc he (u1) rfl rfl (by first | rfl | exact inc (by omega) | exact inc2 (by omega)) (fun h a' k' => ?_) (fun h5 lt5 kk5 => ?_)
   ·rw [if_neg (by simp [h])] at ho; subst ho; exact rd_end hc ⟨a', k', rfl, rfl⟩
   rw [if_pos h5] at ho; try simp only [Out.bind_ok] at ho
   refine sw_loop (D := []) ti_ok (by kernel_rfl) (fun m env st b => ∃ (j : Nat) (L : List Nd) (k : Int), m ≤ 2 ∧ j ≤ c.v.length ∧ L.length ≤ 5 ∧ L.length + m = 3 ∧ c.restF p fr m L j = o ∧ env = [(0, rdV), (1, intV (fr : Nat)), (4, .av (.cell 1 0)), (6, .av (.own 2)), (57, .av (.pv (.vec .tight [.lit (.int .i64 38), .lit (.int .i64 39)]))), (58, intV 2), (59, intV (2 - m : Nat))] ∧ st = [rdLoc c (j : Nat) k, zLoc, ownL L] ∧ b = s.upd ir none) 2 ⟨[0, 1, 3], [0, 1, 4, 6, 57, 58, 59], rfl, j1 + 1, [c.partN 37 (c.place (at_ + 1)) j1 [x1]], _, by omega, by omega, by simp, by simp, ho, rfl, rfl, rfl⟩ ?_
   rintro m env st b ⟨j, L, kk4, hm2, hj, hL, hLm, hm, rfl, rfl, rfl⟩
   rintro (_ | _) ht
   ·have ht := of_decide_eq_false ht
    have hm0 : m = 0 := by omega
    subst hm0
    rw [Cx.restF] at hm
    refine sc_p hp (.stat) (trivial) hc he (hj) rfl rfl rfl (by first | rfl | exact inc (by omega) | exact inc2 (by omega)) (fun σ ps h => h.nil_inv) (fun hx => hn (by rw [← hm, hx]; rfl)) (fun hx a' k' => ?_) (fun x7 j7 hx l7 u7 kk7 => ?_)
    ·rw [hx] at hm; subst hm; exact rd_end hc ⟨a', k', rfl, rfl⟩
    rw [hx] at hm; try simp only [Out.bind_ok] at hm
    refine ⟨[encC x7], rfl, by simp; omega, ?_⟩
    subst hm
    refine sc_own (n := 4) ((L ++ [x7]).map encU) rfl rfl (by rw [ownL_cells, ownL_snoc]) ?_
    refine sc_node (L ++ [x7]) hc he (u7) rfl rfl (by first | rfl | exact inc (by omega) | exact inc2 (by omega)) rfl fun kN => ?_
    exact rd_end hc ⟨kN, rfl, rfl⟩
   have ht := of_decide_eq_true ht
   cases m with
   | zero => omega
   | succ m =>
   rw [Cx.restF] at hm
   simp only [Cx.want, Cx.perhaps] at hm
   have hq : 2 - (m + 1) = 1 - m := by omega
   have hq0 : 1 - m = 0 ∨ 1 - m = 1 := by omega
   have hx1 : ([.lit (.int .i64 38), .lit (.int .i64 39)] : List PV)[1 - m]? = some (.lit (.int .i64 (opOf (1 - m)))) := by rcases hq0 with h | h <;> rw [h] <;> rfl
   have hx2 : ([.lit (.string ⟨#[59]⟩), .lit (.string ⟨#[41]⟩)] : List PV)[1 - m]? = some (.lit (.string (sgOf (1 - m)))) := by rcases hq0 with h | h <;> rw [h] <;> rfl
   generalize hop : opOf (1 - m) = op at hm hx1
   generalize hsg : sgOf (1 - m) = sg at hm hx2
   refine ⟨.lit (.int .i64 op), ⟨by omega, by rw [Int.toNat_natCast, hq]; exact hx1, rfl⟩, ?_⟩
   refine ⟨.lit (.string sg), ⟨by omega, by rw [Int.toNat_natCast, hq]; exact hx2, rfl⟩, ?_⟩
   refine sc_place hc he hj rfl rfl rfl ?_
   refine sc_is hc he hj rfl rfl rfl (fun h2 lt2 => ?_) (fun h2 => ?_)
   ·rw [if_pos h2] at hm
    simp only [Out.bind_ok] at hm
    refine sc_part [] hc he hj rfl rfl rfl rfl fun kk5 => ?_
    refine ⟨[encC (c.partN op (c.place j) j [])], rfl, by simp; omega, ?_⟩
    refine sc_want hc he (hj) rfl rfl (by first | rfl | exact inc (by omega) | exact inc2 (by omega)) (fun h a' k' => ?_) (fun h3 lt3 kk6 => ?_)
    ·rw [if_neg (by simp [h])] at hm; subst hm; exact rd_end hc ⟨a', k', rfl, rfl⟩
    rw [if_pos h3] at hm; try simp only [Out.bind_ok] at hm
    refine ⟨m, by omega, [0, 1, 3], [0, 1, 4, 6, 57, 58, 59], rfl, j + 1, L ++ [c.partN op (c.place j) j []], kk6, by omega, by omega, by simp; omega, by simp; omega, hm, ?_, by unfold ownL; rw [← ownL_snoc]; rfl, rfl⟩
    have : IntKind.i64.wrap (((2 - (m + 1) : Nat) : Int) + 1) = ((2 - m : Nat) : Int) := by rw [inc (show 2 - (m + 1) ≤ 1000000000 by omega)]; congr 1; omega
    rw [← this]; rfl
   ·rw [if_neg (by simp [h2])] at hm
    refine sc_p hp (.expr) (trivial) hc he (hj) rfl rfl rfl (by first | rfl | exact inc (by omega) | exact inc2 (by omega)) (fun σ ps h => h.nil_inv) (fun hx => hn (by rw [← hm, hx]; rfl)) (fun hx a' k' => ?_) (fun x2 j2 hx l2 u2 kk5 => ?_)
    ·rw [hx] at hm; subst hm; exact rd_end hc ⟨a', k', rfl, rfl⟩
    rw [hx] at hm; try simp only [Out.bind_ok] at hm
    refine ⟨[encC x2], rfl, by simp, ?_⟩
    refine sc_own (n := 3) [encU x2] rfl rfl rfl ?_
    refine sc_part [x2] hc he u2 rfl rfl rfl rfl fun kk6 => ?_
    refine ⟨[encC (c.partN op (c.place j) j2 [x2])], rfl, by simp; omega, ?_⟩
    refine sc_want hc he (u2) rfl rfl (by first | rfl | exact inc (by omega) | exact inc2 (by omega)) (fun h a' k' => ?_) (fun h3 lt3 kk7 => ?_)
    ·rw [if_neg (by simp [h])] at hm; subst hm; exact rd_end hc ⟨a', k', rfl, rfl⟩
    rw [if_pos h3] at hm; try simp only [Out.bind_ok] at hm
    refine ⟨m, by omega, [0, 1, 4], [0, 1, 4, 6, 57, 58, 59], rfl, j2 + 1, L ++ [c.partN op (c.place j) j2 [x2]], kk7, by omega, by omega, by simp; omega, by simp; omega, hm, ?_, by unfold ownL; rw [← ownL_snoc]; rfl, rfl⟩
    have : IntKind.i64.wrap (((2 - (m + 1) : Nat) : Int) + 1) = ((2 - m : Nat) : Int) := by rw [inc (show 2 - (m + 1) ≤ 1000000000 by omega)]; congr 1; omega
    rw [← this]; rfl
 ·rw [loopS_eq]
  refine .want hc rfl fun h1 => .bind ?_ fun l j h2 h3 => restF_ole hc hp fr 2 l h2 h3
  split
  ·exact .bind ((hp.ole (.decl .typed) trivial (by omega)).lo (by omega)) fun d j h2 h3 => .ok h2 h3
  ·exact .bind (perhaps_ole hc hp (by omega) (by omega)) fun l j h2 h3 => .want hc rfl fun h4 => .ok (by omega) (by omega)
end
end Go.Pv

namespace Go.Pv
open Go.Proofs
set_option linter.unusedVariables false
set_option linter.unusedSimpArgs false
set_option maxRecDepth 100000
set_option maxHeartbeats 4000000
theorem OLe.ite {α : Type} {i n : Nat} {P : Prop} [Decidable P] {a b : Out α} (h1 : P → OLe a i n) (h2 : ¬P → OLe b i n) : OLe (if P then a else b) i n := by
 by_cases h : P
 ·rw [if_pos h]; exact h1 h
 ·rw [if_neg h]; exact h2 h
def brkB : ByteArray := ⟨#[98, 114, 101, 97, 107]⟩
def cntB : ByteArray := ⟨#[99, 111, 110, 116, 105, 110, 117, 101]⟩
@[reducible] def plainD : List (ByteArray × PV) := [(brkB, .lit (.int .i64 31)), (cntB, .lit (.int .i64 32))]
theorem plain_c (s : St) : PCalls Tryz.prog 287 [] s fun r s' => ∃ i, Fresh s i ∧ r = .ret (.mp i) ∧ s' = s.upd i (some (.dict plainD)) := by
 refine PCalls.fun (D := []) ti_ok Tryz.func287 rfl (by kernel_rfl) ?_
 intro i hi
 refine ⟨_, St.upd_same _ _ _, ?_⟩
 refine ⟨_, St.upd_same _ _ _, ?_⟩
 exact ⟨i, hi, rfl, by simp only [St.upd_upd]; rfl⟩
theorem sc2_plain {imp : List Nat} {st : SS} {b : St} {K : SV → SS → St → Prop} (hK : ∀ i, Fresh b i → K (.av (.pv (.mp i))) st (b.upd i (some (.dict plainD)))) : SC2 Tryz.prog imp 287 [] st b K := by
 intro σ s qs hR hA
 rw [hA.nil_inv]
 refine (plain_c s).mono ?_
 rintro _ s' ⟨i, hi, rfl, rfl⟩
 have hsn : ∀ k l, st[k]? = some (some l) → l.has = true → σ k ≠ i := fun k l hk hl e => by
  have := hR.loc k l hk
  rw [e] at this
  cases l with
  | cel ty sz cs => obtain ⟨ps, _, h2⟩ := this; rw [show s i = none from hi] at h2; cases h2
  | lst ty sz els =>
   cases els with
   | nil => cases hl
   | cons c els => have h2 : s i = _ := this; rw [show s i = none from hi] at h2; cases h2
 have hbi : b i = none := by
  cases hb : b i with
  | none => rfl
  | some x => have := hR.sub i x hb; rw [show s i = none from hi] at this; cases this
 refine ⟨fun k c hk => ?_, σ, st, b.upd i (some (.dict plainD)), .av (.pv (.mp i)), .refl, ⟨fun k c hk => ?_, hR.imp, fun k l hk hl => ?_, hR.inj, fun k l hk => ?_⟩, Or.inr rfl, hK i hbi⟩
 ·have hki : k ≠ i := fun e => by subst e; rw [show s k = none from hi] at hk; cases hk
  rw [St.upd_ne _ _ hki]; exact hk
 ·by_cases hki : k = i
  ·subst hki; rw [St.upd_same] at hk ⊢; exact hk
  ·rw [St.upd_ne _ _ hki] at hk ⊢; exact hR.sub k c hk
 ·show (b.upd i _) _ = none
  rw [St.upd_ne _ _ (hsn k l hk hl)]; exact hR.fr k l hk hl
 ·have := hR.loc k l hk
  cases l with
  | cel ty sz cs => obtain ⟨ps, h1, h2⟩ := this; exact ⟨ps, h1, by rw [St.upd_ne _ _ (hsn k _ hk rfl)]; exact h2⟩
  | lst ty sz els =>
   cases els with
   | nil => exact trivial
   | cons c els => show (s.upd i _) (σ k) = _; rw [St.upd_ne _ _ (hsn k _ hk rfl)]; exact this
section
variable {c : Cx} {p : NT → Nat → Out Nd} {s : St} {ir : Nat} {at_ n : Nat} {k : Int}
theorem stat_t (hc : c.ok) (hp : PH c p) : Told c .stat (c.statS p) := by
 refine told_of (fun at_ h0 => ?_) (fun at_ h0 => ?_)
 ·have hvl := hc.vl
  have hpl := place_le hc at_
  obtain ⟨o, ho⟩ : ∃ o, c.statS p at_ = o := ⟨_, rfl⟩
  rw [ho]
  unfold Cx.statS at ho
  simp only [Cx.want] at ho
  show MC c 254 [] at_ (o.map encU)
  refine mcN_of (D := [(3, ([1, 2, 0, 3, 4, 5, 6, 7, 8], [(0, 2)], []))]) Tryz.func254 rfl (by kernel_rfl) fun hn s ir k he hs => ?_
  refine sc_place hc he h0 rfl rfl rfl ?_
  refine sc_tok hc he h0 rfl rfl rfl ?_
  refine ⟨by kernel_rfl, ?_⟩
  refine sc2_plain fun ip hip => ?_
  have hsub := St.upd_fresh (x := some (.dict plainD)) (sub_refl (s := s.upd ir none)) hip
  refine ⟨_, St.upd_same _ _ _, fun r hr => ?_⟩
  by_cases e1 : c.text at_ = brkB
  ·rw [show (c.tk at_).text = brkB from e1] at hr
   obtain rfl : r = some (.lit (.int .i64 31)) := hr.symm
   rintro (_ | _) k1
   ·have k1 : c.kind at_ ≠ 2 := of_decide_eq_false k1
    rw [if_neg (fun h => k1 h.1), if_neg (fun h => k1 h.1)] at ho
    refine sc_sub hsub ?_
    refine sc_meta hc he h0 rfl rfl rfl ?_
    rintro (_ | _) m1
    rotate_left
    ·exact absurd (of_decide_eq_true m1) (by decide)
    refine sc_is hc he h0 rfl rfl rfl (fun hqa lta => ?_) (fun hqa => ?_)
    ·rw [if_pos hqa] at ho
     refine sc_p hp (.block) (trivial) hc he (h0) rfl rfl rfl (by first | rfl | exact inc (by omega) | exact inc2 (by omega)) (fun σ ps h => h.nil_inv) (fun hx => hn (by rw [← ho, hx]; rfl)) (fun hx a' k' => ?_) (fun x1 j1 hx l1 u1 kk1 => ?_)
     ·rw [hx] at ho; subst ho; exact rd_end hc ⟨a', k', rfl, rfl⟩
     rw [hx] at ho; try simp only [Out.bind_ok] at ho
     subst ho
     exact rd_end hc ⟨_, rfl, rfl⟩
    rw [if_neg (by simp [hqa])] at ho
    refine sc_eat hc he h0 rfl rfl rfl (fun hqb ltb kqb => ?_) (fun hqb kqb => ?_)
    ·rw [if_pos hqb] at ho
     subst ho
     refine sc_node ([]) hc he (show at_ + 1 ≤ c.v.length by omega) rfl rfl (by first | rfl | exact inc (by omega) | exact inc2 (by omega)) rfl fun kN => ?_
     exact rd_end hc ⟨kN, rfl, rfl⟩
    rw [if_neg (by simp [hqb])] at ho
    refine sc_eat hc he h0 rfl rfl rfl (fun hqc ltc kqc => ?_) (fun hqc kqc => ?_)
    ·rw [if_pos hqc] at ho
     refine sc_p hp (.nested) (trivial) hc he (show at_ + 1 ≤ c.v.length by omega) rfl rfl rfl (by first | rfl | exact inc (by omega) | exact inc2 (by omega)) (fun σ ps h => h.nil_inv) (fun hx => hn (by rw [← ho, hx]; rfl)) (fun hx a' k' => ?_) (fun x1 j1 hx l1 u1 kk1 => ?_)
     ·rw [hx] at ho; subst ho; exact rd_end hc ⟨a', k', rfl, rfl⟩
     rw [hx] at ho; try simp only [Out.bind_ok] at ho
     refine sc_p hp (.stat) (trivial) hc he (u1) rfl rfl rfl (by first | rfl | exact inc (by omega) | exact inc2 (by omega)) (fun σ ps h => h.nil_inv) (fun hx => hn (by rw [← ho, hx]; rfl)) (fun hx a' k' => ?_) (fun x2 j2 hx l2 u2 kk2 => ?_)
     ·rw [hx] at ho; subst ho; exact rd_end hc ⟨a', k', rfl, rfl⟩
     rw [hx] at ho; try simp only [Out.bind_ok] at ho
     refine ⟨[encC x2], rfl, [encC x1], rfl, by simp, ?_⟩
     refine sc_eat hc he u2 rfl rfl rfl (fun h3 lt3 kk3 => ?_) (fun h3 kk3 => ?_)
     ·rw [if_pos h3] at ho
      refine sc_p hp (.stat) (trivial) hc he (show j2 + 1 ≤ c.v.length by omega) rfl rfl rfl (by first | rfl | exact inc (by omega) | exact inc2 (by omega)) (fun σ ps h => h.nil_inv) (fun hx => hn (by rw [← ho, hx]; rfl)) (fun hx a' k' => ?_) (fun x4 j4 hx l4 u4 kk4 => ?_)
      ·rw [hx] at ho; subst ho; exact rd_end hc ⟨a', k', rfl, rfl⟩
      rw [hx] at ho; try simp only [Out.bind_ok] at ho
      refine ⟨[encC x4], rfl, by simp, ?_⟩
      subst ho
      refine sc_own (n := 4) [encU x1, encU x2, encU x4] rfl rfl rfl ?_
      refine sc_node ([x1, x2, x4]) hc he (u4) rfl rfl (by first | rfl | exact inc (by omega) | exact inc2 (by omega)) rfl fun kN => ?_
      exact rd_end hc ⟨kN, rfl, rfl⟩
     ·rw [if_neg (by simp [h3])] at ho
      subst ho
      refine sc_own (n := 4) [encU x1, encU x2] rfl rfl rfl ?_
      refine sc_node ([x1, x2]) hc he (u2) rfl rfl (by first | rfl | exact inc (by omega) | exact inc2 (by omega)) rfl fun kN => ?_
      exact rd_end hc ⟨kN, rfl, rfl⟩
    rw [if_neg (by simp [hqc])] at ho
    refine sc_eat hc he h0 rfl rfl rfl (fun hqd ltd kqd => ?_) (fun hqd kqd => ?_)
    ·rw [if_pos hqd] at ho
     refine sc_p hp (.nested) (trivial) hc he (show at_ + 1 ≤ c.v.length by omega) rfl rfl rfl (by first | rfl | exact inc (by omega) | exact inc2 (by omega)) (fun σ ps h => h.nil_inv) (fun hx => hn (by rw [← ho, hx]; rfl)) (fun hx a' k' => ?_) (fun x1 j1 hx l1 u1 kk1 => ?_)
     ·rw [hx] at ho; subst ho; exact rd_end hc ⟨a', k', rfl, rfl⟩
     rw [hx] at ho; try simp only [Out.bind_ok] at ho
     refine sc_p hp (.stat) (trivial) hc he (u1) rfl rfl rfl (by first | rfl | exact inc (by omega) | exact inc2 (by omega)) (fun σ ps h => h.nil_inv) (fun hx => hn (by rw [← ho, hx]; rfl)) (fun hx a' k' => ?_) (fun x2 j2 hx l2 u2 kk2 => ?_)
     ·rw [hx] at ho; subst ho; exact rd_end hc ⟨a', k', rfl, rfl⟩
     rw [hx] at ho; try simp only [Out.bind_ok] at ho
     subst ho
     refine sc_node ([x1, x2]) hc he (u2) rfl rfl (by first | rfl | exact inc (by omega) | exact inc2 (by omega)) rfl fun kN => ?_
     exact rd_end hc ⟨kN, rfl, rfl⟩
    rw [if_neg (by simp [hqd])] at ho
    refine sc_eat hc he h0 rfl rfl rfl (fun hqe lte kqe => ?_) (fun hqe kqe => ?_)
    ·rw [if_pos hqe] at ho
     refine sc_p hp (.nested) (trivial) hc he (show at_ + 1 ≤ c.v.length by omega) rfl rfl rfl (by first | rfl | exact inc (by omega) | exact inc2 (by omega)) (fun σ ps h => h.nil_inv) (fun hx => hn (by rw [← ho, hx]; rfl)) (fun hx a' k' => ?_) (fun x1 j1 hx l1 u1 kk1 => ?_)
     ·rw [hx] at ho; subst ho; exact rd_end hc ⟨a', k', rfl, rfl⟩
     rw [hx] at ho; try simp only [Out.bind_ok] at ho
     refine sc_p hp (.stat) (trivial) hc he (u1) rfl rfl rfl (by first | rfl | exact inc (by omega) | exact inc2 (by omega)) (fun σ ps h => h.nil_inv) (fun hx => hn (by rw [← ho, hx]; rfl)) (fun hx a' k' => ?_) (fun x2 j2 hx l2 u2 kk2 => ?_)
     ·rw [hx] at ho; subst ho; exact rd_end hc ⟨a', k', rfl, rfl⟩
     rw [hx] at ho; try simp only [Out.bind_ok] at ho
     subst ho
     refine sc_node ([x1, x2]) hc he (u2) rfl rfl (by first | rfl | exact inc (by omega) | exact inc2 (by omega)) rfl fun kN => ?_
     exact rd_end hc ⟨kN, rfl, rfl⟩
    rw [if_neg (by simp [hqe])] at ho
    refine sc_eat hc he h0 rfl rfl rfl (fun hqf ltf kqf => ?_) (fun hqf kqf => ?_)
    ·rw [if_pos hqf] at ho
     refine sc_p hp (.stat) (trivial) hc he (show at_ + 1 ≤ c.v.length by omega) rfl rfl rfl (by first | rfl | exact inc (by omega) | exact inc2 (by omega)) (fun σ ps h => h.nil_inv) (fun hx => hn (by rw [← ho, hx]; rfl)) (fun hx a' k' => ?_) (fun x1 j1 hx l1 u1 kk1 => ?_)
     ·rw [hx] at ho; subst ho; exact rd_end hc ⟨a', k', rfl, rfl⟩
     rw [hx] at ho; try simp only [Out.bind_ok] at ho
     refine sc_want hc he (u1) rfl rfl (by first | rfl | exact inc (by omega) | exact inc2 (by omega)) (fun h a' k' => ?_) (fun h3 lt3 kk3 => ?_)
     ·rw [if_neg (by simp [h])] at ho; subst ho; exact rd_end hc ⟨a', k', rfl, rfl⟩
     rw [if_pos h3] at ho; try simp only [Out.bind_ok] at ho
     refine sc_p hp (.nested) (trivial) hc he (show j1 + 1 ≤ c.v.length by omega) rfl rfl rfl (by first | rfl | exact inc (by omega) | exact inc2 (by omega)) (fun σ ps h => h.nil_inv) (fun hx => hn (by rw [← ho, hx]; rfl)) (fun hx a' k' => ?_) (fun x2 j2 hx l2 u2 kk2 => ?_)
     ·rw [hx] at ho; subst ho; exact rd_end hc ⟨a', k', rfl, rfl⟩
     rw [hx] at ho; try simp only [Out.bind_ok] at ho
     refine sc_want hc he (u2) rfl rfl (by first | rfl | exact inc (by omega) | exact inc2 (by omega)) (fun h a' k' => ?_) (fun h4 lt4 kk4 => ?_)
     ·rw [if_neg (by simp [h])] at ho; subst ho; exact rd_end hc ⟨a', k', rfl, rfl⟩
     rw [if_pos h4] at ho; try simp only [Out.bind_ok] at ho
     subst ho
     refine sc_node ([x1, x2]) hc he (show j2 + 1 ≤ c.v.length by omega) rfl rfl (by first | rfl | exact inc (by omega) | exact inc2 (by omega)) rfl fun kN => ?_
     exact rd_end hc ⟨kN, rfl, rfl⟩
    rw [if_neg (by simp [hqf])] at ho
    refine sc_eat hc he h0 rfl rfl rfl (fun hqg ltg kqg => ?_) (fun hqg kqg => ?_)
    ·rw [if_pos hqg] at ho
     refine sc_p hp (.loop (c.place at_)) (hpl) hc he (show at_ + 1 ≤ c.v.length by omega) rfl rfl rfl (by first | rfl | exact inc (by omega) | exact inc2 (by omega)) (fun σ ps h => pvs_rel (ps := [.lit (.int .i64 (c.place at_ : Nat))]) rfl h) (fun hx => hn (by rw [← ho, hx]; rfl)) (fun hx a' k' => ?_) (fun x1 j1 hx l1 u1 kk1 => ?_)
     ·rw [hx] at ho; subst ho; exact rd_end hc ⟨a', k', rfl, rfl⟩
     rw [hx] at ho; try simp only [Out.bind_ok] at ho
     subst ho
     exact rd_end hc ⟨_, rfl, rfl⟩
    rw [if_neg (by simp [hqg])] at ho
    refine sc_eat hc he h0 rfl rfl rfl (fun hqh lth kqh => ?_) (fun hqh kqh => ?_)
    ·rw [if_pos hqh] at ho
     refine sc_p hp (.expr) (trivial) hc he (show at_ + 1 ≤ c.v.length by omega) rfl rfl rfl (by first | rfl | exact inc (by omega) | exact inc2 (by omega)) (fun σ ps h => h.nil_inv) (fun hx => hn (by rw [← ho, hx]; rfl)) (fun hx a' k' => ?_) (fun x1 j1 hx l1 u1 kk1 => ?_)
     ·rw [hx] at ho; subst ho; exact rd_end hc ⟨a', k', rfl, rfl⟩
     rw [hx] at ho; try simp only [Out.bind_ok] at ho
     refine sc_want hc he (u1) rfl rfl (by first | rfl | exact inc (by omega) | exact inc2 (by omega)) (fun h a' k' => ?_) (fun h3 lt3 kk3 => ?_)
     ·rw [if_neg (by simp [h])] at ho; subst ho; exact rd_end hc ⟨a', k', rfl, rfl⟩
     rw [if_pos h3] at ho; try simp only [Out.bind_ok] at ho
     refine sc_p hp (.marked) (trivial) hc he (show j1 + 1 ≤ c.v.length by omega) rfl rfl rfl (by first | rfl | exact inc (by omega) | exact inc2 (by omega)) (fun σ ps h => h.nil_inv) (fun hx => hn (by rw [← ho, hx]; rfl)) (fun hx a' k' => ?_) (fun x2 j2 hx l2 u2 kk2 => ?_)
     ·rw [hx] at ho; subst ho; exact rd_end hc ⟨a', k', rfl, rfl⟩
     rw [hx] at ho; try simp only [Out.bind_ok] at ho
     subst ho
     refine sc_node ([x1, x2]) hc he (u2) rfl rfl (by first | rfl | exact inc (by omega) | exact inc2 (by omega)) rfl fun kN => ?_
     exact rd_end hc ⟨kN, rfl, rfl⟩
    rw [if_neg (by simp [hqh])] at ho
    refine sc_eat hc he h0 rfl rfl rfl (fun hqi lti kqi => ?_) (fun hqi kqi => ?_)
    ·rw [if_pos hqi] at ho
     refine sc_want hc he (show at_ + 1 ≤ c.v.length by omega) rfl rfl (by first | rfl | exact inc (by omega) | exact inc2 (by omega)) (fun h a' k' => ?_) (fun h3 lt3 kk3 => ?_)
     ·rw [if_neg (by simp [h])] at ho; subst ho; exact rd_end hc ⟨a', k', rfl, rfl⟩
     rw [if_pos h3] at ho; try simp only [Out.bind_ok] at ho
     refine sc_p hp (.marked) (trivial) hc he (show at_ + 1 + 1 ≤ c.v.length by omega) rfl rfl rfl (by first | rfl | exact inc (by omega) | exact inc2 (by omega)) (fun σ ps h => h.nil_inv) (fun hx => hn (by rw [← ho, hx]; rfl)) (fun hx a' k' => ?_) (fun x2 j2 hx l2 u2 kk2 => ?_)
     ·rw [hx] at ho; subst ho; exact rd_end hc ⟨a', k', rfl, rfl⟩
     rw [hx] at ho; try simp only [Out.bind_ok] at ho
     subst ho
     refine sc_node ([x2]) hc he (u2) rfl rfl (by first | rfl | exact inc (by omega) | exact inc2 (by omega)) rfl fun kN => ?_
     exact rd_end hc ⟨kN, rfl, rfl⟩
    rw [if_neg (by simp [hqi])] at ho
    refine sc_eat hc he h0 rfl rfl rfl (fun hqj ltj kqj => ?_) (fun hqj kqj => ?_)
    ·rw [if_pos hqj] at ho
     refine sc_name hc he (show at_ + 1 ≤ c.v.length by omega) rfl rfl rfl (fun h a' k' => ?_) (fun h lt kk5 => ?_)
     ·rw [if_neg h] at ho; subst ho; exact rd_end hc ⟨a', k', rfl, rfl⟩
     rw [if_pos h] at ho
     refine sc_want hc he (show at_ + 2 ≤ c.v.length by omega) rfl rfl (by first | rfl | exact inc (by omega) | exact inc2 (by omega)) (fun h a' k' => ?_) (fun h3 lt3 kk3 => ?_)
     ·rw [if_neg (by simp [h])] at ho; subst ho; exact rd_end hc ⟨a', k', rfl, rfl⟩
     rw [if_pos h3] at ho; try simp only [Out.bind_ok] at ho
     subst ho
     refine sc_node ([]) hc he (show at_ + 2 + 1 ≤ c.v.length by omega) rfl rfl (by first | rfl | exact inc (by omega) | exact inc2 (by omega)) rfl fun kN => ?_
     exact rd_end hc ⟨kN, rfl, rfl⟩
    rw [if_neg (by simp [hqj])] at ho
    refine sc_eat hc he h0 rfl rfl rfl (fun hqk ltk kqk => ?_) (fun hqk kqk => ?_)
    ·rw [if_pos hqk] at ho
     refine sc_is hc he (show at_ + 1 ≤ c.v.length by omega) rfl rfl rfl (fun h3 lt3 => ?_) (fun h3 => ?_)
     ·rw [if_pos h3] at ho
      simp only [Out.bind_ok] at ho
      rw [if_pos h3] at ho
      refine sc_want hc he (show at_ + 1 ≤ c.v.length by omega) rfl rfl rfl (fun h => by rw [h3] at h; cases h) (fun h5 lt5 kk5 => ?_)
      subst ho
      refine sc_node ([]) hc he (show at_ + 1 + 1 ≤ c.v.length by omega) rfl rfl (by first | rfl | exact inc (by omega) | exact inc2 (by omega)) rfl fun kN => ?_
      exact rd_end hc ⟨kN, rfl, rfl⟩
     ·rw [if_neg (by simp [h3])] at ho
      refine sc_p hp (.expr) (trivial) hc he (show at_ + 1 ≤ c.v.length by omega) rfl rfl rfl (by first | rfl | exact inc (by omega) | exact inc2 (by omega)) (fun σ ps h => h.nil_inv) (fun hx => hn (by rw [← ho, hx]; rfl)) (fun hx a' k' => ?_) (fun x1 j1 hx l1 u1 kk1 => ?_)
      ·rw [hx] at ho; subst ho; exact rd_end hc ⟨a', k', rfl, rfl⟩
      rw [hx] at ho; try simp only [Out.bind_ok] at ho
      refine ⟨[encC x1], rfl, by simp, ?_⟩
      refine sc_want hc he (u1) rfl rfl (by first | rfl | exact inc (by omega) | exact inc2 (by omega)) (fun h a' k' => ?_) (fun h5 lt5 kk5 => ?_)
      ·rw [if_neg (by simp [h])] at ho; subst ho; exact rd_end hc ⟨a', k', rfl, rfl⟩
      rw [if_pos h5] at ho; try simp only [Out.bind_ok] at ho
      subst ho
      refine sc_own (n := 4) [encU x1] rfl rfl rfl ?_
      refine sc_node ([x1]) hc he (show j1 + 1 ≤ c.v.length by omega) rfl rfl (by first | rfl | exact inc (by omega) | exact inc2 (by omega)) rfl fun kN => ?_
      exact rd_end hc ⟨kN, rfl, rfl⟩
    rw [if_neg (by simp [hqk])] at ho
    refine sc_p hp (.other (c.place at_)) (hpl) hc he (h0) rfl rfl rfl (by first | rfl | exact inc (by omega) | exact inc2 (by omega)) (fun σ ps h => pvs_rel (ps := [.lit (.int .i64 (c.place at_ : Nat))]) rfl h) (fun hx => hn (by rw [← ho, hx]; rfl)) (fun hx a' k' => ?_) (fun x1 j1 hx l1 u1 kk1 => ?_)
    ·rw [hx] at ho; subst ho; exact rd_end hc ⟨a', k', rfl, rfl⟩
    rw [hx] at ho; try simp only [Out.bind_ok] at ho
    subst ho
    exact rd_end hc ⟨_, rfl, rfl⟩
   ·have k1 : c.kind at_ = 2 := of_decide_eq_true k1
    have hlt := hc.ltk (at_ := at_) (by rw [show (c.tk at_).kind = 2 from k1]; decide)
    rw [if_pos ⟨k1, e1⟩] at ho
    refine sc_sub hsub ?_
    refine sc_want hc he (show at_ + 1 ≤ c.v.length by omega) rfl rfl (by first | rfl | exact inc (by omega) | exact inc2 (by omega)) (fun h a' k' => ?_) (fun h3 lt3 kk3 => ?_)
    ·rw [if_neg (by simp [h])] at ho; subst ho; exact rd_end hc ⟨a', k', rfl, rfl⟩
    rw [if_pos h3] at ho; try simp only [Out.bind_ok] at ho
    subst ho
    refine sc_node ([]) hc he (show at_ + 1 + 1 ≤ c.v.length by omega) rfl rfl (by first | rfl | exact inc (by omega) | exact inc2 (by omega)) rfl fun kN => ?_
    exact rd_end hc ⟨kN, rfl, rfl⟩
  by_cases e2 : c.text at_ = cntB
  ·rw [show (c.tk at_).text = cntB from e2] at hr
   obtain rfl : r = some (.lit (.int .i64 32)) := hr.symm
   rintro (_ | _) k1
   ·have k1 : c.kind at_ ≠ 2 := of_decide_eq_false k1
    rw [if_neg (fun h => k1 h.1), if_neg (fun h => k1 h.1)] at ho
    refine sc_sub hsub ?_
    refine sc_meta hc he h0 rfl rfl rfl ?_
    rintro (_ | _) m1
    rotate_left
    ·exact absurd (of_decide_eq_true m1) (by decide)
    refine sc_is hc he h0 rfl rfl rfl (fun hqa lta => ?_) (fun hqa => ?_)
    ·rw [if_pos hqa] at ho
     refine sc_p hp (.block) (trivial) hc he (h0) rfl rfl rfl (by first | rfl | exact inc (by omega) | exact inc2 (by omega)) (fun σ ps h => h.nil_inv) (fun hx => hn (by rw [← ho, hx]; rfl)) (fun hx a' k' => ?_) (fun x1 j1 hx l1 u1 kk1 => ?_)
     ·rw [hx] at ho; subst ho; exact rd_end hc ⟨a', k', rfl, rfl⟩
     rw [hx] at ho; try simp only [Out.bind_ok] at ho
     subst ho
     exact rd_end hc ⟨_, rfl, rfl⟩
    rw [if_neg (by simp [hqa])] at ho
    refine sc_eat hc he h0 rfl rfl rfl (fun hqb ltb kqb => ?_) (fun hqb kqb => ?_)
    ·rw [if_pos hqb] at ho
     subst ho
     refine sc_node ([]) hc he (show at_ + 1 ≤ c.v.length by omega) rfl rfl (by first | rfl | exact inc (by omega) | exact inc2 (by omega)) rfl fun kN => ?_
     exact rd_end hc ⟨kN, rfl, rfl⟩
    rw [if_neg (by simp [hqb])] at ho
    refine sc_eat hc he h0 rfl rfl rfl (fun hqc ltc kqc => ?_) (fun hqc kqc => ?_)
    ·rw [if_pos hqc] at ho
     refine sc_p hp (.nested) (trivial) hc he (show at_ + 1 ≤ c.v.length by omega) rfl rfl rfl (by first | rfl | exact inc (by omega) | exact inc2 (by omega)) (fun σ ps h => h.nil_inv) (fun hx => hn (by rw [← ho, hx]; rfl)) (fun hx a' k' => ?_) (fun x1 j1 hx l1 u1 kk1 => ?_)
     ·rw [hx] at ho; subst ho; exact rd_end hc ⟨a', k', rfl, rfl⟩
     rw [hx] at ho; try simp only [Out.bind_ok] at ho
     refine sc_p hp (.stat) (trivial) hc he (u1) rfl rfl rfl (by first | rfl | exact inc (by omega) | exact inc2 (by omega)) (fun σ ps h => h.nil_inv) (fun hx => hn (by rw [← ho, hx]; rfl)) (fun hx a' k' => ?_) (fun x2 j2 hx l2 u2 kk2 => ?_)
     ·rw [hx] at ho; subst ho; exact rd_end hc ⟨a', k', rfl, rfl⟩
     rw [hx] at ho; try simp only [Out.bind_ok] at ho
     refine ⟨[encC x2], rfl, [encC x1], rfl, by simp, ?_⟩
     refine sc_eat hc he u2 rfl rfl rfl (fun h3 lt3 kk3 => ?_) (fun h3 kk3 => ?_)
     ·rw [if_pos h3] at ho
      refine sc_p hp (.stat) (trivial) hc he (show j2 + 1 ≤ c.v.length by omega) rfl rfl rfl (by first | rfl | exact inc (by omega) | exact inc2 (by omega)) (fun σ ps h => h.nil_inv) (fun hx => hn (by rw [← ho, hx]; rfl)) (fun hx a' k' => ?_) (fun x4 j4 hx l4 u4 kk4 => ?_)
      ·rw [hx] at ho; subst ho; exact rd_end hc ⟨a', k', rfl, rfl⟩
      rw [hx] at ho; try simp only [Out.bind_ok] at ho
      refine ⟨[encC x4], rfl, by simp, ?_⟩
      subst ho
      refine sc_own (n := 4) [encU x1, encU x2, encU x4] rfl rfl rfl ?_
      refine sc_node ([x1, x2, x4]) hc he (u4) rfl rfl (by first | rfl | exact inc (by omega) | exact inc2 (by omega)) rfl fun kN => ?_
      exact rd_end hc ⟨kN, rfl, rfl⟩
     ·rw [if_neg (by simp [h3])] at ho
      subst ho
      refine sc_own (n := 4) [encU x1, encU x2] rfl rfl rfl ?_
      refine sc_node ([x1, x2]) hc he (u2) rfl rfl (by first | rfl | exact inc (by omega) | exact inc2 (by omega)) rfl fun kN => ?_
      exact rd_end hc ⟨kN, rfl, rfl⟩
    rw [if_neg (by simp [hqc])] at ho
    refine sc_eat hc he h0 rfl rfl rfl (fun hqd ltd kqd => ?_) (fun hqd kqd => ?_)
    ·rw [if_pos hqd] at ho
     refine sc_p hp (.nested) (trivial) hc he (show at_ + 1 ≤ c.v.length by omega) rfl rfl rfl (by first | rfl | exact inc (by omega) | exact inc2 (by omega)) (fun σ ps h => h.nil_inv) (fun hx => hn (by rw [← ho, hx]; rfl)) (fun hx a' k' => ?_) (fun x1 j1 hx l1 u1 kk1 => ?_)
     ·rw [hx] at ho; subst ho; exact rd_end hc ⟨a', k', rfl, rfl⟩
     rw [hx] at ho; try simp only [Out.bind_ok] at ho
     refine sc_p hp (.stat) (trivial) hc he (u1) rfl rfl rfl (by first | rfl | exact inc (by omega) | exact inc2 (by omega)) (fun σ ps h => h.nil_inv) (fun hx => hn (by rw [← ho, hx]; rfl)) (fun hx a' k' => ?_) (fun x2 j2 hx l2 u2 kk2 => ?_)
     ·rw [hx] at ho; subst ho; exact rd_end hc ⟨a', k', rfl, rfl⟩
     rw [hx] at ho; try simp only [Out.bind_ok] at ho
     subst ho
     refine sc_node ([x1, x2]) hc he (u2) rfl rfl (by first | rfl | exact inc (by omega) | exact inc2 (by omega)) rfl fun kN => ?_
     exact rd_end hc ⟨kN, rfl, rfl⟩
    rw [if_neg (by simp [hqd])] at ho
    refine sc_eat hc he h0 rfl rfl rfl (fun hqe lte kqe => ?_) (fun hqe kqe => ?_)
    ·rw [if_pos hqe] at ho
     refine sc_p hp (.nested) (trivial) hc he (show at_ + 1 ≤ c.v.length by omega) rfl rfl rfl (by first | rfl | exact inc (by omega) | exact inc2 (by omega)) (fun σ ps h => h.nil_inv) (fun hx => hn (by rw [← ho, hx]; rfl)) (fun hx a' k' => ?_) (fun x1 j1 hx l1 u1 kk1 => ?_)
     ·rw [hx] at ho; subst ho; exact rd_end hc ⟨a', k', rfl, rfl⟩
     rw [hx] at ho; try simp only [Out.bind_ok] at ho
     refine sc_p hp (.stat) (trivial) hc he (u1) rfl rfl rfl (by first | rfl | exact inc (by omega) | exact inc2 (by omega)) (fun σ ps h => h.nil_inv) (fun hx => hn (by rw [← ho, hx]; rfl)) (fun hx a' k' => ?_) (fun x2 j2 hx l2 u2 kk2 => ?_)
     ·rw [hx] at ho; subst ho; exact rd_end hc ⟨a', k', rfl, rfl⟩
     rw [hx] at ho; try simp only [Out.bind_ok] at ho
     subst ho
     refine sc_node ([x1, x2]) hc he (u2) rfl rfl (by first | rfl | exact inc (by omega) | exact inc2 (by omega)) rfl fun kN => ?_
     exact rd_end hc ⟨kN, rfl, rfl⟩
    rw [if_neg (by simp [hqe])] at ho
    refine sc_eat hc he h0 rfl rfl rfl (fun hqf ltf kqf => ?_) (fun hqf kqf => ?_)
    ·rw [if_pos hqf] at ho
     refine sc_p hp (.stat) (trivial) hc he (show at_ + 1 ≤ c.v.length by omega) rfl rfl rfl (by first | rfl | exact inc (by omega) | exact inc2 (by omega)) (fun σ ps h => h.nil_inv) (fun hx => hn (by rw [← ho, hx]; rfl)) (fun hx a' k' => ?_) (fun x1 j1 hx l1 u1 kk1 => ?_)
     ·rw [hx] at ho; subst ho; exact rd_end hc ⟨a', k', rfl, rfl⟩
     rw [hx] at ho; try simp only [Out.bind_ok] at ho
     refine sc_want hc he (u1) rfl rfl (by first | rfl | exact inc (by omega) | exact inc2 (by omega)) (fun h a' k' => ?_) (fun h3 lt3 kk3 => ?_)
     ·rw [if_neg (by simp [h])] at ho; subst ho; exact rd_end hc ⟨a', k', rfl, rfl⟩
     rw [if_pos h3] at ho; try simp only [Out.bind_ok] at ho
     refine sc_p hp (.nested) (trivial) hc he (show j1 + 1 ≤ c.v.length by omega) rfl rfl rfl (by first | rfl | exact inc (by omega) | exact inc2 (by omega)) (fun σ ps h => h.nil_inv) (fun hx => hn (by rw [← ho, hx]; rfl)) (fun hx a' k' => ?_) (fun x2 j2 hx l2 u2 kk2 => ?_)
     ·rw [hx] at ho; subst ho; exact rd_end hc ⟨a', k', rfl, rfl⟩
     rw [hx] at ho; try simp only [Out.bind_ok] at ho
     refine sc_want hc he (u2) rfl rfl (by first | rfl | exact inc (by omega) | exact inc2 (by omega)) (fun h a' k' => ?_) (fun h4 lt4 kk4 => ?_)
     ·rw [if_neg (by simp [h])] at ho; subst ho; exact rd_end hc ⟨a', k', rfl, rfl⟩
     rw [if_pos h4] at ho; try simp only [Out.bind_ok] at ho
     subst ho
     refine sc_node ([x1, x2]) hc he (show j2 + 1 ≤ c.v.length by omega) rfl rfl (by first | rfl | exact inc (by omega) | exact inc2 (by omega)) rfl fun kN => ?_
     exact rd_end hc ⟨kN, rfl, rfl⟩
    rw [if_neg (by simp [hqf])] at ho
    refine sc_eat hc he h0 rfl rfl rfl (fun hqg ltg kqg => ?_) (fun hqg kqg => ?_)
    ·rw [if_pos hqg] at ho
     refine sc_p hp (.loop (c.place at_)) (hpl) hc he (show at_ + 1 ≤ c.v.length by omega) rfl rfl rfl (by first | rfl | exact inc (by omega) | exact inc2 (by omega)) (fun σ ps h => pvs_rel (ps := [.lit (.int .i64 (c.place at_ : Nat))]) rfl h) (fun hx => hn (by rw [← ho, hx]; rfl)) (fun hx a' k' => ?_) (fun x1 j1 hx l1 u1 kk1 => ?_)
     ·rw [hx] at ho; subst ho; exact rd_end hc ⟨a', k', rfl, rfl⟩
     rw [hx] at ho; try simp only [Out.bind_ok] at ho
     subst ho
     exact rd_end hc ⟨_, rfl, rfl⟩
    rw [if_neg (by simp [hqg])] at ho
    refine sc_eat hc he h0 rfl rfl rfl (fun hqh lth kqh => ?_) (fun hqh kqh => ?_)
    ·rw [if_pos hqh] at ho
     refine sc_p hp (.expr) (trivial) hc he (show at_ + 1 ≤ c.v.length by omega) rfl rfl rfl (by first | rfl | exact inc (by omega) | exact inc2 (by omega)) (fun σ ps h => h.nil_inv) (fun hx => hn (by rw [← ho, hx]; rfl)) (fun hx a' k' => ?_) (fun x1 j1 hx l1 u1 kk1 => ?_)
     ·rw [hx] at ho; subst ho; exact rd_end hc ⟨a', k', rfl, rfl⟩
     rw [hx] at ho; try simp only [Out.bind_ok] at ho
     refine sc_want hc he (u1) rfl rfl (by first | rfl | exact inc (by omega) | exact inc2 (by omega)) (fun h a' k' => ?_) (fun h3 lt3 kk3 => ?_)
     ·rw [if_neg (by simp [h])] at ho; subst ho; exact rd_end hc ⟨a', k', rfl, rfl⟩
     rw [if_pos h3] at ho; try simp only [Out.bind_ok] at ho
     refine sc_p hp (.marked) (trivial) hc he (show j1 + 1 ≤ c.v.length by omega) rfl rfl rfl (by first | rfl | exact inc (by omega) | exact inc2 (by omega)) (fun σ ps h => h.nil_inv) (fun hx => hn (by rw [← ho, hx]; rfl)) (fun hx a' k' => ?_) (fun x2 j2 hx l2 u2 kk2 => ?_)
     ·rw [hx] at ho; subst ho; exact rd_end hc ⟨a', k', rfl, rfl⟩
     rw [hx] at ho; try simp only [Out.bind_ok] at ho
     subst ho
     refine sc_node ([x1, x2]) hc he (u2) rfl rfl (by first | rfl | exact inc (by omega) | exact inc2 (by omega)) rfl fun kN => ?_
     exact rd_end hc ⟨kN, rfl, rfl⟩
    rw [if_neg (by simp [hqh])] at ho
    refine sc_eat hc he h0 rfl rfl rfl (fun hqi lti kqi => ?_) (fun hqi kqi => ?_)
    ·rw [if_pos hqi] at ho
     refine sc_want hc he (show at_ + 1 ≤ c.v.length by omega) rfl rfl (by first | rfl | exact inc (by omega) | exact inc2 (by omega)) (fun h a' k' => ?_) (fun h3 lt3 kk3 => ?_)
     ·rw [if_neg (by simp [h])] at ho; subst ho; exact rd_end hc ⟨a', k', rfl, rfl⟩
     rw [if_pos h3] at ho; try simp only [Out.bind_ok] at ho
     refine sc_p hp (.marked) (trivial) hc he (show at_ + 1 + 1 ≤ c.v.length by omega) rfl rfl rfl (by first | rfl | exact inc (by omega) | exact inc2 (by omega)) (fun σ ps h => h.nil_inv) (fun hx => hn (by rw [← ho, hx]; rfl)) (fun hx a' k' => ?_) (fun x2 j2 hx l2 u2 kk2 => ?_)
     ·rw [hx] at ho; subst ho; exact rd_end hc ⟨a', k', rfl, rfl⟩
     rw [hx] at ho; try simp only [Out.bind_ok] at ho
     subst ho
     refine sc_node ([x2]) hc he (u2) rfl rfl (by first | rfl | exact inc (by omega) | exact inc2 (by omega)) rfl fun kN => ?_
     exact rd_end hc ⟨kN, rfl, rfl⟩
    rw [if_neg (by simp [hqi])] at ho
    refine sc_eat hc he h0 rfl rfl rfl (fun hqj ltj kqj => ?_) (fun hqj kqj => ?_)
    ·rw [if_pos hqj] at ho
     refine sc_name hc he (show at_ + 1 ≤ c.v.length by omega) rfl rfl rfl (fun h a' k' => ?_) (fun h lt kk5 => ?_)
     ·rw [if_neg h] at ho; subst ho; exact rd_end hc ⟨a', k', rfl, rfl⟩
     rw [if_pos h] at ho
     refine sc_want hc he (show at_ + 2 ≤ c.v.length by omega) rfl rfl (by first | rfl | exact inc (by omega) | exact inc2 (by omega)) (fun h a' k' => ?_) (fun h3 lt3 kk3 => ?_)
     ·rw [if_neg (by simp [h])] at ho; subst ho; exact rd_end hc ⟨a', k', rfl, rfl⟩
     rw [if_pos h3] at ho; try simp only [Out.bind_ok] at ho
     subst ho
     refine sc_node ([]) hc he (show at_ + 2 + 1 ≤ c.v.length by omega) rfl rfl (by first | rfl | exact inc (by omega) | exact inc2 (by omega)) rfl fun kN => ?_
     exact rd_end hc ⟨kN, rfl, rfl⟩
    rw [if_neg (by simp [hqj])] at ho
    refine sc_eat hc he h0 rfl rfl rfl (fun hqk ltk kqk => ?_) (fun hqk kqk => ?_)
    ·rw [if_pos hqk] at ho
     refine sc_is hc he (show at_ + 1 ≤ c.v.length by omega) rfl rfl rfl (fun h3 lt3 => ?_) (fun h3 => ?_)
     ·rw [if_pos h3] at ho
      simp only [Out.bind_ok] at ho
      rw [if_pos h3] at ho
      refine sc_want hc he (show at_ + 1 ≤ c.v.length by omega) rfl rfl rfl (fun h => by rw [h3] at h; cases h) (fun h5 lt5 kk5 => ?_)
      subst ho
      refine sc_node ([]) hc he (show at_ + 1 + 1 ≤ c.v.length by omega) rfl rfl (by first | rfl | exact inc (by omega) | exact inc2 (by omega)) rfl fun kN => ?_
      exact rd_end hc ⟨kN, rfl, rfl⟩
     ·rw [if_neg (by simp [h3])] at ho
      refine sc_p hp (.expr) (trivial) hc he (show at_ + 1 ≤ c.v.length by omega) rfl rfl rfl (by first | rfl | exact inc (by omega) | exact inc2 (by omega)) (fun σ ps h => h.nil_inv) (fun hx => hn (by rw [← ho, hx]; rfl)) (fun hx a' k' => ?_) (fun x1 j1 hx l1 u1 kk1 => ?_)
      ·rw [hx] at ho; subst ho; exact rd_end hc ⟨a', k', rfl, rfl⟩
      rw [hx] at ho; try simp only [Out.bind_ok] at ho
      refine ⟨[encC x1], rfl, by simp, ?_⟩
      refine sc_want hc he (u1) rfl rfl (by first | rfl | exact inc (by omega) | exact inc2 (by omega)) (fun h a' k' => ?_) (fun h5 lt5 kk5 => ?_)
      ·rw [if_neg (by simp [h])] at ho; subst ho; exact rd_end hc ⟨a', k', rfl, rfl⟩
      rw [if_pos h5] at ho; try simp only [Out.bind_ok] at ho
      subst ho
      refine sc_own (n := 4) [encU x1] rfl rfl rfl ?_
      refine sc_node ([x1]) hc he (show j1 + 1 ≤ c.v.length by omega) rfl rfl (by first | rfl | exact inc (by omega) | exact inc2 (by omega)) rfl fun kN => ?_
      exact rd_end hc ⟨kN, rfl, rfl⟩
    rw [if_neg (by simp [hqk])] at ho
    refine sc_p hp (.other (c.place at_)) (hpl) hc he (h0) rfl rfl rfl (by first | rfl | exact inc (by omega) | exact inc2 (by omega)) (fun σ ps h => pvs_rel (ps := [.lit (.int .i64 (c.place at_ : Nat))]) rfl h) (fun hx => hn (by rw [← ho, hx]; rfl)) (fun hx a' k' => ?_) (fun x1 j1 hx l1 u1 kk1 => ?_)
    ·rw [hx] at ho; subst ho; exact rd_end hc ⟨a', k', rfl, rfl⟩
    rw [hx] at ho; try simp only [Out.bind_ok] at ho
    subst ho
    exact rd_end hc ⟨_, rfl, rfl⟩
   ·have k1 : c.kind at_ = 2 := of_decide_eq_true k1
    have hlt := hc.ltk (at_ := at_) (by rw [show (c.tk at_).kind = 2 from k1]; decide)
    rw [if_neg (fun h => e1 h.2), if_pos ⟨k1, e2⟩] at ho
    refine sc_sub hsub ?_
    refine sc_want hc he (show at_ + 1 ≤ c.v.length by omega) rfl rfl (by first | rfl | exact inc (by omega) | exact inc2 (by omega)) (fun h a' k' => ?_) (fun h3 lt3 kk3 => ?_)
    ·rw [if_neg (by simp [h])] at ho; subst ho; exact rd_end hc ⟨a', k', rfl, rfl⟩
    rw [if_pos h3] at ho; try simp only [Out.bind_ok] at ho
    subst ho
    refine sc_node ([]) hc he (show at_ + 1 + 1 ≤ c.v.length by omega) rfl rfl (by first | rfl | exact inc (by omega) | exact inc2 (by omega)) rfl fun kN => ?_
    exact rd_end hc ⟨kN, rfl, rfl⟩
  have hr2 : dget plainD (c.tk at_).text = none := by
   show dget plainD (c.text at_) = none
   simp only [plainD, dget]
   rw [if_neg e1, if_neg e2]
  obtain rfl : r = none := by rw [← hr]; exact hr2
  rw [if_neg (fun h => e1 h.2), if_neg (fun h => e2 h.2)] at ho
  refine sc_sub hsub ?_
  refine sc_meta hc he h0 rfl rfl rfl ?_
  rintro (_ | _) m1
  rotate_left
  ·exact absurd (of_decide_eq_true m1) (by decide)
  refine sc_is hc he h0 rfl rfl rfl (fun hqa lta => ?_) (fun hqa => ?_)
  ·rw [if_pos hqa] at ho
   refine sc_p hp (.block) (trivial) hc he (h0) rfl rfl rfl (by first | rfl | exact inc (by omega) | exact inc2 (by omega)) (fun σ ps h => h.nil_inv) (fun hx => hn (by rw [← ho, hx]; rfl)) (fun hx a' k' => ?_) (fun x1 j1 hx l1 u1 kk1 => ?_)
   ·rw [hx] at ho; subst ho; exact rd_end hc ⟨a', k', rfl, rfl⟩
   rw [hx] at ho; try simp only [Out.bind_ok] at ho
   subst ho
   exact rd_end hc ⟨_, rfl, rfl⟩
  rw [if_neg (by simp [hqa])] at ho
  refine sc_eat hc he h0 rfl rfl rfl (fun hqb ltb kqb => ?_) (fun hqb kqb => ?_)
  ·rw [if_pos hqb] at ho
   subst ho
   refine sc_node ([]) hc he (show at_ + 1 ≤ c.v.length by omega) rfl rfl (by first | rfl | exact inc (by omega) | exact inc2 (by omega)) rfl fun kN => ?_
   exact rd_end hc ⟨kN, rfl, rfl⟩
  rw [if_neg (by simp [hqb])] at ho
  refine sc_eat hc he h0 rfl rfl rfl (fun hqc ltc kqc => ?_) (fun hqc kqc => ?_)
  ·rw [if_pos hqc] at ho
   refine sc_p hp (.nested) (trivial) hc he (show at_ + 1 ≤ c.v.length by omega) rfl rfl rfl (by first | rfl | exact inc (by omega) | exact inc2 (by omega)) (fun σ ps h => h.nil_inv) (fun hx => hn (by rw [← ho, hx]; rfl)) (fun hx a' k' => ?_) (fun x1 j1 hx l1 u1 kk1 => ?_)
   ·rw [hx] at ho; subst ho; exact rd_end hc ⟨a', k', rfl, rfl⟩
   rw [hx] at ho; try simp only [Out.bind_ok] at ho
   refine sc_p hp (.stat) (trivial) hc he (u1) rfl rfl rfl (by first | rfl | exact inc (by omega) | exact inc2 (by omega)) (fun σ ps h => h.nil_inv) (fun hx => hn (by rw [← ho, hx]; rfl)) (fun hx a' k' => ?_) (fun x2 j2 hx l2 u2 kk2 => ?_)
   ·rw [hx] at ho; subst ho; exact rd_end hc ⟨a', k', rfl, rfl⟩
   rw [hx] at ho; try simp only [Out.bind_ok] at ho
   refine ⟨[encC x2], rfl, [encC x1], rfl, by simp, ?_⟩
   refine sc_eat hc he u2 rfl rfl rfl (fun h3 lt3 kk3 => ?_) (fun h3 kk3 => ?_)
   ·rw [if_pos h3] at ho
    refine sc_p hp (.stat) (trivial) hc he (show j2 + 1 ≤ c.v.length by omega) rfl rfl rfl (by first | rfl | exact inc (by omega) | exact inc2 (by omega)) (fun σ ps h => h.nil_inv) (fun hx => hn (by rw [← ho, hx]; rfl)) (fun hx a' k' => ?_) (fun x4 j4 hx l4 u4 kk4 => ?_)
    ·rw [hx] at ho; subst ho; exact rd_end hc ⟨a', k', rfl, rfl⟩
    rw [hx] at ho; try simp only [Out.bind_ok] at ho
    refine ⟨[encC x4], rfl, by simp, ?_⟩
    subst ho
    refine sc_own (n := 4) [encU x1, encU x2, encU x4] rfl rfl rfl ?_
    refine sc_node ([x1, x2, x4]) hc he (u4) rfl rfl (by first | rfl | exact inc (by omega) | exact inc2 (by omega)) rfl fun kN => ?_
    exact rd_end hc ⟨kN, rfl, rfl⟩
   ·rw [if_neg (by simp [h3])] at ho
    subst ho
    refine sc_own (n := 4) [encU x1, encU x2] rfl rfl rfl ?_
    refine sc_node ([x1, x2]) hc he (u2) rfl rfl (by first | rfl | exact inc (by omega) | exact inc2 (by omega)) rfl fun kN => ?_
    exact rd_end hc ⟨kN, rfl, rfl⟩
  rw [if_neg (by simp [hqc])] at ho
  refine sc_eat hc he h0 rfl rfl rfl (fun hqd ltd kqd => ?_) (fun hqd kqd => ?_)
  ·rw [if_pos hqd] at ho
   refine sc_p hp (.nested) (trivial) hc he (show at_ + 1 ≤ c.v.length by omega) rfl rfl rfl (by first | rfl | exact inc (by omega) | exact inc2 (by omega)) (fun σ ps h => h.nil_inv) (fun hx => hn (by rw [← ho, hx]; rfl)) (fun hx a' k' => ?_) (fun x1 j1 hx l1 u1 kk1 => ?_)
   ·rw [hx] at ho; subst ho; exact rd_end hc ⟨a', k', rfl, rfl⟩
   rw [hx] at ho; try simp only [Out.bind_ok] at ho
   refine sc_p hp (.stat) (trivial) hc he (u1) rfl rfl rfl (by first | rfl | exact inc (by omega) | exact inc2 (by omega)) (fun σ ps h => h.nil_inv) (fun hx => hn (by rw [← ho, hx]; rfl)) (fun hx a' k' => ?_) (fun x2 j2 hx l2 u2 kk2 => ?_)
   ·rw [hx] at ho; subst ho; exact rd_end hc ⟨a', k', rfl, rfl⟩
   rw [hx] at ho; try simp only [Out.bind_ok] at ho
   subst ho
   refine sc_node ([x1, x2]) hc he (u2) rfl rfl (by first | rfl | exact inc (by omega) | exact inc2 (by omega)) rfl fun kN => ?_
   exact rd_end hc ⟨kN, rfl, rfl⟩
  rw [if_neg (by simp [hqd])] at ho
  refine sc_eat hc he h0 rfl rfl rfl (fun hqe lte kqe => ?_) (fun hqe kqe => ?_)
  ·rw [if_pos hqe] at ho
   refine sc_p hp (.nested) (trivial) hc he (show at_ + 1 ≤ c.v.length by omega) rfl rfl rfl (by first | rfl | exact inc (by omega) | exact inc2 (by omega)) (fun σ ps h => h.nil_inv) (fun hx => hn (by rw [← ho, hx]; rfl)) (fun hx a' k' => ?_) (fun x1 j1 hx l1 u1 kk1 => ?_)
   ·rw [hx] at ho; subst ho; exact rd_end hc ⟨a', k', rfl, rfl⟩
   rw [hx] at ho; try simp only [Out.bind_ok] at ho
   refine sc_p hp (.stat) (trivial) hc he (u1) rfl rfl rfl (by first | rfl | exact inc (by omega) | exact inc2 (by omega)) (fun σ ps h => h.nil_inv) (fun hx => hn (by rw [← ho, hx]; rfl)) (fun hx a' k' => ?_) (fun x2 j2 hx l2 u2 kk2 => ?_)
   ·rw [hx] at ho; subst ho; exact rd_end hc ⟨a', k', rfl, rfl⟩
   rw [hx] at ho; try simp only [Out.bind_ok] at ho
   subst ho
   refine sc_node ([x1, x2]) hc he (u2) rfl rfl (by first | rfl | exact inc (by omega) | exact inc2 (by omega)) rfl fun kN => ?_
   exact rd_end hc ⟨kN, rfl, rfl⟩
  rw [if_neg (by simp [hqe])] at ho
  refine sc_eat hc he h0 rfl rfl rfl (fun hqf ltf kqf => ?_) (fun hqf kqf => ?_)
  ·rw [if_pos hqf] at ho
   refine sc_p hp (.stat) (trivial) hc he (show at_ + 1 ≤ c.v.length by omega) rfl rfl rfl (by first | rfl | exact inc (by omega) | exact inc2 (by omega)) (fun σ ps h => h.nil_inv) (fun hx => hn (by rw [← ho, hx]; rfl)) (fun hx a' k' => ?_) (fun x1 j1 hx l1 u1 kk1 => ?_)
   ·rw [hx] at ho; subst ho; exact rd_end hc ⟨a', k', rfl, rfl⟩
   rw [hx] at ho; try simp only [Out.bind_ok] at ho
   refine sc_want hc he (u1) rfl rfl (by first | rfl | exact inc (by omega) | exact inc2 (by omega)) (fun h a' k' => ?_) (fun h3 lt3 kk3 => ?_)
   ·rw [if_neg (by simp [h])] at ho; subst ho; exact rd_end hc ⟨a', k', rfl, rfl⟩
   rw [if_pos h3] at ho; try simp only [Out.bind_ok] at ho
   refine sc_p hp (.nested) (trivial) hc he (show j1 + 1 ≤ c.v.length by omega) rfl rfl rfl (by first | rfl | exact inc (by omega) | exact inc2 (by omega)) (fun σ ps h => h.nil_inv) (fun hx => hn (by rw [← ho, hx]; rfl)) (fun hx a' k' => ?_) (fun x2 j2 hx l2 u2 kk2 => ?_)
   ·rw [hx] at ho; subst ho; exact rd_end hc ⟨a', k', rfl, rfl⟩
   rw [hx] at ho; try simp only [Out.bind_ok] at ho
   refine sc_want hc he (u2) rfl rfl (by first | rfl | exact inc (by omega) | exact inc2 (by omega)) (fun h a' k' => ?_) (fun h4 lt4 kk4 => ?_)
   ·rw [if_neg (by simp [h])] at ho; subst ho; exact rd_end hc ⟨a', k', rfl, rfl⟩
   rw [if_pos h4] at ho; try simp only [Out.bind_ok] at ho
   subst ho
   refine sc_node ([x1, x2]) hc he (show j2 + 1 ≤ c.v.length by omega) rfl rfl (by first | rfl | exact inc (by omega) | exact inc2 (by omega)) rfl fun kN => ?_
   exact rd_end hc ⟨kN, rfl, rfl⟩
  rw [if_neg (by simp [hqf])] at ho
  refine sc_eat hc he h0 rfl rfl rfl (fun hqg ltg kqg => ?_) (fun hqg kqg => ?_)
  ·rw [if_pos hqg] at ho
   refine sc_p hp (.loop (c.place at_)) (hpl) hc he (show at_ + 1 ≤ c.v.length by omega) rfl rfl rfl (by first | rfl | exact inc (by omega) | exact inc2 (by omega)) (fun σ ps h => pvs_rel (ps := [.lit (.int .i64 (c.place at_ : Nat))]) rfl h) (fun hx => hn (by rw [← ho, hx]; rfl)) (fun hx a' k' => ?_) (fun x1 j1 hx l1 u1 kk1 => ?_)
   ·rw [hx] at ho; subst ho; exact rd_end hc ⟨a', k', rfl, rfl⟩
   rw [hx] at ho; try simp only [Out.bind_ok] at ho
   subst ho
   exact rd_end hc ⟨_, rfl, rfl⟩
  rw [if_neg (by simp [hqg])] at ho
  refine sc_eat hc he h0 rfl rfl rfl (fun hqh lth kqh => ?_) (fun hqh kqh => ?_)
  ·rw [if_pos hqh] at ho
   refine sc_p hp (.expr) (trivial) hc he (show at_ + 1 ≤ c.v.length by omega) rfl rfl rfl (by first | rfl | exact inc (by omega) | exact inc2 (by omega)) (fun σ ps h => h.nil_inv) (fun hx => hn (by rw [← ho, hx]; rfl)) (fun hx a' k' => ?_) (fun x1 j1 hx l1 u1 kk1 => ?_)
   ·rw [hx] at ho; subst ho; exact rd_end hc ⟨a', k', rfl, rfl⟩
   rw [hx] at ho; try simp only [Out.bind_ok] at ho
   refine sc_want hc he (u1) rfl rfl (by first | rfl | exact inc (by omega) | exact inc2 (by omega)) (fun h a' k' => ?_) (fun h3 lt3 kk3 => ?_)
   ·rw [if_neg (by simp [h])] at ho; subst ho; exact rd_end hc ⟨a', k', rfl, rfl⟩
   rw [if_pos h3] at ho; try simp only [Out.bind_ok] at ho
   refine sc_p hp (.marked) (trivial) hc he (show j1 + 1 ≤ c.v.length by omega) rfl rfl rfl (by first | rfl | exact inc (by omega) | exact inc2 (by omega)) (fun σ ps h => h.nil_inv) (fun hx => hn (by rw [← ho, hx]; rfl)) (fun hx a' k' => ?_) (fun x2 j2 hx l2 u2 kk2 => ?_)
   ·rw [hx] at ho; subst ho; exact rd_end hc ⟨a', k', rfl, rfl⟩
   rw [hx] at ho; try simp only [Out.bind_ok] at ho
   subst ho
   refine sc_node ([x1, x2]) hc he (u2) rfl rfl (by first | rfl | exact inc (by omega) | exact inc2 (by omega)) rfl fun kN => ?_
   exact rd_end hc ⟨kN, rfl, rfl⟩
  rw [if_neg (by simp [hqh])] at ho
  refine sc_eat hc he h0 rfl rfl rfl (fun hqi lti kqi => ?_) (fun hqi kqi => ?_)
  ·rw [if_pos hqi] at ho
   refine sc_want hc he (show at_ + 1 ≤ c.v.length by omega) rfl rfl (by first | rfl | exact inc (by omega) | exact inc2 (by omega)) (fun h a' k' => ?_) (fun h3 lt3 kk3 => ?_)
   ·rw [if_neg (by simp [h])] at ho; subst ho; exact rd_end hc ⟨a', k', rfl, rfl⟩
   rw [if_pos h3] at ho; try simp only [Out.bind_ok] at ho
   refine sc_p hp (.marked) (trivial) hc he (show at_ + 1 + 1 ≤ c.v.length by omega) rfl rfl rfl (by first | rfl | exact inc (by omega) | exact inc2 (by omega)) (fun σ ps h => h.nil_inv) (fun hx => hn (by rw [← ho, hx]; rfl)) (fun hx a' k' => ?_) (fun x2 j2 hx l2 u2 kk2 => ?_)
   ·rw [hx] at ho; subst ho; exact rd_end hc ⟨a', k', rfl, rfl⟩
   rw [hx] at ho; try simp only [Out.bind_ok] at ho
   subst ho
   refine sc_node ([x2]) hc he (u2) rfl rfl (by first | rfl | exact inc (by omega) | exact inc2 (by omega)) rfl fun kN => ?_
   exact rd_end hc ⟨kN, rfl, rfl⟩
  rw [if_neg (by simp [hqi])] at ho
  refine sc_eat hc he h0 rfl rfl rfl (fun hqj ltj kqj => ?_) (fun hqj kqj => ?_)
  ·rw [if_pos hqj] at ho
   refine sc_name hc he (show at_ + 1 ≤ c.v.length by omega) rfl rfl rfl (fun h a' k' => ?_) (fun h lt kk5 => ?_)
   ·rw [if_neg h] at ho; subst ho; exact rd_end hc ⟨a', k', rfl, rfl⟩
   rw [if_pos h] at ho
   refine sc_want hc he (show at_ + 2 ≤ c.v.length by omega) rfl rfl (by first | rfl | exact inc (by omega) | exact inc2 (by omega)) (fun h a' k' => ?_) (fun h3 lt3 kk3 => ?_)
   ·rw [if_neg (by simp [h])] at ho; subst ho; exact rd_end hc ⟨a', k', rfl, rfl⟩
   rw [if_pos h3] at ho; try simp only [Out.bind_ok] at ho
   subst ho
   refine sc_node ([]) hc he (show at_ + 2 + 1 ≤ c.v.length by omega) rfl rfl (by first | rfl | exact inc (by omega) | exact inc2 (by omega)) rfl fun kN => ?_
   exact rd_end hc ⟨kN, rfl, rfl⟩
  rw [if_neg (by simp [hqj])] at ho
  refine sc_eat hc he h0 rfl rfl rfl (fun hqk ltk kqk => ?_) (fun hqk kqk => ?_)
  ·rw [if_pos hqk] at ho
   refine sc_is hc he (show at_ + 1 ≤ c.v.length by omega) rfl rfl rfl (fun h3 lt3 => ?_) (fun h3 => ?_)
   ·rw [if_pos h3] at ho
    simp only [Out.bind_ok] at ho
    rw [if_pos h3] at ho
    refine sc_want hc he (show at_ + 1 ≤ c.v.length by omega) rfl rfl rfl (fun h => by rw [h3] at h; cases h) (fun h5 lt5 kk5 => ?_)
    subst ho
    refine sc_node ([]) hc he (show at_ + 1 + 1 ≤ c.v.length by omega) rfl rfl (by first | rfl | exact inc (by omega) | exact inc2 (by omega)) rfl fun kN => ?_
    exact rd_end hc ⟨kN, rfl, rfl⟩
   ·rw [if_neg (by simp [h3])] at ho
    refine sc_p hp (.expr) (trivial) hc he (show at_ + 1 ≤ c.v.length by omega) rfl rfl rfl (by first | rfl | exact inc (by omega) | exact inc2 (by omega)) (fun σ ps h => h.nil_inv) (fun hx => hn (by rw [← ho, hx]; rfl)) (fun hx a' k' => ?_) (fun x1 j1 hx l1 u1 kk1 => ?_)
    ·rw [hx] at ho; subst ho; exact rd_end hc ⟨a', k', rfl, rfl⟩
    rw [hx] at ho; try simp only [Out.bind_ok] at ho
    refine ⟨[encC x1], rfl, by simp, ?_⟩
    refine sc_want hc he (u1) rfl rfl (by first | rfl | exact inc (by omega) | exact inc2 (by omega)) (fun h a' k' => ?_) (fun h5 lt5 kk5 => ?_)
    ·rw [if_neg (by simp [h])] at ho; subst ho; exact rd_end hc ⟨a', k', rfl, rfl⟩
    rw [if_pos h5] at ho; try simp only [Out.bind_ok] at ho
    subst ho
    refine sc_own (n := 4) [encU x1] rfl rfl rfl ?_
    refine sc_node ([x1]) hc he (show j1 + 1 ≤ c.v.length by omega) rfl rfl (by first | rfl | exact inc (by omega) | exact inc2 (by omega)) rfl fun kN => ?_
    exact rd_end hc ⟨kN, rfl, rfl⟩
  rw [if_neg (by simp [hqk])] at ho
  refine sc_p hp (.other (c.place at_)) (hpl) hc he (h0) rfl rfl rfl (by first | rfl | exact inc (by omega) | exact inc2 (by omega)) (fun σ ps h => pvs_rel (ps := [.lit (.int .i64 (c.place at_ : Nat))]) rfl h) (fun hx => hn (by rw [← ho, hx]; rfl)) (fun hx a' k' => ?_) (fun x1 j1 hx l1 u1 kk1 => ?_)
  ·rw [hx] at ho; subst ho; exact rd_end hc ⟨a', k', rfl, rfl⟩
  rw [hx] at ho; try simp only [Out.bind_ok] at ho
  subst ho
  exact rd_end hc ⟨_, rfl, rfl⟩
 ·unfold Cx.statS
  have hpl := place_le hc at_
  have hk : c.kind at_ = 2 → at_ < c.v.length := fun h => hc.ltk (at_ := at_) (by rw [show (c.tk at_).kind = 2 from h]; decide)
  have one : ∀ {u : ByteArray}, c.is at_ u = true → at_ + 1 ≤ c.v.length := fun h => hc.lt h
  have sub : ∀ (Y : NT), okY Y → ∀ {j : Nat}, at_ ≤ j → j ≤ c.v.length → OLe (p Y j) at_ c.v.length := fun Y hY j h1 h2 => (hp.ole Y hY h2).lo h1
  refine .ite (fun h => ?_) (fun _ => ?_)
  ·have := hk h.1; exact .want hc rfl fun h1 => .ok (by omega) (by omega)
  refine .ite (fun h => ?_) (fun _ => ?_)
  ·have := hk h.1; exact .want hc rfl fun h1 => .ok (by omega) (by omega)
  refine .ite (fun h => ?_) (fun _ => ?_)
  ·exact hp.ole .block trivial h0
  refine .ite (fun h => ?_) (fun _ => ?_)
  ·exact .ok (by omega) (one h)
  refine .ite (fun h => ?_) (fun _ => ?_)
  ·
   refine .bind (sub .nested trivial (by omega) (one h)) fun x j h1 h2 => .bind (sub .stat trivial h1 h2) fun y j h3 h4 => ?_
   split
   ·rename_i h; have := hc.lt h; exact .bind (sub .stat trivial (by omega) (by omega)) fun z j h5 h6 => .ok h5 h6
   ·exact .ok h3 h4
  refine .ite (fun h => ?_) (fun _ => ?_)
  ·exact .bind (sub .nested trivial (by omega) (one h)) fun x j h1 h2 => .bind (sub .stat trivial h1 h2) fun y j h3 h4 => .ok h3 h4
  refine .ite (fun h => ?_) (fun _ => ?_)
  ·exact .bind (sub .nested trivial (by omega) (one h)) fun x j h1 h2 => .bind (sub .stat trivial h1 h2) fun y j h3 h4 => .ok h3 h4
  refine .ite (fun h => ?_) (fun _ => ?_)
  ·exact .bind (sub .stat trivial (by omega) (one h)) fun x j h1 h2 => .want hc rfl fun h3 => .bind (sub .nested trivial (by omega) (by omega)) fun y j h3 h4 => .want hc rfl fun h5 => .ok (by omega) (by omega)
  refine .ite (fun h => ?_) (fun _ => ?_)
  ·exact sub (.loop (c.place at_)) hpl (by omega) (one h)
  refine .ite (fun h => ?_) (fun _ => ?_)
  ·exact .bind (sub .expr trivial (by omega) (one h)) fun x j h1 h2 => .want hc rfl fun h3 => .bind (sub .marked trivial (by omega) (by omega)) fun y j h3 h4 => .ok h3 h4
  refine .ite (fun h => ?_) (fun _ => ?_)
  ·have := one h; exact .want hc rfl fun h3 => .bind (sub .marked trivial (by omega) (by omega)) fun y j h3 h4 => .ok h3 h4
  refine .ite (fun h => ?_) (fun _ => ?_)
  ·
   have := one h
   split
   ·exact .want hc rfl fun h3 => .ok (by omega) (by omega)
   ·exact .bad
  refine .ite (fun h => ?_) (fun _ => ?_)
  ·
   have := one h
   refine .bind ?_ fun l j h1 h2 => .want hc rfl fun h3 => .ok (by omega) (by omega)
   split
   ·exact .ok (by omega) (by omega)
   ·exact .bind (sub .expr trivial (by omega) (by omega)) fun x j h1 h2 => .ok h1 h2
  ·exact hp.ole (.other (c.place at_)) hpl h0
end
end Go.Pv

namespace Go.Pv
open Go.Proofs
set_option linter.unusedVariables false
set_option linter.unusedSimpArgs false
set_option maxRecDepth 100000
section
variable {c : Cx} {p : NT → Nat → Out Nd} {n : Nat}
theorem commas_len (hc : c.ok) {q : Nat → Out Nd} (hq : ∀ j x k, j ≤ c.v.length → q j = .ok x k → j ≤ k ∧ k ≤ c.v.length) : ∀ (m : Nat) (L : List Nd) (j : Nat) (l : List Nd) (k : Nat), j ≤ c.v.length → c.commas q m L j = .ok l k → j ≤ k ∧ l.length + j ≤ L.length + k
 | 0, L, j, l, k, hj, h => by cases h
 | m + 1, L, j, l, k, hj, h => by
  unfold Cx.commas at h
  split at h
  ·rename_i h1
   have hlt := hc.lt h1
   cases hx : q (j + 1) with
   | fuel => rw [hx] at h; cases h
   | bad => rw [hx] at h; cases h
   | ok x i =>
    rw [hx] at h
    have h2 := hq _ _ _ (by omega) hx
    have := commas_len hc hq m _ _ _ _ h2.2 h
    simp at this
    omega
  ·cases h; omega
theorem dclrs_len (hc : c.ok) (hp : PH c p) {b : Bool} {i : Nat} {x : Nd} {j : Nat} (hi : i ≤ c.v.length) (h : c.dclrsS p n b i = .ok x j) : x.l.length ≤ j := by
 unfold Cx.dclrsS at h
 cases h1 : p (.dclr b) i with
 | fuel => rw [h1] at h; cases h
 | bad => rw [h1] at h; cases h
 | ok y k =>
  rw [h1] at h
  simp only [Out.bind_ok] at h
  have h2 := hp.le (.dclr b) _ _ _ trivial hi h1
  cases h3 : c.commas (p (.dclr b)) n [y] k with
  | fuel => rw [h3] at h; cases h
  | bad => rw [h3] at h; cases h
  | ok l m =>
   rw [h3] at h
   have h4 := commas_len hc (fun j x k hj h => hp.le (.dclr b) _ _ _ trivial hj h) _ _ _ _ _ h2.2 h3
   simp only [Out.bind_ok, Cx.want] at h
   split at h
   ·cases h; show l.length ≤ _; simp at h4; omega
   ·cases h
theorem step_told (hc : c.ok) (hp : PH c p) (hn : n ≤ 1000000000) : ∀ Y, okY Y → Told c Y (c.step p n Y)
 | .expr, _ => expr_t hc hp
 | .assign, _ => assign_t hc hp
 | .choice, _ => choice_t hc hp
 | .binary k, h => binary_t hc hp k h
 | .cast, _ => cast_t hc hp
 | .unary, _ => unary_t hc hp
 | .post, _ => post_t hc hp
 | .primary, _ => primary_t hc hp
 | .value, _ => value_t hc hp
 | .initial, _ => initial_t hc hp
 | .sizes, h => h.elim
 | .args f fr, _ => args_t hc hp f fr
 | .dclr b, _ => dclr_t hc hp b
 | .dclrs b, _ => dclrs_t hc hp b
 | .decl m, _ => decl_t hc hp m
 | .stat, _ => stat_t hc hp
 | .block, _ => block_t hc hp hn
 | .other fr, _ => other_t hc hp fr
 | .loop fr, _ => loop_t hc hp fr
 | .marked, _ => marked_t hc hp
 | .nested, _ => nested_t hc hp
 | .used b, _ => used_t hc hp b
theorem ph_run (hc : c.ok) : ∀ n, n ≤ 1000000000 → PH c (c.run n)
 | 0, _ => by
  refine ⟨fun Y i _ _ h => absurd rfl h, fun Y i x j _ _ h => ?_, fun i _ h => absurd rfl h, fun b i x j _ h => ?_, fun i x j _ h => ?_⟩
  ·cases h
  ·cases h
  ·cases h
 | n + 1, hn => by
  have hp := ph_run hc n (by omega)
  refine ⟨fun Y i hY hi => (step_told hc hp (by omega) Y hY i hi).1, fun Y i x j hY hi h => (step_told hc hp (by omega) Y hY i hi).2 x j h, fun i hi => sizes_w hc hp hi, fun b i x j hi h => dclrs_len hc hp hi h, fun i x j hi h => sizes_le hc hp hi h⟩
end
end Go.Pv

namespace Go.Pv
open Go.Proofs
set_option linter.unusedVariables false
set_option linter.unusedSimpArgs false
set_option maxRecDepth 100000
namespace Cx
section
variable (c : Cx) (p : NT → Nat → Out Nd) (n : Nat)
def typedefS (i : Nat) : Out Nd := c.want i ⟨#[116, 121, 112, 101, 100, 101, 102]⟩ fun j => (c.simple .always j).bind fun t j => (p (.dclr false) j).bind fun x j => c.want j ⟨#[59]⟩ fun j => .ok (c.nodeN 5 ⟨#[]⟩ (c.place i) j [t, x]) j
def fieldsF : Nat → List Nd → Nat → Out (List Nd)
 | 0, _, _ => .fuel
 | m + 1, acc, j => if c.is j ⟨#[125]⟩ = true then .ok acc j else (c.simple .always j).bind fun t k => (p (.dclrs false) k).bind fun l k' => fieldsF m (acc ++ [c.nodeN 3 ⟨#[]⟩ (c.place j) k' (t :: l.l)]) k'
def structS (i : Nat) : Out Nd := c.want i ⟨#[115, 116, 114, 117, 99, 116]⟩ fun j => if c.kind j = 1 then c.want (j + 1) ⟨#[123]⟩ fun k => (c.fieldsF p n [] k).bind fun l k => c.want k ⟨#[125]⟩ fun k => c.want k ⟨#[59]⟩ fun k => .ok (c.nodeN 4 (c.text j) (c.place i) k l) k else .bad
def paramS (j : Nat) : Out Nd := (c.starred .always j).bind fun t k => (if c.kind k = 1 then (p .sizes (k + 1)).bind fun l k' => (.ok [t, c.nodeN 8 (c.text k) (c.place k) k' l.l] k' : Out (List Nd)) else .ok [t] k).bind fun ps k => .ok (c.nodeN 7 ⟨#[]⟩ (c.place j) k ps) k
def paramsF : Nat → List Nd → Nat → Out (List Nd)
 | 0, _, _ => .fuel
 | m + 1, acc, j => if acc ≠ [] ∧ c.is j ⟨#[46, 46, 46]⟩ = true then .ok acc (j + 1) else (c.paramS p j).bind fun x k => if c.is k ⟨#[44]⟩ = true then paramsF m (acc ++ [x]) (k + 1) else .ok (acc ++ [x]) k
def paramsS (i : Nat) : Out (List Nd) := if c.is i ⟨#[41]⟩ = true then .ok [] i else if (c.is i ⟨#[118, 111, 105, 100]⟩ && c.sg (i + 1) ⟨#[41]⟩) = true then .ok [] (i + 1) else c.paramsF p n [] i
def funcS (i : Nat) : Out Nd := (c.starred .always (c.words wordsL i).2).bind fun t k => if c.kind k = 1 then c.want (k + 1) ⟨#[40]⟩ fun k1 => (c.paramsS p n k1).bind fun ps k2 => c.want k2 ⟨#[41]⟩ fun k3 => if c.is k3 ⟨#[123]⟩ = true then (p .block k3).bind fun b k4 => .ok (c.nodeN 2 (c.words wordsL i).1 (c.place i) k4 (t :: c.nodeN 50 (c.text k) (c.place k) (k + 1) [] :: (ps ++ [b]))) k4 else .bad else .bad
def declarerS (i : Nat) : Out Nd := if c.g[i]? = some 4 then (p (.used true) i).bind fun x j => .ok (c.nodeN 35 ⟨#[]⟩ (c.place i) (c.eat j ⟨#[59]⟩) [x]) (c.eat j ⟨#[59]⟩) else .bad
def emptyS (i : Nat) : Out Nd := c.want i ⟨#[59]⟩ fun j => .ok (c.nodeN 34 ⟨#[]⟩ (c.place i) j []) j
def rawF : Nat → Nat → Nat → Nat
 | 0, j, _ => j
 | m + 1, j, o => if c.v.length ≤ j then j else if c.kind j ≠ 6 then rawF m (j + 1) o
  else if c.text j = ⟨#[40]⟩ ∨ c.text j = ⟨#[91]⟩ ∨ c.text j = ⟨#[123]⟩ then rawF m (j + 1) (o + 1)
  else if c.text j = ⟨#[41]⟩ ∨ c.text j = ⟨#[93]⟩ then rawF m (j + 1) (o - 1)
  else if c.text j = ⟨#[125]⟩ then (if o - 1 = 0 then c.eat (j + 1) ⟨#[59]⟩ else rawF m (j + 1) (o - 1))
  else if c.text j = ⟨#[59]⟩ then (if o = 0 then j + 1 else rawF m (j + 1) o)
  else rawF m (j + 1) o
def rawE (i : Nat) : Nat := c.rawF (c.v.length - i) i 0
def rawN (i : Nat) : Nd := c.nodeN 6 ⟨#[]⟩ (c.place i) (c.rawE i) []
end
end Cx
@[reducible] def alwS : SV := .fnc 186 [] []
theorem alw_rel {σ : Nat → Nat} {st : SS} {ps : List PV} (h : All2 (SVR σ st) [alwS] ps) : ps = [ruleV .always (σ 0)] := by
 obtain ⟨q, qs, rfl, h1, h2⟩ := h.cons_inv
 rw [h2.nil_inv]
 obtain ⟨a, b, rfl, h3, h4⟩ := h1
 rw [h3.nil_inv, h4.nil_inv]; rfl
section
variable {c : Cx} {imp : List Nat} {st : SS} {b : St} {K : SV → SS → St → Prop} {Kp : List PanicEntry → SS → St → Prop} {args : List SV} {i : Nat} {aI m : Int}
theorem sc_starredA (_ : Unit) (hc : c.ok) (he : c.env b) (h0 : i ≤ c.v.length) (hst : st[0]? = some (rdLoc c aI m)) (ha : args = [rdV, alwS]) (hI : aI = (i : Nat))
  (hF : c.starred .always i = .bad → BdK c st b Kp) (hT : ∀ x j, c.starred .always i = .ok x j → i ≤ j → j ≤ c.v.length → MvK c st b j (K (.av (.pv (encU x))))) : SC Tryz.prog imp 192 args st b K Kp := by
 have hq := starred_c hc h0 .always
 cases h : c.starred .always i with
 | fuel =>
  unfold Cx.starred at h
  cases hb : c.base .always i with
  | fuel => exact absurd hb base_nf
  | bad => rw [hb] at h; cases h
  | ok u j => rw [hb] at h; cases h
 | bad => rw [h] at hq; exact sc_g (vs := [alwS]) hq hc he hst ha hI (fun σ ps h => alw_rel h) (hF h)
 | ok x j => rw [h] at hq; exact sc_g (vs := [alwS]) hq hc he hst ha hI (fun σ ps h => alw_rel h) (hT x j h (starred_le hc h0 h).1 (starred_le hc h0 h).2)
theorem sc_simpleA (_ : Unit) (hc : c.ok) (he : c.env b) (h0 : i ≤ c.v.length) (hst : st[0]? = some (rdLoc c aI m)) (ha : args = [rdV, alwS]) (hI : aI = (i : Nat))
  (hF : c.simple .always i = .bad → BdK c st b Kp) (hT : ∀ x j, c.simple .always i = .ok x j → i ≤ j → j ≤ c.v.length → MvK c st b j (K (.av (.pv (encU x))))) : SC Tryz.prog imp 185 args st b K Kp := by
 have hq := simple_c hc h0 .always
 cases h : c.simple .always i with
 | fuel =>
  unfold Cx.simple at h
  cases hb : c.base .always i with
  | fuel => exact absurd hb base_nf
  | bad => rw [hb] at h; cases h
  | ok u j => rw [hb] at h; cases h
 | bad => rw [h] at hq; exact sc_g (vs := [alwS]) hq hc he hst ha hI (fun σ ps h => alw_rel h) (hF h)
 | ok x j => rw [h] at hq; exact sc_g (vs := [alwS]) hq hc he hst ha hI (fun σ ps h => alw_rel h) (hT x j h (simple_le hc h0 h).1 (simple_le hc h0 h).2)
end
section
variable {c : Cx} {p : NT → Nat → Out Nd} {s : St} {ir : Nat} {at_ n : Nat} {k : Int}
theorem typedef_c (hc : c.ok) (hp : PH c p) (h0 : at_ ≤ c.v.length) : MC c 120 [] at_ ((c.typedefS p at_).map encU) := by
 have hvl := hc.vl
 obtain ⟨o, ho⟩ : ∃ o, c.typedefS p at_ = o := ⟨_, rfl⟩
 rw [ho]
 unfold Cx.typedefS at ho
 simp only [Cx.want] at ho
 refine mcN_of (D := []) Tryz.func120 rfl (by kernel_rfl) fun hn s ir k he hs => ?_
 refine sc_place hc he h0 rfl rfl rfl ?_
 refine sc_want hc he (h0) rfl rfl (by first | rfl | exact inc (by omega) | exact inc2 (by omega)) (fun h a' k' => ?_) (fun h1 lt1 k1 => ?_)
 ·rw [if_neg (by simp [h])] at ho; subst ho; exact rd_end hc ⟨a', k', rfl, rfl⟩
 rw [if_pos h1] at ho; try simp only [Out.bind_ok] at ho
 refine sc_simpleA (()) hc he (show at_ + 1 ≤ c.v.length by omega) rfl rfl (by first | rfl | exact inc (by omega) | exact inc2 (by omega)) (fun hx a' k' => ?_) (fun x1 j1 hx l1 u1 k2 => ?_)
 ·rw [hx] at ho; subst ho; exact rd_end hc ⟨a', k', rfl, rfl⟩
 rw [hx] at ho; simp only [Out.bind_ok] at ho
 refine sc_p hp (.dclr false) (trivial) hc he (u1) rfl rfl rfl (by first | rfl | exact inc (by omega) | exact inc2 (by omega)) (fun σ ps h => pvs_rel (ps := [.lit (.bool false)]) rfl h) (fun hx => hn (by rw [← ho, hx]; rfl)) (fun hx a' k' => ?_) (fun x2 j2 hx l2 u2 k3 => ?_)
 ·rw [hx] at ho; subst ho; exact rd_end hc ⟨a', k', rfl, rfl⟩
 rw [hx] at ho; try simp only [Out.bind_ok] at ho
 refine sc_want hc he (u2) rfl rfl (by first | rfl | exact inc (by omega) | exact inc2 (by omega)) (fun h a' k' => ?_) (fun h3 lt3 k4 => ?_)
 ·rw [if_neg (by simp [h])] at ho; subst ho; exact rd_end hc ⟨a', k', rfl, rfl⟩
 rw [if_pos h3] at ho; try simp only [Out.bind_ok] at ho
 subst ho
 refine sc_node ([x1, x2]) hc he (show j2 + 1 ≤ c.v.length by omega) rfl rfl (by first | rfl | exact inc (by omega) | exact inc2 (by omega)) rfl fun kN => ?_
 exact rd_end hc ⟨kN, rfl, rfl⟩
theorem outer_c (hc : c.ok) (hp : PH c p) (h0 : at_ ≤ c.v.length) : MC c 123 [] at_ ((p (.decl .always) at_).map encU) := by
 obtain ⟨o, ho⟩ : ∃ o, p (.decl .always) at_ = o := ⟨_, rfl⟩
 rw [ho]
 refine mcN_of (D := []) Tryz.func123 rfl (by kernel_rfl) fun hn s ir k he hs => ?_
 refine sc_p hp (.decl .always) (trivial) hc he (h0) rfl rfl rfl (by first | rfl | exact inc (by omega) | exact inc2 (by omega)) (fun σ ps h => alw_rel h) (fun hx => hn (by rw [← ho, hx]; rfl)) (fun hx a' k' => ?_) (fun x1 j1 hx l1 u1 k1 => ?_)
 ·rw [hx] at ho; subst ho; exact rd_end hc ⟨a', k', rfl, rfl⟩
 rw [hx] at ho; try simp only [Out.bind_ok] at ho
 subst ho
 exact rd_end hc ⟨_, rfl, rfl⟩
theorem empty_c (hc : c.ok) (h0 : at_ ≤ c.v.length) : MC c 125 [] at_ ((c.emptyS at_).map encU) := by
 have hvl := hc.vl
 obtain ⟨o, ho⟩ : ∃ o, c.emptyS at_ = o := ⟨_, rfl⟩
 rw [ho]
 unfold Cx.emptyS at ho
 simp only [Cx.want] at ho
 refine mcN_of (D := []) Tryz.func125 rfl (by kernel_rfl) fun hn s ir k he hs => ?_
 refine sc_place hc he h0 rfl rfl rfl ?_
 refine sc_want hc he (h0) rfl rfl (by first | rfl | exact inc (by omega) | exact inc2 (by omega)) (fun h a' k' => ?_) (fun h1 lt1 k1 => ?_)
 ·rw [if_neg (by simp [h])] at ho; subst ho; exact rd_end hc ⟨a', k', rfl, rfl⟩
 rw [if_pos h1] at ho; try simp only [Out.bind_ok] at ho
 subst ho
 refine sc_node ([]) hc he (show at_ + 1 ≤ c.v.length by omega) rfl rfl (by first | rfl | exact inc (by omega) | exact inc2 (by omega)) rfl fun kN => ?_
 exact rd_end hc ⟨kN, rfl, rfl⟩
theorem declarer_c (hc : c.ok) (hp : PH c p) (h0 : at_ < c.v.length) : MC c 124 [] at_ ((c.declarerS p at_).map encU) := by
 have hvl := hc.vl
 obtain ⟨o, ho⟩ : ∃ o, c.declarerS p at_ = o := ⟨_, rfl⟩
 rw [ho]
 unfold Cx.declarerS at ho
 have hg : c.g[at_]? = some (c.g[at_]'(by rw [hc.gl]; exact h0)) := List.getElem?_eq_getElem _
 refine mcN_of (D := [(2, ([0, 1, 2, 4, 5, 6, 3, 7, 8, 9, 10], [], []))]) Tryz.func124 rfl (by kernel_rfl) fun hn s ir k he hs => ?_
 refine sc_place hc he (show at_ ≤ c.v.length by omega) rfl rfl rfl ?_
 refine ⟨by kernel_rfl, ?_⟩
 refine ⟨.lit (.int .i64 (c.g[at_]'(by rw [hc.gl]; exact h0))), ⟨by omega, by rw [Int.toNat_natCast, List.getElem?_map, hg]; rfl, rfl⟩, ?_⟩
 rintro (_ | _) h1
 ·have h1 := of_decide_eq_false h1
  rw [if_neg (by rw [hg]; intro h; exact h1 (Option.some.inj h))] at ho
  subst ho
  refine sc_bad wrong_m hc he rfl rfl rfl rfl fun a' k' => ?_
  exact rd_end hc ⟨a', k', rfl, rfl⟩
 ·have h1 := of_decide_eq_true h1
  rw [if_pos (by rw [hg, h1])] at ho
  refine sc_p hp (.used true) (trivial) hc he (show at_ ≤ c.v.length by omega) rfl rfl rfl (by first | rfl | exact inc (by omega) | exact inc2 (by omega)) (fun σ ps h => pvs_rel (ps := [.lit (.bool true)]) rfl h) (fun hx => hn (by rw [← ho, hx]; rfl)) (fun hx a' k' => ?_) (fun x1 j1 hx l1 u1 k1 => ?_)
  ·rw [hx] at ho; subst ho; exact rd_end hc ⟨a', k', rfl, rfl⟩
  rw [hx] at ho; try simp only [Out.bind_ok] at ho
  unfold Cx.eat at ho
  refine sc_eat hc he u1 rfl rfl rfl (fun h2 lt2 k2 => ?_) (fun h2 k2 => ?_)
  ·rw [h2] at ho
   simp only [cond_true] at ho
   subst ho
   refine sc_node ([x1]) hc he (show j1 + 1 ≤ c.v.length by omega) rfl rfl (by first | rfl | exact inc (by omega) | exact inc2 (by omega)) rfl fun kN => ?_
   exact rd_end hc ⟨kN, rfl, rfl⟩
  ·rw [h2] at ho
   simp only [cond_false] at ho
   subst ho
   refine sc_node ([x1]) hc he (u1) rfl rfl (by first | rfl | exact inc (by omega) | exact inc2 (by omega)) rfl fun kN => ?_
   exact rd_end hc ⟨kN, rfl, rfl⟩
end
end Go.Pv
