/- Several texts, one behind the other. -/
import Derived.Test.YtkdimfmnialabaaDoorKD
import Derived.Lib.Bytealg
import Derived.Shelf.Strings.Search3
import Derived.Shelf.Strings.Fields
import Derived.Test.YtkdimfmnialabaaDoorProg
import Derived.Test.YtkdimfmnialabaaDoorKB
/- The program's lexer: the scanner's small methods. -/
namespace Go.Pv
open Go.Proofs
set_option linter.unusedVariables false
set_option linter.unusedSimpArgs false
set_option maxRecDepth 100000
set_option maxHeartbeats 1000000
/-- The scanner: the text, the place, the keys, the signs, whether the line is clear. -/
@[reducible] def scC (t : ByteArray) (a : Nat) (M S : PV) (c : Bool) : List PV := [.lit (.string t), .lit (.int .i64 a), M, S, .lit (.bool c)]
@[reducible] def scB (t : ByteArray) (a : Nat) (M S : PV) (c : Bool) : Blk := .row 44 5 [scC t a M S c]
theorem pletter_c (c : Int) (s : St) : PCalls Tryd.prog 46 [.lit (.int .u8 c)] s (fun r s' => s' = s ∧ r = .ret (.lit (.bool (isL c)))) := by
  refine PCalls.of Tryd.func46 rfl (by rfl) (by simp [Tryd.ntmps46]) ?_
  refine pwC_sound _ _ _ _ ?_
  by_cases h1 : 97 ≤ c <;> by_cases h2 : c ≤ 122 <;> by_cases h3 : 65 ≤ c <;> by_cases h4 : c ≤ 90 <;>
    simp [Tryd.ntmps46, isL, h1, h2, h3, h4]
theorem pdigit_c (c : Int) (s : St) : PCalls Tryd.prog 47 [.lit (.int .u8 c)] s (fun r s' => s' = s ∧ r = .ret (.lit (.bool (isD c)))) := by
  refine PCalls.of Tryd.func47 rfl (by rfl) (by simp [Tryd.ntmps47]) ?_
  refine pwC_sound _ _ _ _ ?_
  by_cases h1 : 48 ≤ c <;> simp [Tryd.ntmps47, isD, h1]
section
variable {t : ByteArray} {a : Nat} {M S : PV} {c : Bool} {s : St} {p : Nat}
theorem next_c (hb : s p = some (scB t a M S c)) (n : Nat) (ht : t.size ≤ 1000000) (ha : a ≤ t.size) (hn : n ≤ 2000000) : PCalls Tryd.prog 40 [.pt p 0 0, .lit (.int .i64 n)] s (fun r s' => s' = s ∧ r = .ret (.lit (.int .u8 (bt t (a + n))))) := by
  refine PCalls.of Tryd.func40 rfl (by rfl) (by simp [Tryd.ntmps40]) ?_
  refine pwC_sound _ _ _ _ ?_
  have w1 : IntKind.i64.wrap ((a : Int) + (n : Int)) = (a : Int) + (n : Int) := wrap_i64 (by omega) (by omega)
  have w2 : ((a : Int) + (n : Int)).toNat = a + n := by omega
  have w3 : (0 : Int) ≤ (a : Int) + (n : Int) := by omega
  simp [Tryd.ntmps40]
  refine PW.drawn (fun i => 0) [0, 1, 2, 3, 4, 5, 6, 7, 8, 9, 10, 11] mixed_ (fun _ _ _ _ h => h) (by kernel_rfl) ?_
  by_cases h1 : t.size ≤ a + n
  · have h1' : (t.size : Int) ≤ (a : Int) + (n : Int) := by omega
    simp [hb, w1, h1, h1', bt_none h1]
  · have h1' : ¬ (t.size : Int) ≤ (a : Int) + (n : Int) := by omega
    have h2 : a + n < t.size := by omega
    simp [hb, w1, h1, h1']
    refine PW.drawn (fun i => 0) [0, 1, 2, 3, 4, 5, 6, 7, 8, 9, 10, 11] mixed_ (fun _ _ _ _ h => h) (by kernel_rfl) ?_
    simp [hb, w1, w2, w3, h1, h1', h2]
theorem rest_c (hb : s p = some (scB t a M S c)) (ht : t.size ≤ 1000000) (ha : a ≤ t.size) : PCalls Tryd.prog 42 [.pt p 0 0] s (fun r s' => s' = s ∧ r = .ret (.lit (.string (t.extract a t.size)))) := by
  refine PCalls.of Tryd.func42 rfl (by rfl) (by simp [Tryd.ntmps42]) ?_
  refine pwC_sound _ _ _ _ ?_
  simp [Tryd.ntmps42]
  refine PW.drawn (fun i => 0) [0, 1, 2, 3, 4, 5, 6, 7, 8, 9] mixed_ (fun _ _ _ _ h => h) (by kernel_rfl) ?_
  simp [hb, ha]
theorem name_c (hb : s p = some (scB t a M S c)) (ht : t.size ≤ 1000000) (ha : a < t.size) : PCalls Tryd.prog 20 [.pt p 0 0] s (fun r s' => s' = s ∧ r = .ret (.lit (.int .i64 (if isL (bt t a) then wordEnd t a - a else 0 : Nat)))) := by
  refine PCalls.of Tryd.func20 rfl (by rfl) (by simp [Tryd.ntmps20]) ?_
  refine pwC_sound _ _ _ _ ?_
  simp [Tryd.ntmps20]
  refine (next_c hb 0 ht (by omega) (by omega)).mono ?_
  rintro _ s1 ⟨hs1, rfl⟩
  rw [hs1]
  clear hs1 s1
  simp
  refine (pletter_c _ _).mono ?_
  rintro _ s1 ⟨hs1, rfl⟩
  rw [hs1]
  clear hs1 s1
  by_cases hL : isL (bt t a) = true
  · simp [hL]
    refine PW.loop (fun n e s' => ∃ j : Nat, a + j + n = t.size ∧ e 0 = .pt p 0 0 ∧ e 3 = .lit (.int .i64 j) ∧ scanW (fun j => isL (bt t j) || isD (bt t j)) t.size (a + j) = wordEnd t a ∧ s' = s) (t.size - a) ⟨0, by omega, by simp, by simp, rfl, rfl⟩ ?_
    rintro n e s' ⟨j, hj, e0, e3, hs, rfl⟩
    refine pwC_sound _ _ _ _ ?_
    have w1 : IntKind.i64.wrap ((j : Int) + 1) = ((j + 1 : Nat) : Int) := by rw [wrap_i64 (by omega) (by omega)]; omega
    simp [e0, e3]
    refine (next_c hb j ht (by omega) (by omega)).mono ?_
    rintro _ s1 ⟨hs1, rfl⟩
    rw [hs1]
    clear hs1 s1
    simp [e0, e3]
    refine (pletter_c _ _).mono ?_
    rintro _ s1 ⟨hs1, rfl⟩
    rw [hs1]
    clear hs1 s1
    by_cases hl : isL (bt t (a + j)) = true
    · have hlt : a + j < t.size := bt_lt (by intro h; rw [h] at hl; revert hl; decide)
      rw [scanW_step hlt (by simp [hl])] at hs
      simp [e0, e3, hl, w1]
      exact ⟨n - 1, by omega, j + 1, by omega, by omega, by rw [← hs]; rfl⟩
    · simp [e0, e3, hl]
      refine (next_c hb j ht (by omega) (by omega)).mono ?_
      rintro _ s1 ⟨hs1, rfl⟩
      rw [hs1]
      clear hs1 s1
      simp [e0, e3, hl]
      refine (pdigit_c _ _).mono ?_
      rintro _ s1 ⟨hs1, rfl⟩
      rw [hs1]
      clear hs1 s1
      by_cases hd : isD (bt t (a + j)) = true
      · have hlt : a + j < t.size := bt_lt (by intro h; rw [h] at hd; revert hd; decide)
        rw [scanW_step hlt (by simp [hd])] at hs
        simp [e0, e3, hl, hd, w1]
        exact ⟨n - 1, by omega, j + 1, by omega, by omega, by rw [← hs]; rfl⟩
      · rw [scanW_stop (by simp [hl, hd])] at hs
        simp [e0, e3, hl, hd, hL, ← hs]
  · simp [hL]
end
end Go.Pv

/- The program's lexer: numbers. -/
namespace Go.Pv
open Go.Proofs
set_option linter.unusedVariables false
set_option linter.unusedSimpArgs false
set_option maxRecDepth 100000
set_option maxHeartbeats 1000000
section
variable {t : ByteArray} {a : Nat} {M S : PV} {c : Bool} {s : St} {p : Nat}
def numLen (t : ByteArray) (a : Nat) : Nat := if isD (bt t a) = true ∨ (bt t a = 46 ∧ isD (bt t (a + 1)) = true) then numEnd t a - a else 0
set_option maxHeartbeats 400000
theorem number_c (hb : s p = some (scB t a M S c)) (ht : t.size ≤ 1000000) (ha : a < t.size) : PCalls Tryd.prog 21 [.pt p 0 0] s (fun r s' => s' = s ∧ r = .ret (.lit (.int .i64 (numLen t a : Nat)))) := by
  refine PCalls.of Tryd.func21 rfl (by rfl) (by simp [Tryd.ntmps21]) ?_
  refine pwC_sound _ _ _ _ ?_
  refine pwC_cut fun K hK => ?_
  simp [Tryd.ntmps21]
  refine hK _ _ ?_
  clear hK K
  refine pwC_cut fun K hK => ?_
  have fin : ∀ e : Env, e 0 = .pt p 0 0 → numLen t a = numEnd t a - a → K e s := by
    intro e e0 hN
    refine hK _ _ ?_
    clear hK K
    rw [hN]
    refine pwC_cut fun K hK => ?_
    simp [e0]
    refine hK _ _ ?_
    clear hK K
    simp
    refine PW.loop (fun n e s' => ∃ j : Nat, 1 ≤ j ∧ a + j + n = t.size ∧ e 0 = .pt p 0 0 ∧ e 3 = .lit (.int .i64 j) ∧ scanW (numP t) t.size (a + j) = numEnd t a ∧ s' = s) (t.size - (a + 1)) ⟨1, by omega, by omega, by simp [e0], by simp, rfl, rfl⟩ ?_
    clear e0 e
    rintro n e s' ⟨j, hj1, hj, e0, e3, hs, rfl⟩
    refine pwC_sound _ _ _ _ ?_
    have w1 : IntKind.i64.wrap ((j : Int) + 1) = ((j + 1 : Nat) : Int) := by rw [wrap_i64 (by omega) (by omega)]; omega
    have w2 : IntKind.i64.wrap ((j : Int) - 1) = ((j - 1 : Nat) : Int) := by rw [wrap_i64 (by omega) (by omega)]; omega
    simp [e0, e3]
    refine (next_c hb j ht (by omega) (by omega)).mono ?_
    rintro _ s1 ⟨hs1, rfl⟩
    rw [hs1]
    clear hs1 s1
    simp [e0, e3, w2]
    refine (next_c hb (j - 1) ht (by omega) (by omega)).mono ?_
    rintro _ s1 ⟨hs1, rfl⟩
    rw [hs1]
    clear hs1 s1
    simp [e0, e3, w2]
    refine (pletter_c _ _).mono ?_
    rintro _ s1 ⟨hs1, rfl⟩
    rw [hs1]
    clear hs1 s1
    have hpj : a + j - 1 = a + (j - 1) := by omega
    have hgo : numP t (a + j) = true → a + j < t.size := fun h => bt_lt (by
      intro h0
      have hl0 : isL 0 = false := by decide
      have hd0 : isD 0 = false := by decide
      simp [numP, h0, hl0, hd0] at h)
    have hnx : numP t (a + j) = true → scanW (numP t) t.size (a + (j + 1)) = numEnd t a := fun h => by
      rw [scanW_step (hgo h) h] at hs; exact hs
    have hno : numP t (a + j) = false → numEnd t a - a = j := fun h => by rw [scanW_stop h] at hs; omega
    have hX : numP t (a + j) = (isL (bt t (a + j)) || isD (bt t (a + j)) || decide (bt t (a + j) = 46) || ((decide (bt t (a + j) = 43) || decide (bt t (a + j) = 45)) && (decide (bt t (a + (j - 1)) = 101) || decide (bt t (a + (j - 1)) = 69)))) := by unfold numP; rw [hpj]
    rw [hX] at hnx hno hgo
    clear hX
    by_cases hl : isL (bt t (a + j)) = true
    · simp [e0, e3, hl, w1]
      have := hgo (by simp [hl])
      exact ⟨n - 1, by omega, j + 1, by omega, by omega, by omega, hnx (by simp [hl])⟩
    · simp [e0, e3, hl, w1]
      refine (pdigit_c _ _).mono ?_
      rintro _ s1 ⟨hs1, rfl⟩
      rw [hs1]
      clear hs1 s1
      by_cases hd : isD (bt t (a + j)) = true
      · simp [e0, e3, hl, hd, w1]
        have := hgo (by simp [hd])
        exact ⟨n - 1, by omega, j + 1, by omega, by omega, by omega, hnx (by simp [hd])⟩
      · by_cases h46 : bt t (a + j) = 46
        · rw [h46] at hl hd
          simp [e0, e3, hl, hd, h46, w1]
          have := hgo (by simp [h46])
          exact ⟨n - 1, by omega, j + 1, by omega, by omega, by omega, hnx (by simp [h46])⟩
        · by_cases a1 : bt t (a + j) = 43 <;> by_cases a2 : bt t (a + j) = 45 <;> by_cases a3 : bt t (a + (j - 1)) = 101 <;> by_cases a4 : bt t (a + (j - 1)) = 69 <;> (try (exfalso; omega)) <;>
          (simp [a1, a2] at hl hd
           simp [e0, e3, hl, hd, h46, w1, a1, a2, a3, a4]
           first
           | (have := hgo (by simp [hl, hd, h46, a1, a2, a3, a4]); exact ⟨n - 1, by omega, j + 1, by omega, by omega, by omega, hnx (by simp [hl, hd, h46, a1, a2, a3, a4])⟩)
           | (rw [hno (by simp [hl, hd, h46, a1, a2, a3, a4])]; exact ⟨_, sub_refl, rfl, rfl⟩)
           | (rw [hno (by simp [hl, hd, h46, a1, a2, a3, a4])]; done))
  clear hK
  simp
  refine (next_c hb 0 ht (by omega) (by omega)).mono ?_
  rintro _ s1 ⟨hs1, rfl⟩
  rw [hs1]
  clear hs1 s1
  simp
  refine (pdigit_c _ _).mono ?_
  rintro _ s1 ⟨hs1, rfl⟩
  rw [hs1]
  clear hs1 s1
  by_cases hd : isD (bt t a) = true
  · simp [hd]
    exact fin _ (by simp) (by simp [numLen, hd])
  · simp [hd]
    refine (next_c hb 0 ht (by omega) (by omega)).mono ?_
    rintro _ s1 ⟨hs1, rfl⟩
    rw [hs1]
    clear hs1 s1
    by_cases h46 : bt t a = 46
    · rw [h46] at hd
      simp [hd, h46]
      refine (next_c hb 1 ht (by omega) (by omega)).mono ?_
      rintro _ s1 ⟨hs1, rfl⟩
      rw [hs1]
      clear hs1 s1
      simp [hd, h46]
      refine (pdigit_c _ _).mono ?_
      rintro _ s1 ⟨hs1, rfl⟩
      rw [hs1]
      clear hs1 s1
      by_cases hd1 : isD (bt t (a + 1)) = true
      · simp [hd, h46, hd1]
        exact fin _ (by simp) (by simp [numLen, h46, hd1])
      · simp [hd, h46, hd1, numLen]
    · simp [hd, h46, numLen]
end
end Go.Pv

/- The program's lexer: quoted texts. -/
namespace Go.Pv
open Go.Proofs
set_option linter.unusedVariables false
set_option linter.unusedSimpArgs false
set_option maxRecDepth 100000
set_option maxHeartbeats 400000
section
variable {t : ByteArray} {a : Nat} {M S : PV} {c : Bool} {s : St} {p : Nat}
def quotLen (t : ByteArray) (a : Nat) (q : Int) : Nat := if bt t a = q then (match quotE t q (a + 1) with | some e => e - a | none => 0) else 0
theorem pquoted_c (hb : s p = some (scB t a M S c)) (q : Int) (hq : q ≠ 10) (ht : t.size ≤ 1000000) (ha : a < t.size) : PCalls Tryd.prog 48 [.pt p 0 0, .lit (.int .u8 q)] s (fun r s' => s' = s ∧ r = .ret (.lit (.int .i64 (quotLen t a q : Nat)))) := by
  refine PCalls.of Tryd.func48 rfl (by rfl) (by simp [Tryd.ntmps48]) ?_
  refine pwC_sound _ _ _ _ ?_
  refine pwC_cut fun K hK => ?_
  simp [Tryd.ntmps48]
  refine hK _ _ ?_
  clear hK K
  refine pwC_cut fun K hK => ?_
  simp
  refine (next_c hb 0 ht (by omega) (by omega)).mono ?_
  rintro _ s1 ⟨hs1, rfl⟩
  rw [hs1]
  clear hs1 s1
  by_cases hc : bt t a = q
  · have hN : quotLen t a q = (match quotE t q (a + 1) with | some e => e - a | none => 0) := if_pos hc
    rw [hN] at hK
    simp [hc]
    refine hK _ _ ?_
    clear hK K hN
    refine pwC_cut fun K hK => ?_
    simp
    refine PW.loop (fun n e s' => ∃ j : Nat, 1 ≤ j ∧ a + j + n = t.size + 1 ∧ e 0 = .pt p 0 0 ∧ e 1 = .lit (.int .u8 q) ∧ e 5 = .lit (.int .i64 j) ∧ quotE t q (a + j) = quotE t q (a + 1) ∧ s' = s) (t.size - a) ⟨1, by omega, by omega, by simp, by simp, by simp, rfl, rfl⟩ ?_
    rintro n e s' ⟨j, hj1, hj, e0, e1, e5, hs, rfl⟩
    refine pwC_sound _ _ _ _ ?_
    rw [quotE_eq] at hs
    have w0 : IntKind.i64.wrap ((a : Int) + (j : Int)) = (a : Int) + (j : Int) := wrap_i64 (by omega) (by omega)
    have w1 : IntKind.i64.wrap ((j : Int) + 1) = ((j + 1 : Nat) : Int) := by rw [wrap_i64 (by omega) (by omega)]; omega
    have w2 : IntKind.i64.wrap ((j : Int) + 1 + 1) = ((j + 2 : Nat) : Int) := by rw [wrap_i64 (by omega) (by omega)]; omega
    refine pwC_cut fun K1 hK1 => ?_
    refine pwC_cut fun K2 hK2 => ?_
    simp
    refine PW.drawn (fun i => 0) [0, 1, 2, 3, 4, 5, 6, 7, 8, 9, 10, 11] mixed_ (fun _ _ _ _ h => h) (by kernel_rfl) ?_
    by_cases hlt : a + j < t.size
    · have hlt' : (a : Int) + (j : Int) < t.size := by omega
      simp [e0, e1, e5, hb, w0, hlt, hlt']
      refine hK2 _ _ ?_
      clear hK2 K2
      rw [if_pos hlt] at hs
      simp
      refine hK1 _ _ ?_
      clear hK1 K1
      refine pwC_cut fun K1 hK1 => ?_
      simp [e0, e5]
      refine (next_c hb j ht (by omega) (by omega)).mono ?_
      rintro _ s1 ⟨hs1, rfl⟩
      rw [hs1]
      clear hs1 s1
      by_cases h1 : bt t (a + j) = q
      · rw [if_pos h1] at hs
        simp [e0, e1, e5, h1, w1, ← hs]
        exact ⟨_, sub_refl, rfl, by rw [show a + j + 1 - a = j + 1 by omega]; rfl⟩
      · rw [if_neg h1] at hs
        by_cases h2 : bt t (a + j) = 10
        · rw [if_pos h2] at hs
          have hq' : ¬ (10 : Int) = q := fun h => hq h.symm
          simp [e0, e1, e5, h2, hq', ← hs]
        · rw [if_neg h2] at hs
          by_cases h3 : bt t (a + j) = 92
          · rw [if_pos h3] at hs
            rw [h3] at h1
            simp [e0, e1, e5, h1, h3, w1]
            refine (next_c hb (j + 1) ht (by omega) (by omega)).mono ?_
            rintro _ s1 ⟨hs1, rfl⟩
            rw [hs1]
            clear hs1 s1
            by_cases h4 : bt t (a + (j + 1)) = 10
            · rw [if_pos (by rw [← h4]; rfl)] at hs
              simp [e0, e1, e5, h1, h3, h4, w1, ← hs]
            · rw [if_neg (fun h => h4 (by rw [← h]; rfl))] at hs
              simp [e0, e1, e5, h1, h3, h4, w1]
              refine hK1 _ _ ?_
              clear hK1 K1
              simp [e0, e1, e5, w1, w2]
              exact ⟨n - 2, by omega, j + 2, by omega, by omega, by omega, hs⟩
          · rw [if_neg h3] at hs
            simp [e0, e1, e5, h1, h2, h3, w1]
            refine hK1 _ _ ?_
            clear hK1 K1
            simp [e0, e1, e5, w1]
            exact ⟨n - 1, by omega, j + 1, by omega, by omega, by omega, hs⟩
    · have hlt' : ¬ (a : Int) + (j : Int) < t.size := by omega
      rw [if_neg hlt] at hs
      simp [e0, e1, e5, hb, w0, hlt, hlt']
      refine hK2 _ _ ?_
      simp
      refine hK _ _ ?_
      simp [← hs]
  · have hN : quotLen t a q = 0 := if_neg hc
    rw [hN]
    simp [hc]
theorem char_c (hb : s p = some (scB t a M S c)) (ht : t.size ≤ 1000000) (ha : a < t.size) : PCalls Tryd.prog 22 [.pt p 0 0] s (fun r s' => s' = s ∧ r = .ret (.lit (.int .i64 (quotLen t a 39 : Nat)))) := by
  refine PCalls.of Tryd.func22 rfl (by rfl) (by simp [Tryd.ntmps22]) ?_
  refine pwC_sound _ _ _ _ ?_
  simp [Tryd.ntmps22]
  refine (pquoted_c hb 39 (by decide) ht ha).mono ?_
  rintro _ s1 ⟨hs1, rfl⟩
  rw [hs1]
  simp
theorem str_c (hb : s p = some (scB t a M S c)) (ht : t.size ≤ 1000000) (ha : a < t.size) : PCalls Tryd.prog 23 [.pt p 0 0] s (fun r s' => s' = s ∧ r = .ret (.lit (.int .i64 (quotLen t a 34 : Nat)))) := by
  refine PCalls.of Tryd.func23 rfl (by rfl) (by simp [Tryd.ntmps23]) ?_
  refine pwC_sound _ _ _ _ ?_
  simp [Tryd.ntmps23]
  refine (pquoted_c hb 34 (by decide) ht ha).mono ?_
  rintro _ s1 ⟨hs1, rfl⟩
  rw [hs1]
  simp
end
end Go.Pv

/- The program's lexer: signs. -/
namespace Go.Pv
open Go.Proofs
set_option linter.unusedVariables false
set_option linter.unusedSimpArgs false
set_option maxRecDepth 100000
set_option maxHeartbeats 400000
def prefB (u x : ByteArray) : Bool := decide (x.size ≤ u.size) && decide (u.extract 0 x.size = x)
theorem prefix0_c (u x : ByteArray) (s : St) : PCalls Tryd.prog 64 [.lit (.string u), .lit (.string x)] s (fun r s' => s' = s ∧ r = .ret (.lit (.bool (prefB u x)))) := by
  refine PCalls.of Tryd.func64 rfl (by rfl) (by simp [Tryd.ntmps64]) ?_
  refine pwC_sound _ _ _ _ ?_
  by_cases h1 : x.size ≤ u.size
  · have h2 : (x.size : Int) ≤ u.size := by omega
    simp [Tryd.ntmps64, prefB, h1, h2]
  · have h2 : ¬ (x.size : Int) ≤ u.size := by omega
    simp [Tryd.ntmps64, prefB, h1, h2]
theorem prefix_c (u x : ByteArray) (s : St) : PCalls Tryd.prog 49 [.lit (.string u), .lit (.string x)] s (fun r s' => s' = s ∧ r = .ret (.lit (.bool (prefB u x)))) := by
  refine PCalls.of Tryd.func49 rfl (by rfl) (by simp [Tryd.ntmps49]) ?_
  refine pwC_sound _ _ _ _ ?_
  simp [Tryd.ntmps49]
  refine (prefix0_c u x _).mono ?_
  rintro _ s1 ⟨hs1, rfl⟩
  rw [hs1]
  simp
theorem prefB_rest (t : ByteArray) (a : Nat) (x : ByteArray) (ha : a ≤ t.size) : prefB (t.extract a t.size) x = beg t a x := by
  have hs : (t.extract a t.size).size = t.size - a := by simp
  unfold prefB beg
  rw [hs]
  by_cases h : x.size ≤ t.size - a
  · have h' : a + x.size ≤ t.size := by omega
    have he : (t.extract a t.size).extract 0 x.size = t.extract a (a + x.size) := by
      rw [ByteArray.extract_extract]
      congr 1
      omega
    simp only [h, h', he, decide_true, Bool.true_and]
  · have h' : ¬ a + x.size ≤ t.size := by omega
    simp only [h, h', decide_false, Bool.false_and]
section
variable {t : ByteArray} {a : Nat} {M : PV} {c : Bool} {s : St} {p : Nat}
theorem sign_c {k : VK} (hb : s p = some (scB t a M (strs k signsL) c)) (ht : t.size ≤ 1000000) (ha : a ≤ t.size) : PCalls Tryd.prog 24 [.pt p 0 0] s (fun r s' => s' = s ∧ r = .ret (.lit (.int .i64 (signLen t a signsL : Nat)))) := by
  refine PCalls.of Tryd.func24 rfl (by rfl) (by simp [Tryd.ntmps24]) ?_
  refine pwC_sound _ _ _ _ ?_
  have hl : ∀ x ∈ signsL, x.size ≤ 3 := by decide
  have hn : signsL.length = 47 := by decide
  generalize signsL = L at *
  simp [Tryd.ntmps24, hb]
  refine PW.loop (fun n e s' => ∃ (j b : Nat), j + n = L.length ∧ e 0 = .pt p 0 0 ∧ e 3 = .lit (.int .i64 b) ∧ e 9 = strs k L ∧ e 10 = .lit (.int .i64 L.length) ∧ e 11 = .lit (.int .i64 j) ∧ (L.drop j).foldl (fun n s => if n < s.size ∧ beg t a s = true then s.size else n) b = signLen t a L ∧ s' = s) L.length ⟨0, 0, by omega, by simp, by simp, by simp, by simp, by simp, rfl, rfl⟩ ?_
  rintro n e s' ⟨j, b, hj, e0, e3, e9, e10, e11, hs, rfl⟩
  refine pwC_sound _ _ _ _ ?_
  by_cases hlt : j < L.length
  · have hlt' : (j : Int) < L.length := by omega
    have hg : L[j]? = some L[j] := List.getElem?_eq_getElem hlt
    have w1 : IntKind.i64.wrap ((j : Int) + 1) = ((j + 1 : Nat) : Int) := by rw [wrap_i64 (by omega) (by omega)]; omega
    rw [List.drop_eq_getElem_cons hlt, List.foldl_cons] at hs
    by_cases hc : b < (L[j]).size
    · have hc' : (b : Int) < (L[j]).size := by omega
      simp [e0, e3, e9, e10, e11, hlt, hlt', hg, hc, hc']
      refine (rest_c hb ht ha).mono ?_
      rintro _ s1 ⟨hs1, rfl⟩
      rw [hs1]
      clear hs1 s1
      simp [e0, e3, e9, e10, e11, hlt, hlt', hg, hc, hc']
      refine (prefix_c _ _ _).mono ?_
      rintro _ s1 ⟨hs1, rfl⟩
      rw [hs1]
      clear hs1 s1
      rw [prefB_rest t a L[j] ha]
      by_cases hx : beg t a L[j] = true
      · rw [if_pos ⟨hc, hx⟩] at hs
        simp [e0, e3, e9, e10, e11, hlt, hlt', hg, hc, hc', hx, w1]
        exact ⟨n - 1, by omega, j + 1, by omega, _, rfl, by omega, hs⟩
      · rw [if_neg (fun h => hx h.2)] at hs
        simp [e0, e3, e9, e10, e11, hlt, hlt', hg, hc, hc', hx, w1]
        exact ⟨n - 1, by omega, j + 1, by omega, _, rfl, by omega, hs⟩
    · have hc' : ¬ (b : Int) < (L[j]).size := by omega
      rw [if_neg (fun h => hc h.1)] at hs
      simp [e0, e3, e9, e10, e11, hlt, hlt', hg, hc, hc', w1]
      exact ⟨n - 1, by omega, j + 1, by omega, _, rfl, by omega, hs⟩
  · have hlt' : ¬ (j : Int) < L.length := by omega
    rw [List.drop_eq_nil_of_le (by omega), List.foldl_nil] at hs
    simp [e0, e3, e9, e10, e11, hlt, hlt', hs]
end
end Go.Pv

/- The program's lexer: the place of a byte in a text. -/
namespace Go.Pv
open Go.Proofs
set_option linter.unusedVariables false
set_option linter.unusedSimpArgs false
set_option maxRecDepth 100000
set_option maxHeartbeats 400000
theorem idxByte0_c (u : ByteArray) (c : Int) (s : St) : PCalls Tryd.prog 73 [.lit (.string u), .lit (.int .u8 c)] s (fun r s' => s' = s ∧ r = .ret (.lit (.int .i64 (Lib.indexByte u.data.toList c.toNat.toUInt8)))) := by
  refine .inr fun g w vs hH hA => ?_
  obtain ⟨v0, v1, rfl⟩ : ∃ v0 v1, vs = #[v0, v1] := by
    have h1 := hA.1
    obtain ⟨l⟩ := vs
    simp at h1
    match l, h1 with
    | [v0, v1], _ => exact ⟨v0, v1, rfl⟩
  obtain ⟨rfl, _⟩ := (hA.2 0 _ v0 rfl rfl).lit_inv
  obtain ⟨rfl, _⟩ := (hA.2 1 _ v1 rfl rfl).lit_inv
  refine ⟨.lit (.int .i64 (Lib.indexByte u.data.toList c.toNat.toUInt8)), .int .i64 (Lib.indexByte u.data.toList c.toNat.toUInt8), s, g, w, ?_, LE.refl _ _, hH, VR.lit _ rfl, rfl, rfl⟩
  rw [run_callFunc_extern Tryd.func73 (by kernel_rfl) (by kernel_rfl) (by kernel_rfl) (e := Extern.BytealgIndexByte.indexByte) (by kernel_rfl), Lib.run_indexByteString]
  rfl
theorem idxByte1_c (u : ByteArray) (c : Int) (s : St) : PCalls Tryd.prog 61 [.lit (.string u), .lit (.int .u8 c)] s (fun r s' => s' = s ∧ r = .ret (.lit (.int .i64 (Lib.indexByte u.data.toList c.toNat.toUInt8)))) := by
  refine PCalls.of Tryd.func61 rfl (by rfl) (by simp [Tryd.ntmps61]) ?_
  refine pwC_sound _ _ _ _ ?_
  simp [Tryd.ntmps61]
  refine (idxByte0_c u c _).mono ?_
  rintro _ s1 ⟨hs1, rfl⟩
  rw [hs1]
  simp
theorem idxByte_c (u : ByteArray) (c : Int) (s : St) : PCalls Tryd.prog 43 [.lit (.string u), .lit (.int .u8 c)] s (fun r s' => s' = s ∧ r = .ret (.lit (.int .i64 (Lib.indexByte u.data.toList c.toNat.toUInt8)))) := by
  refine PCalls.of Tryd.func43 rfl (by rfl) (by simp [Tryd.ntmps43]) ?_
  refine pwC_sound _ _ _ _ ?_
  simp [Tryd.ntmps43]
  refine (idxByte1_c u c _).mono ?_
  rintro _ s1 ⟨hs1, rfl⟩
  rw [hs1]
  simp
end Go.Pv

/- The place of a byte in a text's rest, said with scanW. -/
namespace Go.Pv
open Go.Proofs
set_option linter.unusedVariables false
set_option linter.unusedSimpArgs false
theorem ext_list (t : ByteArray) (a : Nat) : (t.extract a t.size).data.toList = t.data.toList.drop a := by
  simp [ByteArray.data_extract]
  rw [List.take_of_length_le]
  simp
theorem bt_list (t : ByteArray) (a : Nat) (h : a < t.data.toList.length) : ((t.data.toList[a].toNat : Nat) : Int) = bt t a := by
  have h' : a < t.size := by simpa using h
  rw [← bt_get t a h']
  rfl
theorem idxB_drop (t : ByteArray) (c : UInt8) : ∀ (m a : Nat), t.size - a = m → Lib.indexByte (t.data.toList.drop a) c = (if scanW (fun j => decide (bt t j ≠ (c.toNat : Int))) t.size a < t.size then ((scanW (fun j => decide (bt t j ≠ (c.toNat : Int))) t.size a - a : Nat) : Int) else -1)
  | 0, a, hm => by
    have hl : t.data.toList.length = t.size := by simp
    rw [List.drop_eq_nil_of_le (by omega), scanW_end (by omega), if_neg (by omega)]
    rfl
  | m + 1, a, hm => by
    have hl : t.data.toList.length = t.size := by simp
    have ha : a < t.data.toList.length := by omega
    have ih := idxB_drop t c m (a + 1) (by omega)
    rw [List.drop_eq_getElem_cons ha, Lib.indexByte, ih]
    have hb := bt_list t a ha
    by_cases hc : t.data.toList[a] = c
    · have hbc : bt t a = (c.toNat : Int) := by rw [← hb, hc]
      rw [scanW_stop (i := a) (by simp [hbc])]
      simp [hc]
      omega
    · have hbc : ¬ bt t a = (c.toNat : Int) := by
        rw [← hb]
        intro h
        apply hc
        have : t.data.toList[a].toNat = c.toNat := by omega
        exact UInt8.toNat_inj.1 this
      rw [scanW_step (i := a) (by omega) (by simp [hbc])]
      have hge := scanW_ge (fun j => decide (bt t j ≠ (c.toNat : Int))) t.size (a + 1)
      generalize scanW (fun j => decide (bt t j ≠ (c.toNat : Int))) t.size (a + 1) = k at *
      have hc' : (t.data.toList[a] == c) = false := by simpa using hc
      rw [hc']
      by_cases hk : k < t.size
      · simp only [hk, if_true]
        have h1 : ¬ ((k - (a + 1) : Nat) : Int) = -1 := by omega
        simp [h1]
        omega
      · simp [hk]
theorem idxB_rest (t : ByteArray) (a : Nat) (c : UInt8) : Lib.indexByte (t.extract a t.size).data.toList c = (if scanW (fun j => decide (bt t j ≠ (c.toNat : Int))) t.size a < t.size then ((scanW (fun j => decide (bt t j ≠ (c.toNat : Int))) t.size a - a : Nat) : Int) else -1) := by
  rw [ext_list]; exact idxB_drop t c _ a rfl
end Go.Pv

/- The program's lexer: ends of texts. -/
namespace Go.Pv
open Go.Proofs
set_option linter.unusedVariables false
set_option linter.unusedSimpArgs false
set_option maxRecDepth 100000
set_option maxHeartbeats 400000
def sufB (u x : ByteArray) : Bool := decide (x.size ≤ u.size) && decide (u.extract (u.size - x.size) u.size = x)
def trimB (u x : ByteArray) : ByteArray := if sufB u x = true then u.extract 0 (u.size - x.size) else u
theorem suffix0_c (u x : ByteArray) (hu : u.size ≤ 1000000) (s : St) : PCalls Tryd.prog 63 [.lit (.string u), .lit (.string x)] s (fun r s' => s' = s ∧ r = .ret (.lit (.bool (sufB u x)))) := by
  refine PCalls.of Tryd.func63 rfl (by rfl) (by simp [Tryd.ntmps63]) ?_
  refine pwC_sound _ _ _ _ ?_
  by_cases h1 : x.size ≤ u.size
  · have h2 : (x.size : Int) ≤ u.size := by omega
    have w1 : IntKind.i64.wrap ((u.size : Int) - (x.size : Int)) = (u.size : Int) - (x.size : Int) := wrap_i64 (by omega) (by omega)
    have w2 : ((u.size : Int) - (x.size : Int)).toNat = u.size - x.size := by omega
    have w3 : (0 : Int) ≤ (u.size : Int) - (x.size : Int) := by omega
    simp [Tryd.ntmps63, sufB, h1, h2, w1, w2, w3]
  · have h2 : ¬ (x.size : Int) ≤ u.size := by omega
    simp [Tryd.ntmps63, sufB, h1, h2]
theorem suffix_c (u x : ByteArray) (hu : u.size ≤ 1000000) (s : St) : PCalls Tryd.prog 45 [.lit (.string u), .lit (.string x)] s (fun r s' => s' = s ∧ r = .ret (.lit (.bool (sufB u x)))) := by
  refine PCalls.of Tryd.func45 rfl (by rfl) (by simp [Tryd.ntmps45]) ?_
  refine pwC_sound _ _ _ _ ?_
  simp [Tryd.ntmps45]
  refine (suffix0_c u x hu _).mono ?_
  rintro _ s1 ⟨hs1, rfl⟩
  rw [hs1]
  simp
theorem trim0_c (u x : ByteArray) (hu : u.size ≤ 1000000) (s : St) : PCalls Tryd.prog 62 [.lit (.string u), .lit (.string x)] s (fun r s' => s' = s ∧ r = .ret (.lit (.string (trimB u x)))) := by
  refine PCalls.of Tryd.func62 rfl (by rfl) (by simp [Tryd.ntmps62]) ?_
  refine pwC_sound _ _ _ _ ?_
  simp [Tryd.ntmps62]
  refine (suffix0_c u x hu _).mono ?_
  rintro _ s1 ⟨hs1, rfl⟩
  rw [hs1]
  by_cases h : sufB u x = true
  · have h1 : x.size ≤ u.size := by have := h; simp [sufB] at this; exact this.1
    have w1 : IntKind.i64.wrap ((u.size : Int) - (x.size : Int)) = (u.size : Int) - (x.size : Int) := wrap_i64 (by omega) (by omega)
    have w2 : ((u.size : Int) - (x.size : Int)).toNat = u.size - x.size := by omega
    have w3 : (0 : Int) ≤ (u.size : Int) - (x.size : Int) := by omega
    simp [trimB, h, h1, w1, w2, w3]
  · simp [trimB, h]
theorem trim_c (u x : ByteArray) (hu : u.size ≤ 1000000) (s : St) : PCalls Tryd.prog 44 [.lit (.string u), .lit (.string x)] s (fun r s' => s' = s ∧ r = .ret (.lit (.string (trimB u x)))) := by
  refine PCalls.of Tryd.func44 rfl (by rfl) (by simp [Tryd.ntmps44]) ?_
  refine pwC_sound _ _ _ _ ?_
  simp [Tryd.ntmps44]
  refine (trim0_c u x hu _).mono ?_
  rintro _ s1 ⟨hs1, rfl⟩
  rw [hs1]
  simp
end Go.Pv

/- The last byte of a part of a text; newlines skipped. -/
namespace Go.Pv
open Go.Proofs
set_option linter.unusedVariables false
set_option linter.unusedSimpArgs false
theorem ext_one (t : ByteArray) (i : Nat) (h : i < t.size) : t.extract i (i + 1) = ⟨#[t[i]]⟩ := by
  apply ByteArray.ext
  apply Array.ext'
  have hl : t.data.toList.length = t.size := by simp
  rw [ByteArray.data_extract]
  simp
  rw [List.drop_eq_getElem_cons (by omega)]
  rfl
theorem sufB_one (t : ByteArray) (a e : Nat) (b : UInt8) (hae : a ≤ e) (he : e ≤ t.size) : sufB (t.extract a e) ⟨#[b]⟩ = decide (a < e ∧ bt t (e - 1) = (b.toNat : Int)) := by
  have hs : (t.extract a e).size = e - a := by simp; omega
  have h1 : (⟨#[b]⟩ : ByteArray).size = 1 := rfl
  unfold sufB
  rw [hs, h1]
  by_cases h : a < e
  · have h2 : 1 ≤ e - a := by omega
    have h3 : (t.extract a e).extract (e - a - 1) (e - a) = t.extract (e - 1) (e - 1 + 1) := by
      rw [ByteArray.extract_extract]
      congr 1 <;> omega
    rw [h3, ext_one t (e - 1) (by omega)]
    have h4 := bt_get t (e - 1) (by omega)
    simp only [h2, h, decide_true, Bool.true_and, true_and, ← h4]
    congr 1
    apply propext
    constructor
    · intro h5
      have h6 : (⟨#[t[e - 1]]⟩ : ByteArray).data = (⟨#[b]⟩ : ByteArray).data := congrArg _ h5
      simp at h6
      rw [h6]
    · intro h5
      have : t[e - 1] = b := UInt8.toNat_inj.1 (by omega)
      rw [this]
  · have h2 : ¬ 1 ≤ e - a := by omega
    simp [h2, h]
theorem scanW_skip {p q : Nat → Bool} {n : Nat} (hpq : ∀ j, p j = true → q j = true) : ∀ (m i : Nat), n - i = m → scanW q n i = scanW q n (scanW p n i)
  | 0, i, hm => by rw [scanW_end (p := p) (by omega)]
  | m + 1, i, hm => by
    by_cases hp : p i = true
    · rw [scanW_step (p := p) (by omega) hp, scanW_step (p := q) (by omega) (hpq i hp)]
      exact scanW_skip hpq m (i + 1) (by omega)
    · rw [scanW_stop (p := p) (by simpa using hp)]
end Go.Pv

/- The program's lexer: a line. -/
namespace Go.Pv
open Go.Proofs
set_option linter.unusedVariables false
set_option linter.unusedSimpArgs false
set_option maxRecDepth 100000
set_option maxHeartbeats 400000
theorem linP_ne {t : ByteArray} {a : Nat} : ∀ j, decide (bt t j ≠ 10) = true → linP t a j = true := by
  intro j h
  simp at h
  simp [linP, h]
/-- What TrimSuffix leaves of a line. -/
theorem trim_line (t : ByteArray) (a e : Nat) (hae : a ≤ e) (he : e ≤ t.size) : trimB (t.extract a e) ⟨#[13]⟩ = t.extract a (if a < e ∧ bt t (e - 1) = 13 then e - 1 else e) := by
  have hs : (t.extract a e).size = e - a := by simp; omega
  unfold trimB
  rw [sufB_one t a e 13 hae he]
  by_cases h : a < e ∧ bt t (e - 1) = 13
  · have h' : a < e ∧ bt t (e - 1) = ((13 : UInt8).toNat : Int) := h
    rw [if_pos h, if_pos (by simpa using h'), hs, ByteArray.extract_extract]
    congr 1
    have : (⟨#[13]⟩ : ByteArray).size = 1 := rfl
    omega
  · have h' : ¬ (a < e ∧ bt t (e - 1) = ((13 : UInt8).toNat : Int)) := h
    rw [if_neg h, if_neg (by simpa using h')]
section
variable {t : ByteArray} {a : Nat} {M S : PV} {c : Bool} {s : St} {p : Nat}
def lineLen (t : ByteArray) (a : Nat) (c : Bool) : Nat := if bt t a = 35 ∧ c = true then lineEnd t a - a else 0
theorem line_c (hb : s p = some (scB t a M S c)) (ht : t.size ≤ 1000000) (ha : a < t.size) : PCalls Tryd.prog 19 [.pt p 0 0] s (fun r s' => s' = s ∧ r = .ret (.lit (.int .i64 (lineLen t a c : Nat)))) := by
  refine PCalls.of Tryd.func19 rfl (by rfl) (by simp [Tryd.ntmps19]) ?_
  refine pwC_sound _ _ _ _ ?_
  refine pwC_cut fun K hK => ?_
  simp [Tryd.ntmps19]
  refine hK _ _ ?_
  clear hK K
  refine pwC_cut fun K hK => ?_
  cases c with
  | false =>
    simp [hb, lineLen]
  | true =>
    simp [hb]
    refine (next_c hb 0 ht (by omega) (by omega)).mono ?_
    rintro _ s1 ⟨hs1, rfl⟩
    rw [hs1]
    clear hs1 s1
    by_cases h35 : bt t a = 35
    · have hN : lineLen t a true = lineEnd t a - a := if_pos ⟨h35, rfl⟩
      rw [hN] at hK
      clear hN
      simp [h35]
      refine hK _ _ ?_
      clear hK K
      refine pwC_cut fun K hK => ?_
      simp
      refine (rest_c hb ht (by omega)).mono ?_
      rintro _ s1 ⟨hs1, rfl⟩
      rw [hs1]
      clear hs1 s1
      have husz : (t.extract a t.size).size = t.size - a := by simp
      have hu1 : ∀ k, k ≤ t.size - a → (t.extract a t.size).extract k (t.size - a) = t.extract (a + k) t.size := fun k hk => by
        rw [ByteArray.extract_extract]; congr 1; omega
      have hu2 : ∀ k, k ≤ t.size - a → (t.extract a t.size).extract 0 k = t.extract a (a + k) := fun k hk => by
        rw [ByteArray.extract_extract]; congr 1; omega
      generalize t.extract a t.size = u at *
      simp
      refine hK _ _ ?_
      clear hK K
      refine pwC_cut fun K hK => ?_
      simp
      refine hK _ _ ?_
      clear hK K
      refine PW.loop (fun n e s' => ∃ k : Nat, a + k + n = t.size ∧ e 3 = .lit (.string u) ∧ e 4 = .lit (.int .i64 k) ∧ scanW (linP t a) t.size (a + k) = scanW (linP t a) t.size a ∧ s' = s) (t.size - a) ⟨0, by omega, by simp, by simp, rfl, rfl⟩ ?_
      rintro n e s' ⟨k, hk, e3, e4, hs, rfl⟩
      refine pwC_sound _ _ _ _ ?_
      have hk2 : k ≤ t.size - a := by omega
      have hsk := scanW_skip (linP_ne (t := t) (a := a)) _ (a + k) (n := t.size) rfl
      have hge := scanW_ge (fun j => decide (bt t j ≠ 10)) t.size (a + k)
      simp [e3, e4, husz, hk2]
      refine (idxByte_c _ 10 _).mono ?_
      rintro _ s1 ⟨hs1, rfl⟩
      rw [hs1]
      clear hs1 s1
      rw [hu1 k hk2, show (10 : Int).toNat.toUInt8 = 10 from rfl, idxB_rest, show (((10 : UInt8).toNat : Nat) : Int) = 10 from rfl]
      have hbar : scanW (fun j => decide (bt t j ≠ 10)) t.size (a + k) < t.size → bt t (scanW (fun j => decide (bt t j ≠ 10)) t.size (a + k)) = 10 := fun h => by
        have := scanW_bar h
        simpa using this
      generalize scanW (fun j => decide (bt t j ≠ 10)) t.size (a + k) = J at *
      by_cases hJ : J < t.size
      · have h10 := hbar hJ
        have hJa : a < J := by
          rcases Nat.lt_or_ge a J with h | h
          · exact h
          · have : J = a := by omega
            subst this; omega
        rw [if_pos hJ]
        obtain ⟨d, hd⟩ : ∃ d, J = a + k + d := ⟨J - (a + k), by omega⟩
        have hd' : J - (a + k) = d := by omega
        rw [hd']
        have w1 : IntKind.i64.wrap ((k : Int) + (d : Int)) = ((k + d : Nat) : Int) := by rw [wrap_i64 (by omega) (by omega)]; omega
        have hnn : ¬ (d : Int) < 0 := by omega
        have w2 : ((k : Int) + (d : Int)).toNat = k + d := by omega
        have w3 : (0 : Int) ≤ (k : Int) + (d : Int) := by omega
        have hkd : k + d ≤ t.size - a := by omega
        have hu3 : u.extract 0 (k + d) = t.extract a J := by rw [hu2 (k + d) hkd]; congr 1; omega
        have w4 : IntKind.i64.wrap ((k : Int) + (d : Int) + 1) = ((k + d + 1 : Nat) : Int) := by rw [wrap_i64 (by omega) (by omega)]; omega
        have hszJ : (t.extract a J).size ≤ 1000000 := by simp; omega
        have hnx : linP t a J = true → scanW (linP t a) t.size (a + (k + d + 1)) = scanW (linP t a) t.size a := fun h => by
          rw [← hs, hsk, scanW_step hJ h]; congr 1; omega
        have hno : linP t a J = false → lineEnd t a = (if a + 1 < J ∧ bt t (J - 1) = 13 then J - 1 else J) := fun h => by
          have : scanW (linP t a) t.size a = J := by rw [← hs, hsk, scanW_stop h]
          simp only [lineEnd, this, hJ, true_and]
        simp [e3, e4, husz, hnn, w1, w2, w3, hkd, hu3]
        refine (trim_c (t.extract a J) ⟨#[13]⟩ hszJ _).mono ?_
        rintro _ s1 ⟨hs1, rfl⟩
        rw [hs1]
        clear hs1 s1
        rw [trim_line t a J (by omega) (by omega)]
        simp [e3, e4, husz, w2, w3, hkd, hu3]
        refine (suffix_c (t.extract a J) ⟨#[92]⟩ hszJ _).mono ?_
        rintro _ s1 ⟨hs1, rfl⟩
        rw [hs1]
        clear hs1 s1
        rw [sufB_one t a J 92 (by omega) (by omega), show (((92 : UInt8).toNat : Nat) : Int) = 92 from rfl]
        by_cases q1 : bt t (J - 1) = 92
        · simp [q1, hJa, e3, e4, w4]
          exact ⟨n - (d + 1), by omega, k + d + 1, by omega, by omega, hnx (by simp [linP, q1])⟩
        · by_cases q2 : bt t (J - 1) = 13
          · have hJ1 : a < J - 1 := by
              rcases Nat.lt_or_ge a (J - 1) with h | h
              · exact h
              · have : J - 1 = a := by omega
                rw [this] at q2; omega
            simp [q1, q2, hJa]
            refine (suffix_c (t.extract a (J - 1)) ⟨#[92]⟩ (by simp; omega) _).mono ?_
            rintro _ s1 ⟨hs1, rfl⟩
            rw [hs1]
            clear hs1 s1
            rw [sufB_one t a (J - 1) 92 (by omega) (by omega), show (((92 : UInt8).toNat : Nat) : Int) = 92 from rfl]
            have hJ2 : J - 1 - 1 = J - 2 := by omega
            rw [hJ2]
            by_cases q3 : bt t (J - 2) = 92
            · simp [q1, q2, q3, hJa, hJ1, e3, e4, w4]
              exact ⟨n - (d + 1), by omega, k + d + 1, by omega, by omega, hnx (by simp [linP, q2, q3]; omega)⟩
            · have hE := hno (by simp [linP, q1, q2, q3, h10])
              rw [if_pos ⟨by omega, q2⟩] at hE
              simp [q1, q2, q3, hJa, hJ1, e3, e4, w4, hE]
              exact ⟨_, sub_refl, rfl, by rw [Nat.min_eq_left (by omega)]⟩
          · have hE := hno (by simp [linP, q1, q2, h10])
            rw [if_neg (fun h => q2 h.2)] at hE
            simp [q1, q2, hJa]
            refine (suffix_c (t.extract a J) ⟨#[92]⟩ hszJ _).mono ?_
            rintro _ s1 ⟨hs1, rfl⟩
            rw [hs1]
            clear hs1 s1
            rw [sufB_one t a J 92 (by omega) (by omega), show (((92 : UInt8).toNat : Nat) : Int) = 92 from rfl]
            simp [q1, q2, hJa, hE]
            exact ⟨_, sub_refl, rfl, by rw [Nat.min_eq_left (by omega)]⟩
      · rw [if_neg hJ]
        have hE : lineEnd t a = t.size := by
          have h1 : scanW (linP t a) t.size a = t.size := by
            rw [← hs, hsk, scanW_end (by omega)]
            have := scanW_le (linP t a) (n := t.size) (i := a) (by omega)
            rw [← hs, hsk, scanW_end (by omega)] at this
            omega
          simp [lineEnd, h1]
        simp [e3, e4, husz, hE]
    · simp [h35, lineLen]
end
end Go.Pv

/- The library's strings.Index, strings.Contains and strings.Fields at this program: printed by the kit's lay-plain, the needed part. -/
namespace Go.Proofs
open Go.Shelf
def Tryd.lays143_ren : Go.Shelf.Ren := ⟨fun | 143 => 59 | 219 => 72 | 217 => 61 | 225 => 77 | 224 => 78 | 267 => 79 | 266 => 73 | 314 => 84 | n => n, fun | 9 => 9 | 3 => 3 | 4 => 4 | 5 => 5 | 46 => 125 | 146 => 133 | 51 => 98 | n => n, fun | 1 => 2 | n => n⟩
theorem Tryd.lays143 : Go.Proofs.Lays.n143 Tryd.prog Tryd.lays143_ren := {
  mixed := by kernel_rfl
  f143 := Tryd.func59.trans (congrArg some (by kernel_rfl))
  f217 := Tryd.func61.trans (congrArg some (by kernel_rfl))
  f219 := Tryd.func72.trans (congrArg some (by kernel_rfl))
  f224 := Tryd.func78.trans (congrArg some (by kernel_rfl))
  f225 := Tryd.func77.trans (congrArg some (by kernel_rfl))
  f266 := Tryd.func73.trans (congrArg some (by kernel_rfl))
  f267 := Tryd.func79.trans (congrArg some (by kernel_rfl))
  f314 := Tryd.func84.trans (congrArg some (by kernel_rfl))
  t3 := Tryd.underlying3
  a3 := Tryd.isAgg3
  z3 := Tryd.sizeOf3
  v3 := Tryd.zeroValue3
  t4 := Tryd.underlying4
  a4 := Tryd.isAgg4
  z4 := Tryd.sizeOf4
  v4 := Tryd.zeroValue4
  t5 := Tryd.underlying5
  a5 := Tryd.isAgg5
  z5 := Tryd.sizeOf5
  v5 := Tryd.zeroValue5
  t9 := Tryd.underlying9
  a9 := Tryd.isAgg9
  z9 := Tryd.sizeOf9
  v9 := Tryd.zeroValue9
  t46 := Tryd.underlying125
  a46 := Tryd.isAgg125
  z46 := Tryd.sizeOf125
  v46 := Tryd.zeroValue125
  t51 := Tryd.underlying98
  a51 := Tryd.isAgg98
  z51 := Tryd.sizeOf98
  v51 := Tryd.zeroValue98
  t146 := Tryd.underlying133
  a146 := Tryd.isAgg133
  z146 := Tryd.sizeOf133
  v146 := Tryd.zeroValue133
  g1 := by kernel_rfl }
open Go.RowKit Go.Lib in
theorem Tryd.strings_Index (s sub : ByteArray) (m : Int) (w : World) (hs : s.size < 4294967281) (hm : w.cell? ⟨2, 0, none⟩ = some (.int .i64 m)) :
    Calls Tryd.prog 59 #[.string s, .string sub] w fun e w' => e = .returned (.int .i64 (Lib.index s.data.toList sub.data.toList)) ∧ w' = w := Any.strings_Index Tryd.lays143 s sub m w hs hm
def Tryd.lays144_ren : Go.Shelf.Ren := ⟨fun | 144 => 60 | 143 => 59 | 219 => 72 | 217 => 61 | 225 => 77 | 224 => 78 | 267 => 79 | 266 => 73 | 314 => 84 | n => n, fun | 9 => 9 | 4 => 4 | 3 => 3 | 5 => 5 | 46 => 125 | 146 => 133 | 51 => 98 | n => n, fun | 1 => 2 | n => n⟩
theorem Tryd.lays144 : Go.Proofs.Lays.n144 Tryd.prog Tryd.lays144_ren := {
  mixed := by kernel_rfl
  f143 := Tryd.func59.trans (congrArg some (by kernel_rfl))
  f144 := Tryd.func60.trans (congrArg some (by kernel_rfl))
  f217 := Tryd.func61.trans (congrArg some (by kernel_rfl))
  f219 := Tryd.func72.trans (congrArg some (by kernel_rfl))
  f224 := Tryd.func78.trans (congrArg some (by kernel_rfl))
  f225 := Tryd.func77.trans (congrArg some (by kernel_rfl))
  f266 := Tryd.func73.trans (congrArg some (by kernel_rfl))
  f267 := Tryd.func79.trans (congrArg some (by kernel_rfl))
  f314 := Tryd.func84.trans (congrArg some (by kernel_rfl))
  t3 := Tryd.underlying3
  a3 := Tryd.isAgg3
  z3 := Tryd.sizeOf3
  v3 := Tryd.zeroValue3
  t4 := Tryd.underlying4
  a4 := Tryd.isAgg4
  z4 := Tryd.sizeOf4
  v4 := Tryd.zeroValue4
  t5 := Tryd.underlying5
  a5 := Tryd.isAgg5
  z5 := Tryd.sizeOf5
  v5 := Tryd.zeroValue5
  t9 := Tryd.underlying9
  a9 := Tryd.isAgg9
  z9 := Tryd.sizeOf9
  v9 := Tryd.zeroValue9
  t46 := Tryd.underlying125
  a46 := Tryd.isAgg125
  z46 := Tryd.sizeOf125
  v46 := Tryd.zeroValue125
  t51 := Tryd.underlying98
  a51 := Tryd.isAgg98
  z51 := Tryd.sizeOf98
  v51 := Tryd.zeroValue98
  t146 := Tryd.underlying133
  a146 := Tryd.isAgg133
  z146 := Tryd.sizeOf133
  v146 := Tryd.zeroValue133
  g1 := by kernel_rfl }
open Go.RowKit Go.Lib in
theorem Tryd.strings_Contains_one (s : ByteArray) (c : UInt8) (w : World) :
    Calls Tryd.prog 60 #[.string s, .string ⟨#[c]⟩] w fun e w' => e = .returned (.bool (decide (0 ≤ Lib.indexByte s.data.toList c))) ∧ w' = w := Any.strings_Contains_one Tryd.lays144 s c w
def Tryd.lays157_ren : Go.Shelf.Ren := ⟨fun | 157 => 17 | 229 => 38 | 199 => 39 | 261 => 58 | 311 => 70 | 312 => 71 | n => n, fun | 9 => 9 | 31 => 35 | 3 => 3 | 5 => 5 | 4 => 4 | 119 => 80 | 0 => 0 | 40 => 82 | 152 => 95 | 21 => 21 | 154 => 97 | 51 => 98 | 141 => 100 | 196 => 114 | 193 => 111 | 198 => 117 | 49 => 115 | 194 => 112 | 201 => 120 | 226 => 124 | 46 => 125 | 227 => 126 | n => n, fun | 0 => 0 | 6 => 1 | n => n⟩
theorem Tryd.lays157 : Go.Proofs.Lays.n157 Tryd.prog Tryd.lays157_ren := {
  mixed := by kernel_rfl
  f157 := Tryd.func17.trans (congrArg some (by kernel_rfl))
  f199 := Tryd.func39.trans (congrArg some (by kernel_rfl))
  f229 := Tryd.func38.trans (congrArg some (by kernel_rfl))
  f261 := Tryd.func58.trans (congrArg some (by kernel_rfl))
  f311 := Tryd.func70.trans (congrArg some (by kernel_rfl))
  f312 := Tryd.func71.trans (congrArg some (by kernel_rfl))
  t0 := Tryd.underlying0
  a0 := Tryd.isAgg0
  z0 := Tryd.sizeOf0
  v0 := Tryd.zeroValue0
  t3 := Tryd.underlying3
  a3 := Tryd.isAgg3
  z3 := Tryd.sizeOf3
  v3 := Tryd.zeroValue3
  t4 := Tryd.underlying4
  a4 := Tryd.isAgg4
  z4 := Tryd.sizeOf4
  v4 := Tryd.zeroValue4
  t5 := Tryd.underlying5
  a5 := Tryd.isAgg5
  z5 := Tryd.sizeOf5
  v5 := Tryd.zeroValue5
  t9 := Tryd.underlying9
  a9 := Tryd.isAgg9
  z9 := Tryd.sizeOf9
  v9 := Tryd.zeroValue9
  t21 := Tryd.underlying21
  a21 := Tryd.isAgg21
  z21 := Tryd.sizeOf21
  v21 := Tryd.zeroValue21
  t31 := Tryd.underlying35
  a31 := Tryd.isAgg35
  z31 := Tryd.sizeOf35
  v31 := Tryd.zeroValue35
  t40 := Tryd.underlying82
  a40 := Tryd.isAgg82
  z40 := Tryd.sizeOf82
  v40 := Tryd.zeroValue82
  t46 := Tryd.underlying125
  a46 := Tryd.isAgg125
  z46 := Tryd.sizeOf125
  v46 := Tryd.zeroValue125
  t49 := Tryd.underlying115
  a49 := Tryd.isAgg115
  z49 := Tryd.sizeOf115
  v49 := Tryd.zeroValue115
  t51 := Tryd.underlying98
  a51 := Tryd.isAgg98
  z51 := Tryd.sizeOf98
  v51 := Tryd.zeroValue98
  t119 := Tryd.underlying80
  a119 := Tryd.isAgg80
  z119 := Tryd.sizeOf80
  t141 := Tryd.underlying100
  a141 := Tryd.isAgg100
  z141 := Tryd.sizeOf100
  v141 := Tryd.zeroValue100
  t152 := Tryd.underlying95
  a152 := Tryd.isAgg95
  z152 := Tryd.sizeOf95
  v152 := Tryd.zeroValue95
  t154 := Tryd.underlying97
  a154 := Tryd.isAgg97
  z154 := Tryd.sizeOf97
  v154 := Tryd.zeroValue97
  t193 := Tryd.underlying111
  a193 := Tryd.isAgg111
  z193 := Tryd.sizeOf111
  v193 := Tryd.zeroValue111
  t194 := Tryd.underlying112
  a194 := Tryd.isAgg112
  z194 := Tryd.sizeOf112
  v194 := Tryd.zeroValue112
  t196 := Tryd.underlying114
  a196 := Tryd.isAgg114
  z196 := Tryd.sizeOf114
  v196 := Tryd.zeroValue114
  t198 := Tryd.underlying117
  a198 := Tryd.isAgg117
  z198 := Tryd.sizeOf117
  v198 := Tryd.zeroValue117
  t201 := Tryd.underlying120
  a201 := Tryd.isAgg120
  z201 := Tryd.sizeOf120
  v201 := Tryd.zeroValue120
  t226 := Tryd.underlying124
  a226 := Tryd.isAgg124
  z226 := Tryd.sizeOf124
  v226 := Tryd.zeroValue124
  t227 := Tryd.underlying126
  a227 := Tryd.isAgg126
  z227 := Tryd.sizeOf126
  v227 := Tryd.zeroValue126
  g0 := by kernel_rfl
  g6 := by kernel_rfl }
open Go.RowKit Go.Lib in
theorem Tryd.strings_Fields (s : ByteArray) (w : World) (hs : s.size < 4294967281) (hascii : ∀ (j : Nat) b, s.data.toList[j]? = some b → b.toNat < 128) (htab : Lib.TabIs Tryd.prog w "strings.asciiSpace" .u8 Lib.asciiSpaceTab) :
    Calls Tryd.prog 17 #[.string s] w fun e w' =>
      e = .returned (.slice (some ⟨w.heap.size, 0, none⟩) (Lib.fields s.data.toList).length (Lib.fields s.data.toList).length) ∧ w' = w.alloc (.cells ((Lib.fields s.data.toList).map fun l => Value.string ⟨l.toArray⟩).toArray 9) := Any.strings_Fields Tryd.lays157 (by kernel_rfl) (by kernel_rfl) s w hs hascii htab
end Go.Proofs

/- The library's Index, Contains and Fields, over plain values; the variables that they read. -/
namespace Go.Pv
open Go.Proofs
set_option linter.unusedVariables false
set_option linter.unusedSimpArgs false
set_option maxRecDepth 100000
set_option maxHeartbeats 400000
/-- The program's variables that are read: the table of spaces, a bound. -/
def tabP : List PV := Lib.asciiSpaceTab.map fun z => .lit (.int .u8 z)
def Vars (s : St) : Prop := s 0 = some (.ro tabP) ∧ ∃ m : Int, s 2 = some (.ro [.lit (.int .i64 m)])
theorem Vars.upd {s : St} (h : Vars s) {i : Nat} {b : Option Blk} (h0 : i ≠ 0) (h2 : i ≠ 2) : Vars (s.upd i b) := by
  obtain ⟨q1, m, q2⟩ := h
  exact ⟨by rw [St.upd_ne _ _ (Ne.symm h0)]; exact q1, m, by rw [St.upd_ne _ _ (Ne.symm h2)]; exact q2⟩
theorem Vars.sub {s s' : St} (h : Vars s) (hs : s.sub s') : Vars s' := ⟨hs _ _ h.1, h.2.imp fun m hm => hs _ _ hm⟩
theorem Vars.ne {s : St} (h : Vars s) {i : Nat} {ty : TypeId} {sz : Nat} {els : List (List PV)} (hi : s i = some (.row ty sz els)) : i ≠ 0 ∧ i ≠ 2 := by
  constructor
  · intro e; subst e; rw [h.1] at hi; cases hi
  · obtain ⟨m, hm⟩ := h.2
    intro e; subst e; rw [hm] at hi; cases hi
theorem Vars.fresh {s : St} (h : Vars s) {i : Nat} (hi : Fresh s i) : i ≠ 0 ∧ i ≠ 2 := by
  constructor
  · intro e; subst e; have h1 := h.1; rw [show s _ = none from hi] at h1; cases h1
  · obtain ⟨m, hm⟩ := h.2
    intro e; subst e; rw [show s _ = none from hi] at hm; cases hm
theorem two_args {w : World} {g : G} {a b : Value} (ha : scal a = true) (hb : scal b = true) {vs : Array Value} (hA : Args w g [.lit a, .lit b] vs) : vs = #[a, b] := by
  obtain ⟨l⟩ := vs
  have h1 := hA.1
  simp at h1
  match l, h1 with
  | [v0, v1], _ =>
    obtain ⟨rfl, _⟩ := (hA.2 0 _ v0 rfl rfl).lit_inv
    obtain ⟨rfl, _⟩ := (hA.2 1 _ v1 rfl rfl).lit_inv
    rfl
theorem one_arg {w : World} {g : G} {a : Value} (ha : scal a = true) {vs : Array Value} (hA : Args w g [.lit a] vs) : vs = #[a] := by
  obtain ⟨l⟩ := vs
  have h1 := hA.1
  simp at h1
  match l, h1 with
  | [v0], _ =>
    obtain ⟨rfl, _⟩ := (hA.2 0 _ v0 rfl rfl).lit_inv
    rfl
/-- A library's function that gives one value and leaves the world as it was. -/
theorem PCalls.lib {P : Program} {f : FuncId} {args : List PV} {s : St} {v : Value} (he : enters P f = true) (hv : scal v = true) (h : ∀ (g : G) (w : World) (vs : Array Value), Holds g s w → Args w g args vs → Calls P f vs w fun e w' => e = .returned v ∧ w' = w) :
    PCalls P f args s (fun r s' => s' = s ∧ r = .ret (.lit v)) := by
  refine .inl ⟨he, fun g w vs hH hA => (h g w vs hH hA).mono ?_⟩
  rintro e w' ⟨rfl, rfl⟩
  exact ⟨_, s, g, .refl _ _, hH, .ret _ _ (.lit v hv), rfl, rfl⟩
theorem Holds.cellRo {s : St} {g : G} {w : World} (hH : Holds g s w) {k : Nat} (hk : k < 64) {cs : List PV} (hs : s k = some (.ro cs)) : ∃ arr ty fr, w.heap[k]? = some (.cells arr ty fr) ∧ arr.size = cs.length ∧ ∀ (f : Nat) (v : Value), cs[f]? = some (.lit v) → w.cell? ⟨k, f, none⟩ = some v := by
  have hg := (g.gl k hk).2
  obtain ⟨_, _, _, _⟩ | ⟨_, _, _⟩ | ⟨_, arr, ty, fr, hz, hb, hsz, h5⟩ := hH.blk k _ hs
  rw [hg] at hb
  refine ⟨arr, ty, fr, hb, hsz, fun f v hf => ?_⟩
  obtain ⟨u, q1, _, q3⟩ := h5 f _ hf
  obtain ⟨rfl, _⟩ := q3.lit_inv
  rw [hg] at q1
  exact q1
theorem index_c (u x : ByteArray) (hu : u.size < 4294967281) (s : St) (hv : Vars s) : PCalls Tryd.prog 59 [.lit (.string u), .lit (.string x)] s (fun r s' => s' = s ∧ r = .ret (.lit (.int .i64 (Lib.index u.data.toList x.data.toList)))) := by
  refine PCalls.lib (by kernel_rfl) rfl fun g w vs hH hA => ?_
  rw [two_args rfl rfl hA]
  obtain ⟨m, hm⟩ := hv.2
  obtain ⟨_, _, _, _, _, hc⟩ := hH.cellRo (by decide) hm
  exact Tryd.strings_Index u x m w hu (hc 0 _ rfl)
theorem contains1_c (u : ByteArray) (c : UInt8) (s : St) : PCalls Tryd.prog 60 [.lit (.string u), .lit (.string ⟨#[c]⟩)] s (fun r s' => s' = s ∧ r = .ret (.lit (.bool (decide (0 ≤ Lib.indexByte u.data.toList c))))) := by
  refine PCalls.lib (by kernel_rfl) rfl fun g w vs hH hA => ?_
  rw [two_args rfl rfl hA]
  exact Tryd.strings_Contains_one u c w
theorem var_ro {s : St} {g : G} {w : World} (hH : Holds g s w) (hv : Vars s) : Lib.TabIs Tryd.prog w "strings.asciiSpace" .u8 Lib.asciiSpaceTab := by
  obtain ⟨arr, ty, fr, h1, h2, h3⟩ := hH.cellRo (by decide) hv.1
  unfold Lib.TabIs World.var?
  rw [show Tryd.prog.globalNamed "strings.asciiSpace" = some 0 by kernel_rfl]
  simp only [Option.bind_some, h1]
  congr 1
  apply Array.ext'
  apply List.ext_getElem?
  intro j
  rw [Array.getElem?_toList]
  by_cases hj : j < arr.size
  · have hjt : j < Lib.asciiSpaceTab.length := by rw [h2] at hj; simpa [tabP] using hj
    have := h3 j (.int .u8 Lib.asciiSpaceTab[j]) (by rw [tabP, List.getElem?_map, List.getElem?_eq_getElem hjt]; rfl)
    simp only [World.cell?, h1] at this
    have h4 : arr[j]? = some (.int .u8 Lib.asciiSpaceTab[j]) := by simpa using this
    rw [h4]
    simp [hjt]
  · have hjt : Lib.asciiSpaceTab.length ≤ j := by rw [h2] at hj; simp [tabP] at hj; omega
    rw [Array.getElem?_eq_none (by omega)]
    simp [hjt]
theorem fields_c (u : ByteArray) (hu : u.size < 4294967281) (ha : ∀ (j : Nat) b, u.data.toList[j]? = some b → b.toNat < 128) (s : St) (hv : Vars s) :
    PCalls Tryd.prog 17 [.lit (.string u)] s (fun r s' => s' = s ∧ r = .ret (strs .tight ((Lib.fields u.data.toList).map fun l => ⟨l.toArray⟩))) := by
  refine .inl ⟨by kernel_rfl, fun g w vs hH hA => ?_⟩
  rw [one_arg rfl hA]
  refine (Tryd.strings_Fields u w hu ha (var_ro hH hv)).mono ?_
  rintro e w' ⟨rfl, rfl⟩
  generalize hfs : Lib.fields u.data.toList = fs
  obtain ⟨H1, l1⟩ := hH.pushed (.cells ((fs.map fun l => Value.string ⟨l.toArray⟩).toArray) 9 (0, 0))
  have hsz : (pushed w (.cells ((fs.map fun l => Value.string ⟨l.toArray⟩).toArray) 9 (0, 0))).heap.size = w.heap.size + 1 := pushed_size _ _
  have HF := H1.freeze (k := w.heap.size) (by rw [hsz]; omega) (fun j hj hjb => by
    obtain ⟨b, hb⟩ := Option.ne_none_iff_exists'.1 hj
    have := (hH.blk j b hb).lt
    omega)
  refine ⟨_, s, _, l1.trans (LE.freeze _), HF, .ret _ _ ?_, rfl, rfl⟩
  have hcell : ∀ (i : Nat) (x : List UInt8), fs[i]? = some x → (pushed w (.cells ((fs.map fun l => Value.string ⟨l.toArray⟩).toArray) 9 (0, 0))).cell? ⟨w.heap.size, i, none⟩ = some (.string ⟨x.toArray⟩) := fun i x hx => by
    have := pushed_new w (.cells ((fs.map fun l => Value.string ⟨l.toArray⟩).toArray) 9 (0, 0))
    simp only [World.cell?, this]
    simp [hx]
  have hlen : (List.map (fun x => PV.lit (Value.string x)) (fs.map fun l => (⟨l.toArray⟩ : ByteArray))).length = fs.length := by simp
  have := VR.vec (w := pushed w (.cells ((fs.map fun l => Value.string ⟨l.toArray⟩).toArray) 9 (0, 0))) (g := g.freeze w.heap.size) .tight ((fs.map fun l => (⟨l.toArray⟩ : ByteArray)).map fun x => PV.lit (.string x)) (some ⟨w.heap.size, 0, none⟩) fs.length 1
    (fun i _ => match fs[i]? with | some x => .string ⟨x.toArray⟩ | none => undef) (by simp) (fun _ => by simp) (fun h => by cases h) (fun h => by cases h) (fun i x hx => by
      rw [List.getElem?_map, List.getElem?_map] at hx
      cases hfi : fs[i]? with
      | none => rw [hfi] at hx; cases hx
      | some y => rw [hfi] at hx; cases hx; rfl) (fun i x j c hx hc => by
      rw [List.getElem?_map, List.getElem?_map] at hx
      cases hfi : fs[i]? with
      | none => rw [hfi] at hx; cases hx
      | some y =>
        rw [hfi] at hx
        cases hx
        cases j with
        | zero => exact ⟨_, rfl, .inr rfl, by rw [add_plain]; simpa using hcell i y hfi, rfl⟩
        | succ j => simp [PV.cells] at hc) (fun i x j c hx hc => by
      rw [List.getElem?_map, List.getElem?_map] at hx
      cases hfi : fs[i]? with
      | none => rw [hfi] at hx; cases hx
      | some y =>
        rw [hfi] at hx
        cases hx
        cases j with
        | zero => cases hc; exact .lit _ rfl
        | succ j => simp [PV.cells] at hc)
  rw [hlen] at this
  exact this
end Go.Pv

/- The program's lexer: a comment. -/
namespace Go.Pv
open Go.Proofs
set_option linter.unusedVariables false
set_option linter.unusedSimpArgs false
set_option maxRecDepth 100000
set_option maxHeartbeats 400000
theorem prefix_beg (t : ByteArray) (x : List UInt8) (a : Nat) (ha : a ≤ t.size) : x.isPrefixOf (t.data.toList.drop a) = beg t a ⟨x.toArray⟩ := by
  have hl : t.data.toList.length = t.size := by simp
  have hx : (⟨x.toArray⟩ : ByteArray).size = x.length := by simp [ByteArray.size]
  have he : (t.extract a (a + x.length)).data.toList = (t.data.toList.drop a).take x.length := by
    rw [ByteArray.data_extract]
    simp
  unfold beg
  rw [hx, Bool.eq_iff_iff, List.isPrefixOf_iff_prefix]
  simp only [Bool.and_eq_true, decide_eq_true_eq]
  constructor
  · rintro ⟨r, hr⟩
    have h1 : a + x.length ≤ t.size := by
      have := congrArg List.length hr
      simp at this
      omega
    refine ⟨h1, ?_⟩
    apply ByteArray.ext
    apply Array.ext'
    rw [he, ← hr]
    simp
  · rintro ⟨h1, h2⟩
    have h3 := congrArg (fun y : ByteArray => y.data.toList) h2
    simp only [he] at h3
    refine ⟨(t.data.toList.drop a).drop x.length, ?_⟩
    have : x = (t.data.toList.drop a).take x.length := h3.symm
    conv => lhs; arg 1; rw [this]
    exact List.take_append_drop _ _
theorem index_drop (t : ByteArray) (x : List UInt8) (hx : x ≠ []) : ∀ (m a : Nat), t.size - a = m → Lib.index (t.data.toList.drop a) x = (if scanW (fun j => !beg t j ⟨x.toArray⟩) t.size a < t.size then ((scanW (fun j => !beg t j ⟨x.toArray⟩) t.size a - a : Nat) : Int) else -1)
  | 0, a, hm => by
    have hl : t.data.toList.length = t.size := by simp
    rw [List.drop_eq_nil_of_le (by omega), scanW_end (by omega), if_neg (by omega)]
    unfold Lib.index
    cases x with
    | nil => exact absurd rfl hx
    | cons => rfl
  | m + 1, a, hm => by
    have hl : t.data.toList.length = t.size := by simp
    have ha : a < t.data.toList.length := by omega
    have ih := index_drop t x hx m (a + 1) (by omega)
    have hp := prefix_beg t x a (by omega)
    rw [List.drop_eq_getElem_cons ha] at hp ⊢
    rw [Lib.index, ih, hp]
    by_cases hc : beg t a ⟨x.toArray⟩ = true
    · rw [scanW_stop (i := a) (by simp [hc]), if_pos hc, if_pos (by omega), Nat.sub_self]
      rfl
    · rw [scanW_step (i := a) (by omega) (by simp [hc])]
      have hge := scanW_ge (fun j => !beg t j ⟨x.toArray⟩) t.size (a + 1)
      generalize scanW (fun j => !beg t j ⟨x.toArray⟩) t.size (a + 1) = k at *
      rw [if_neg hc]
      by_cases hk : k < t.size
      · simp only [hk, if_true]
        have h1 : ¬ ((k - (a + 1) : Nat) : Int) = -1 := by omega
        simp [h1]
        omega
      · simp [hk]
theorem index_rest (t : ByteArray) (x : List UInt8) (hx : x ≠ []) (a : Nat) : Lib.index (t.extract a t.size).data.toList x = (if scanW (fun j => !beg t j ⟨x.toArray⟩) t.size a < t.size then ((scanW (fun j => !beg t j ⟨x.toArray⟩) t.size a - a : Nat) : Int) else -1) := by
  rw [ext_list]; exact index_drop t x hx _ a rfl
theorem scanW_congr {p q : Nat → Bool} {n : Nat} : ∀ (m i : Nat), n - i = m → (∀ j, i ≤ j → j < n → p j = q j) → scanW p n i = scanW q n i
  | 0, i, hm, h => by rw [scanW_end (by omega), scanW_end (by omega)]
  | m + 1, i, hm, h => by
    have h1 := h i (Nat.le_refl _) (by omega)
    by_cases hp : p i = true
    · rw [scanW_step (p := p) (i := i) (by omega) hp, scanW_step (p := q) (i := i) (by omega) (by rw [← h1]; exact hp)]
      exact scanW_congr m (i + 1) (by omega) (fun j hj hn => h j (by omega) hn)
    · rw [scanW_stop (p := p) (i := i) (by simpa using hp), scanW_stop (p := q) (i := i) (by rw [← h1]; simpa using hp)]
theorem bt_ext (t : ByteArray) (e : Nat) (he : e ≤ t.size) (j : Nat) (hj : j < e) : bt (t.extract 0 e) j = bt t j := by
  have h1 : j < (t.extract 0 e).size := by simp; omega
  rw [← bt_get _ j h1, ← bt_get t j (by omega)]
  simp [ByteArray.getElem_eq_getElem_data]
theorem nl_ext (t : ByteArray) (a e : Nat) (hae : a ≤ e) (he : e ≤ t.size) : decide (0 ≤ Lib.indexByte (t.extract a e).data.toList 10) = hasNL t a e := by
  have h1 : t.extract a e = (t.extract 0 e).extract a (t.extract 0 e).size := by
    rw [ByteArray.extract_extract]
    simp
    congr 1 <;> omega
  have hs : (t.extract 0 e).size = e := by simp; omega
  rw [h1, idxB_rest, hs, show (((10 : UInt8).toNat : Nat) : Int) = 10 from rfl]
  rw [scanW_congr (q := fun j => decide (bt t j ≠ 10)) (e - a) a rfl (fun j h2 h3 => by rw [bt_ext t e he j h3])]
  unfold hasNL
  generalize scanW (fun j => decide (bt t j ≠ 10)) e a = k
  by_cases h : k < e
  · rw [if_pos h]
    simp [h]
  · rw [if_neg h]
    simp [h]
theorem beg_byte {t : ByteArray} {a : Nat} {b : UInt8} {x : List UInt8} (h : beg t a ⟨(b :: x).toArray⟩ = true) : bt t a = (b.toNat : Int) := by
  have ha : a ≤ t.size := by have := beg_le h; omega
  rw [← prefix_beg t _ a ha, List.isPrefixOf_iff_prefix] at h
  obtain ⟨r, hr⟩ := h
  have hl : t.data.toList.length = t.size := by simp
  have hlt : a < t.data.toList.length := by
    have := congrArg List.length hr
    simp at this
    omega
  rw [List.drop_eq_getElem_cons hlt] at hr
  simp at hr
  rw [← bt_list t a hlt]
  have h1 := hr.1
  simp at h1 ⊢
  rw [← h1]
section
variable {t : ByteArray} {a : Nat} {M S : PV} {c : Bool} {s : St} {p : Nat}
def isC1 (t : ByteArray) (a : Nat) : Bool := beg t a ⟨#[47, 47]⟩
def isC2 (t : ByteArray) (a : Nat) : Bool := beg t a ⟨#[47, 42]⟩
theorem comment_c (hv : Vars s) (hb : s p = some (scB t a M S c)) (ht : t.size ≤ 1000000) (ha : a ≤ t.size) : PCalls Tryd.prog 41 [.pt p 0 0] s (fun r s' => r = .ret (.lit (.bool (isC1 t a || isC2 t a))) ∧
    s' = s.upd p (some (scB t (cmtEnd t a) M S (if isC1 t a then c else if isC2 t a then c || hasNL t a (cmtEnd t a) else c)))) := by
  refine PCalls.of Tryd.func41 rfl (by rfl) (by simp [Tryd.ntmps41]) ?_
  refine PW.cutR fun R hR hC => ?_
  simp [Tryd.ntmps41]
  refine hR _ _ ?_
  clear hR hC R
  refine PW.cutR fun R hR hC => ?_
  simp
  refine (rest_c hb ht ha).mono ?_
  rintro _ s1 ⟨hs1, rfl⟩
  rw [hs1]
  clear hs1 s1
  have husz : (t.extract a t.size).size = t.size - a := by simp
  simp
  refine hR _ _ ?_
  clear hR hC R
  refine PW.cutR fun R hR hC => ?_
  simp
  refine (prefix_c _ _ _).mono ?_
  rintro _ s1 ⟨hs1, rfl⟩
  rw [hs1]
  clear hs1 s1
  rw [prefB_rest t a _ ha]
  by_cases h1 : beg t a ⟨#[47, 47]⟩ = true
  · have hE : cmtEnd t a = scanW (fun j => decide (bt t j ≠ 10)) t.size a := by unfold cmtEnd; rw [if_pos h1]
    have hge := scanW_ge (fun j => decide (bt t j ≠ 10)) t.size a
    have hle := scanW_le (fun j => decide (bt t j ≠ 10)) ha
    rw [hE]
    simp [h1, isC1]
    refine (idxByte_c _ 10 _).mono ?_
    rintro _ s1 ⟨hs1, rfl⟩
    rw [hs1]
    clear hs1 s1
    rw [show (10 : Int).toNat.toUInt8 = 10 from rfl, idxB_rest, show (((10 : UInt8).toNat : Nat) : Int) = 10 from rfl]
    generalize scanW (fun j => decide (bt t j ≠ 10)) t.size a = J at *
    by_cases hJ : J < t.size
    · rw [if_pos hJ]
      have hn : ¬ ((J - a : Nat) : Int) < 0 := by omega
      have w1 : IntKind.i64.wrap ((a : Int) + ((J - a : Nat) : Int)) = (J : Int) := by rw [wrap_i64 (by omega) (by omega)]; omega
      simp [hn, hb, w1, h1]
    · rw [if_neg hJ]
      have hJ2 : J = t.size := by omega
      subst hJ2
      have w1 : IntKind.i64.wrap ((a : Int) + ((t.size - a : Nat) : Int)) = (t.size : Int) := by rw [wrap_i64 (by omega) (by omega)]; omega
      simp [hb, husz, w1, h1]
  · simp [h1, isC1]
    refine (prefix_c _ _ _).mono ?_
    rintro _ s1 ⟨hs1, rfl⟩
    rw [hs1]
    clear hs1 s1
    rw [prefB_rest t a _ ha]
    by_cases h2 : beg t a ⟨#[47, 42]⟩ = true
    · have hsz := beg_le h2
      have h22 : (⟨#[47, 42]⟩ : ByteArray).size = 2 := rfl
      rw [h22] at hsz
      have hE : cmtEnd t a = (if scanW (fun j => !beg t j ⟨#[42, 47]⟩) t.size (a + 2) < t.size then scanW (fun j => !beg t j ⟨#[42, 47]⟩) t.size (a + 2) + 2 else t.size) := by unfold cmtEnd; rw [if_neg h1, if_pos h2]
      have hle := cmtEnd_le (t := t) (i := a) ha
      have hu1 : (t.extract a t.size).extract 2 (t.size - a) = t.extract (a + 2) t.size := by
        rw [ByteArray.extract_extract]; congr 1; omega
      have h2s : 2 ≤ t.size - a := by omega
      simp [h1, h2, husz, h2s]
      rw [hu1]
      refine (index_c (t.extract (a + 2) t.size) ⟨#[42, 47]⟩ (by simp; omega) _ hv).mono ?_
      rintro _ s1 ⟨hs1, rfl⟩
      rw [hs1]
      clear hs1 s1
      rw [show (⟨#[42, 47]⟩ : ByteArray).data.toList = [42, 47] from rfl, index_rest t [42, 47] (by simp), show (⟨[42, 47].toArray⟩ : ByteArray) = ⟨#[42, 47]⟩ from rfl]
      have hge := scanW_ge (fun j => !beg t j ⟨#[42, 47]⟩) t.size (a + 2)
      have hend : ∀ E : Nat, E = cmtEnd t a → a ≤ E → (t.extract a t.size).extract 0 (E - a) = t.extract a E := fun E hE1 hE2 => by
        rw [ByteArray.extract_extract]; congr 1 <;> omega
      generalize scanW (fun j => !beg t j ⟨#[42, 47]⟩) t.size (a + 2) = J at *
      have fin : ∀ (E : Nat), E = cmtEnd t a → a ≤ E → True := fun _ _ _ => trivial
      by_cases hJ : J < t.size
      · rw [if_pos hJ] at hE ⊢
        rw [hE] at hle
        obtain ⟨E, hEE⟩ : ∃ E, E = J + 2 := ⟨_, rfl⟩
        rw [← hEE] at hE hle
        have w1 : IntKind.i64.wrap (((J - (a + 2) : Nat) : Int) + 4) = ((E - a : Nat) : Int) := by rw [wrap_i64 (by omega) (by omega)]; omega
        have hn : ¬ ((E - a : Nat) : Int) < 4 := by omega
        have hn' : ¬ (E - a) < 4 := by omega
        have hx := hend E hE.symm (by omega)
        have hlez : E - a ≤ t.size - a := by omega
        have w2 : IntKind.i64.wrap ((a : Int) + ((E - a : Nat) : Int)) = (E : Int) := by rw [wrap_i64 (by omega) (by omega)]; omega
        rw [hE]
        cases c with
        | true =>
          simp [hb, w1, hn, hn', h1, h2, isC1, isC2, w2]
        | false =>
          simp [hb, w1, hn, hn', husz, hlez, hx]
          refine (contains1_c _ 10 _).mono ?_
          rintro _ s1 ⟨hs1, rfl⟩
          rw [hs1]
          clear hs1 s1
          rw [nl_ext t a E (by omega) hle]
          simp [hb, w1, hn, hn', h1, h2, isC1, isC2, w2]
      · rw [if_neg hJ] at hE ⊢
        have hx := hend t.size hE.symm ha
        have w1 : IntKind.i64.wrap 3 = 3 := by decide
        have w2 : IntKind.i64.wrap ((a : Int) + ((t.size - a : Nat) : Int)) = (t.size : Int) := by rw [wrap_i64 (by omega) (by omega)]; omega
        rw [hE]
        cases c with
        | true =>
          simp [hb, w1, h1, h2, isC1, isC2, w2, husz]
        | false =>
          simp [hb, w1, husz, hx]
          refine (contains1_c _ 10 _).mono ?_
          rintro _ s1 ⟨hs1, rfl⟩
          rw [hs1]
          clear hs1 s1
          rw [nl_ext t a t.size ha (Nat.le_refl _)]
          simp [hb, w1, h1, h2, isC1, isC2, w2, husz]
    · have hE : cmtEnd t a = a := by unfold cmtEnd; rw [if_neg h1, if_neg h2]
      rw [hE] at hR
      simp [h1, h2]
      refine hR _ _ ?_
      refine pwC_sound _ _ _ _ ?_
      simp [h1, h2, isC1, isC2, St.upd_self hb]
end
end Go.Pv

/- The program's lexer: what stands before a token. -/
namespace Go.Pv
open Go.Proofs
set_option linter.unusedVariables false
set_option linter.unusedSimpArgs false
set_option maxRecDepth 100000
set_option maxHeartbeats 400000
theorem scanW_cut {p : Nat → Bool} {n : Nat} : ∀ (m i : Nat), n - i = m → scanW p (scanW p n i) i = scanW p n i
  | 0, i, hm => by rw [scanW_end (n := n) (by omega)]; exact scanW_end (Nat.le_refl _)
  | m + 1, i, hm => by
    by_cases hp : p i = true
    · rw [scanW_step (n := n) (i := i) (by omega) hp]
      have hge := scanW_ge p n (i + 1)
      rw [scanW_step (i := i) (by omega) hp]
      exact scanW_cut m (i + 1) (by omega)
    · rw [scanW_stop (n := n) (i := i) (by simpa using hp)]
      exact scanW_stop (by simpa using hp)
theorem c1_facts {t : ByteArray} {i : Nat} (c : Bool) (h : isC1 t i = true) : i < pieceEnd t i ∧ pieceEnd t i = cmtEnd t i ∧ clearB t i (pieceEnd t i) c = c := by
  have hb : bt t i = 47 := beg_byte h
  have hle := beg_le h
  have h2 : (⟨#[47, 47]⟩ : ByteArray).size = 2 := rfl
  unfold isC1 at h
  have hE : cmtEnd t i = scanW (fun j => decide (bt t j ≠ 10)) t.size i := by unfold cmtEnd; rw [if_pos h]
  have hP : pieceEnd t i = cmtEnd t i := by simp [pieceEnd, isB, hb]
  have hgt : i < cmtEnd t i := by
    rw [hE, scanW_step (by omega) (by simp [hb])]
    exact scanW_ge _ _ (i + 1)
  refine ⟨by rw [hP]; exact hgt, hP, ?_⟩
  have hN : hasNL t i (cmtEnd t i) = false := by
    unfold hasNL
    rw [hE, scanW_cut _ i rfl]
    simp
  rw [hP]
  simp [clearB, hb, hN]
theorem c2_facts {t : ByteArray} {i : Nat} (c : Bool) (h1 : ¬ isC1 t i = true) (h : isC2 t i = true) : i < pieceEnd t i ∧ pieceEnd t i = cmtEnd t i ∧ clearB t i (pieceEnd t i) c = (c || hasNL t i (cmtEnd t i)) := by
  have hb : bt t i = 47 := beg_byte h
  have hle := beg_le h
  have h2 : (⟨#[47, 42]⟩ : ByteArray).size = 2 := rfl
  have hP : pieceEnd t i = cmtEnd t i := by simp [pieceEnd, isB, hb]
  unfold isC1 at h1
  unfold isC2 at h
  have hgt : i < cmtEnd t i := by
    unfold cmtEnd
    rw [if_neg h1, if_pos h]
    have hge := scanW_ge (fun j => !beg t j ⟨#[42, 47]⟩) t.size (i + 2)
    simp only
    split <;> omega
  refine ⟨by rw [hP]; exact hgt, hP, ?_⟩
  rw [hP]
  cases hN : hasNL t i (cmtEnd t i) <;> simp [clearB, hb, hN]
theorem c0_facts {t : ByteArray} {i : Nat} (h1 : ¬ isC1 t i = true) (h2 : ¬ isC2 t i = true) : cmtEnd t i = i := by
  unfold isC1 at h1
  unfold isC2 at h2
  unfold cmtEnd
  rw [if_neg h1, if_neg h2]
theorem nl_here {t : ByteArray} {i j e : Nat} (hij : i ≤ j) (hje : j < e) (h : bt t j = 10) : hasNL t i e = true := by
  unfold hasNL
  have hsub : ∀ (m i : Nat), j - i = m → i ≤ j → scanW (fun k => decide (bt t k ≠ 10)) e i ≤ j := by
    intro m
    induction m with
    | zero =>
      intro i hm hi
      have : i = j := by omega
      subst this
      rw [scanW_stop (by simp [h])]
      exact Nat.le_refl _
    | succ m ih =>
      intro i hm hi
      by_cases hb : bt t i = 10
      · rw [scanW_stop (by simp [hb])]; exact hi
      · rw [scanW_step (by omega) (by simp [hb])]
        exact ih (i + 1) (by omega) (by omega)
  have := hsub _ i rfl hij
  simp only [decide_eq_true_eq]
  omega
section
variable {t : ByteArray} {a : Nat} {M S : PV} {c : Bool} {s : St} {p : Nat}
def BefI (t : ByteArray) (a : Nat) (M S : PV) (c : Bool) (s : St) (p n : Nat) (e : Env) (s' : St) : Prop := ∃ (i : Nat) (d : Bool), i + n = t.size ∧ a ≤ i ∧ e 0 = .pt p 0 0 ∧ e 3 = .lit (.int .i64 a) ∧ s' = s.upd p (some (scB t i M S d)) ∧ bef t i d = bef t a c
theorem before_c (hv : Vars s) (hb : s p = some (scB t a M S c)) (ht : t.size ≤ 1000000) (ha : a ≤ t.size) : PCalls Tryd.prog 18 [.pt p 0 0] s (fun r s' => r = .ret (.lit (.string (t.extract a (bef t a c).1))) ∧
    s' = s.upd p (some (scB t (bef t a c).1 M S (bef t a c).2))) := by
  refine PCalls.of Tryd.func18 rfl (by rfl) (by simp [Tryd.ntmps18]) ?_
  refine PW.cutR fun R hR hC => ?_
  simp [Tryd.ntmps18]
  refine hR _ _ ?_
  clear hR hC R
  refine PW.cutR fun R hR hC => ?_
  simp [hb]
  refine hR _ _ ?_
  clear hR hC R
  refine PW.cutR fun R hR hC => ?_
  simp
  obtain ⟨hp0, hp2⟩ := hv.ne hb
  refine PW.loop (BefI t a M S c s p) (t.size - a) ⟨a, c, by omega, by omega, by simp, by simp, (St.upd_self hb).symm, rfl⟩ ?_
  rintro n e s' ⟨i, d, hn, hai, e0, e3, rfl, hbef⟩
  have hvi : Vars (s.upd p (some (scB t i M S d))) := hv.upd hp0 hp2
  have hbi : (s.upd p (some (scB t i M S d))) p = some (scB t i M S d) := St.upd_same _ _ _
  refine pwC_sound _ _ _ _ ?_
  simp
  refine PW.drawn (fun i => 0) [0, 1, 2, 3, 4, 5, 6, 7, 8, 9] mixed_ (fun _ _ _ _ h => h) (by kernel_rfl) ?_
  by_cases hi : i < t.size
  · have hi' : (i : Int) < t.size := by omega
    simp [e0, hi, hi']
    refine PW.drawn (fun i => 0) [0, 1, 2, 3, 4, 5, 6, 7, 8, 9] mixed_ (fun _ _ _ _ h => h) (by kernel_rfl) ?_
    have w1 : IntKind.i64.wrap ((i : Int) + 1) = ((i + 1 : Nat) : Int) := by rw [wrap_i64 (by omega) (by omega)]; omega
    have w2 : IntKind.i64.wrap ((i : Int) + 2) = ((i + 2 : Nat) : Int) := by rw [wrap_i64 (by omega) (by omega)]; omega
    have w3 : IntKind.i64.wrap ((i : Int) + 3) = ((i + 3 : Nat) : Int) := by rw [wrap_i64 (by omega) (by omega)]; omega
    have step : ∀ (e' : Nat) (d' : Bool), pieceEnd t i = e' → clearB t i e' d = d' → i < e' → e' ≤ t.size ∧ bef t e' d' = bef t a c := fun e' d' h1 h2 h3 => by
      have h4 := pieceEnd_le (t := t) (i := i) (by omega)
      rw [h1] at h4
      refine ⟨h4.2, ?_⟩
      rw [← hbef, bef_step (t := t) (i := i) (c := d) (by omega) (by rw [h1]; exact h3), h1, h2]
    by_cases q1 : bt t i = 10
    · obtain ⟨s1, s2⟩ := step (i + 1) true (by simp [pieceEnd, isB, q1]) (by simp [clearB, q1, nl_here (Nat.le_refl i) (Nat.lt_succ_self i) q1]) (by omega)
      simp [e0, e3, hi, q1, w1]
      exact ⟨n - 1, by omega, i + 1, true, by omega, by omega, by simp [e0], by simp [e3], by first | rfl | simp, s2⟩
    have no10 : hasNL t i (i + 1) = false := by
      unfold hasNL
      rw [scanW_step (by omega) (by simp [q1]), scanW_end (Nat.le_refl _)]
      simp
    by_cases q2 : bt t i = 32
    · obtain ⟨s1, s2⟩ := step (i + 1) d (by simp [pieceEnd, isB, q2]) (by simp [clearB, q2, no10]) (by omega)
      simp [e0, e3, hi, q2, w1]
      exact ⟨n - 1, by omega, i + 1, d, by omega, by omega, by simp [e0], by simp [e3], by first | rfl | simp, s2⟩
    by_cases q3 : bt t i = 9
    · obtain ⟨s1, s2⟩ := step (i + 1) d (by simp [pieceEnd, isB, q3]) (by simp [clearB, q3, no10]) (by omega)
      simp [e0, e3, hi, q3, w1]
      exact ⟨n - 1, by omega, i + 1, d, by omega, by omega, by simp [e0], by simp [e3], by first | rfl | simp, s2⟩
    by_cases q4 : bt t i = 11
    · obtain ⟨s1, s2⟩ := step (i + 1) false (by simp [pieceEnd, isB, q4]) (by simp [clearB, q4]) (by omega)
      simp [e0, e3, hi, q4, w1]
      exact ⟨n - 1, by omega, i + 1, false, by omega, by omega, by simp [e0], by simp [e3], by first | rfl | simp, s2⟩
    by_cases q5 : bt t i = 12
    · obtain ⟨s1, s2⟩ := step (i + 1) false (by simp [pieceEnd, isB, q5]) (by simp [clearB, q5]) (by omega)
      simp [e0, e3, hi, q5, w1]
      exact ⟨n - 1, by omega, i + 1, false, by omega, by omega, by simp [e0], by simp [e3], by first | rfl | simp, s2⟩
    by_cases q6 : bt t i = 13
    · obtain ⟨s1, s2⟩ := step (i + 1) false (by simp [pieceEnd, isB, q6]) (by simp [clearB, q6]) (by omega)
      simp [e0, e3, hi, q6, w1]
      exact ⟨n - 1, by omega, i + 1, false, by omega, by omega, by simp [e0], by simp [e3], by first | rfl | simp, s2⟩
    have hB : isB (bt t i) = false := by simp [isB, q1, q2, q3, q4, q5, q6]
    have nx1 := next_c hbi 1 ht (by omega) (by omega)
    have nx2 := next_c hbi 2 ht (by omega) (by omega)
    by_cases q7 : bt t i = 92
    · simp [e0, e3, hi, q7]
      refine nx1.mono ?_
      rintro _ s1 ⟨hs1, rfl⟩
      rw [hs1]
      clear hs1 s1
      by_cases d1 : bt t (i + 1) = 10
      · have hlt : i + 1 < t.size := bt_lt (by omega)
        obtain ⟨s1, s2⟩ := step (i + 2) true (by simp [pieceEnd, q7, d1, isB]) (by simp [clearB, q7, nl_here (t := t) (i := i) (j := i + 1) (e := i + 2) (by omega) (by omega) d1]) (by omega)
        simp [e0, e3, d1, w2]
        exact ⟨n - 2, by omega, i + 2, true, by omega, by omega, by simp [e0], by simp [e3], by first | rfl | simp, s2⟩
      · simp [e0, e3, d1]
        refine nx1.mono ?_
        rintro _ s1 ⟨hs1, rfl⟩
        rw [hs1]
        clear hs1 s1
        by_cases d2 : bt t (i + 1) = 13
        · simp [e0, e3, d2]
          refine nx2.mono ?_
          rintro _ s1 ⟨hs1, rfl⟩
          rw [hs1]
          clear hs1 s1
          by_cases d3 : bt t (i + 2) = 10
          · have hlt : i + 2 < t.size := bt_lt (by omega)
            obtain ⟨s1, s2⟩ := step (i + 3) true (by simp [pieceEnd, q7, d2, d3, isB]) (by simp [clearB, q7, nl_here (t := t) (i := i) (j := i + 2) (e := i + 3) (by omega) (by omega) d3]) (by omega)
            simp [e0, e3, d3, w3]
            exact ⟨n - 3, by omega, i + 3, true, by omega, by omega, by simp [e0], by simp [e3], by first | rfl | simp, s2⟩
          · have hst : bef t i d = (i, d) := bef_stop (by simp [pieceEnd, q7, d2, d3, isB])
            have f1 : isC1 t i = false := by
              cases h : isC1 t i with
              | false => rfl
              | true => have := beg_byte h; rw [q7] at this; cases this
            have f2 : isC2 t i = false := by
              cases h : isC2 t i with
              | false => rfl
              | true => have := beg_byte h; rw [q7] at this; cases this
            have f0 := c0_facts (by rw [f1]; simp) (by rw [f2]; simp)
            rw [hst] at hbef
            simp [e0, e3, d3]
            refine (comment_c hvi hbi ht (by omega)).mono ?_
            rintro _ _ ⟨rfl, rfl⟩
            simp [f1, f2, f0]
            refine PW.drawn (fun i => 0) [0, 1, 2, 3, 4, 5, 6, 7, 8, 9, 10] mixed_ (fun _ _ _ _ h => h) (by kernel_rfl) ?_
            have hil : i ≤ t.size := by omega
            simp [e0, e3, hai, hil, ← hbef]
        · have hst : bef t i d = (i, d) := bef_stop (by simp [pieceEnd, q7, d1, d2, isB])
          have f1 : isC1 t i = false := by
            cases h : isC1 t i with
            | false => rfl
            | true => have := beg_byte h; rw [q7] at this; cases this
          have f2 : isC2 t i = false := by
            cases h : isC2 t i with
            | false => rfl
            | true => have := beg_byte h; rw [q7] at this; cases this
          have f0 := c0_facts (by rw [f1]; simp) (by rw [f2]; simp)
          rw [hst] at hbef
          simp [e0, e3, d2]
          refine (comment_c hvi hbi ht (by omega)).mono ?_
          rintro _ _ ⟨rfl, rfl⟩
          simp [f1, f2, f0]
          refine PW.drawn (fun i => 0) [0, 1, 2, 3, 4, 5, 6, 7, 8, 9, 10] mixed_ (fun _ _ _ _ h => h) (by kernel_rfl) ?_
          have hil : i ≤ t.size := by omega
          simp [e0, e3, hai, hil, ← hbef]
    · have hP : pieceEnd t i = cmtEnd t i := by simp [pieceEnd, hB, q7]
      simp [e0, e3, hi, q1, q2, q3, q4, q5, q6, q7]
      refine (comment_c hvi hbi ht (by omega)).mono ?_
      rintro _ _ ⟨rfl, rfl⟩
      by_cases f1 : isC1 t i = true
      · obtain ⟨g1, g2, g3⟩ := c1_facts d f1
        obtain ⟨s1, s2⟩ := step (cmtEnd t i) d hP (by rw [← hP]; exact g3) (by rw [← hP]; exact g1)
        simp [e0, e3, f1]
        exact ⟨n - (cmtEnd t i - i), by omega, cmtEnd t i, d, by omega, by omega, by simp [e0], by simp [e3], by first | rfl | simp, s2⟩
      by_cases f2 : isC2 t i = true
      · obtain ⟨g1, g2, g3⟩ := c2_facts d f1 f2
        obtain ⟨s1, s2⟩ := step (cmtEnd t i) (d || hasNL t i (cmtEnd t i)) hP (by rw [← hP]; rw [hP] at g3 ⊢; exact g3) (by rw [← hP]; exact g1)
        simp [e0, e3, f1, f2]
        exact ⟨n - (cmtEnd t i - i), by omega, cmtEnd t i, _, by omega, by omega, by simp [e0], by simp [e3], by first | rfl | simp, s2⟩
      have f0 := c0_facts f1 f2
      have hst : bef t i d = (i, d) := bef_stop (by rw [hP, f0]; omega)
      rw [hst] at hbef
      simp [f1, f2, f0]
      refine PW.drawn (fun i => 0) [0, 1, 2, 3, 4, 5, 6, 7, 8, 9, 10] mixed_ (fun _ _ _ _ h => h) (by kernel_rfl) ?_
      have hil : i ≤ t.size := by omega
      simp [e0, e3, hai, hil, ← hbef]
  · have hit : i = t.size := by omega
    subst hit
    have hst : bef t t.size d = (t.size, d) := bef_stop (by have := pieceEnd_le (t := t) (i := t.size) (Nat.le_refl _); omega)
    rw [hst] at hbef
    simp [e0, hi]
    refine hR _ _ ?_
    refine pwC_sound _ _ _ _ ?_
    simp [e0, e3, ha, ← hbef]
end
end Go.Pv

/- The program's lexer: which of the kinds a token is. -/
namespace Go.Pv
open Go.Proofs
set_option linter.unusedVariables false
set_option linter.unusedSimpArgs false
set_option maxRecDepth 100000
set_option maxHeartbeats 400000
/-- What each kind's method tells, in the order in which they are asked. -/
def lens (t : ByteArray) (b : Nat) (d : Bool) : List (Nat × Nat) := [(7, lineLen t b d), (1, if isL (bt t b) then wordEnd t b - b else 0), (3, numLen t b), (4, quotLen t b 39), (5, quotLen t b 34), (6, signLen t b signsL)]
def firstK : List (Nat × Nat) → Nat × Nat
  | [] => (8, 1)
  | (k, m) :: r => if 0 < m then (k, m) else firstK r
theorem beg_bt0 {t : ByteArray} {i : Nat} {x : ByteArray} (h : beg t i x = true) (hx : 0 < x.size) : bt t i = bt x 0 := by
  obtain ⟨⟨l⟩⟩ := x
  cases l with
  | nil => exact absurd hx (by decide)
  | cons b r =>
    rw [beg_byte h]
    rfl
theorem signLen_zero {t : ByteArray} {i : Nat} : ∀ (L : List ByteArray) (n : Nat), (∀ x ∈ L, 0 < x.size ∧ bt x 0 ≠ bt t i) → L.foldl (fun n s => if n < s.size ∧ beg t i s = true then s.size else n) n = n
  | [], n, h => rfl
  | x :: L, n, h => by
    obtain ⟨h1, h2⟩ := h x List.mem_cons_self
    rw [List.foldl_cons, if_neg (fun q => h2 (beg_bt0 q.2 h1).symm)]
    exact signLen_zero L n (fun y hy => h y (List.mem_cons_of_mem _ hy))
theorem signs_first : ∀ x ∈ signsL, 0 < x.size ∧ bt x 0 ≠ 39 ∧ bt x 0 ≠ 34 := by decide
theorem signLen_quote {t : ByteArray} {i : Nat} (h : bt t i = 39 ∨ bt t i = 34) : signLen t i signsL = 0 := by
  refine signLen_zero signsL 0 fun x hx => ?_
  obtain ⟨h1, h2, h3⟩ := signs_first x hx
  refine ⟨h1, ?_⟩
  rcases h with h | h <;> rw [h] <;> assumption
theorem tokE_first {t : ByteArray} {b : Nat} (d : Bool) (hb : b < t.size) : tokE keysL signsL t b d =
    (if (firstK (lens t b d)).1 = 1 ∧ (keysL.any fun k => decide (k = t.extract b (b + (firstK (lens t b d)).2))) = true then 2 else (firstK (lens t b d)).1, b + (firstK (lens t b d)).2) := by
  unfold tokE
  by_cases h1 : bt t b = 35 ∧ d = true
  · have hgt := lineEnd_gt hb (by omega)
    have hf : firstK (lens t b d) = (7, lineEnd t b - b) := by
      unfold lens firstK
      rw [if_pos (by unfold lineLen; rw [if_pos h1]; omega)]
      unfold lineLen
      rw [if_pos h1]
    rw [if_pos h1, hf]
    simp
    omega
  · have f1 : ¬ 0 < lineLen t b d := by unfold lineLen; rw [if_neg h1]; omega
    rw [if_neg h1]
    by_cases h2 : isL (bt t b) = true
    · have hgt : b < wordEnd t b := by
        unfold wordEnd
        rw [scanW_step hb (by simp [h2])]
        exact scanW_ge _ _ (b + 1)
      have hf : firstK (lens t b d) = (1, wordEnd t b - b) := by
        unfold lens firstK
        rw [if_neg f1]
        unfold firstK
        rw [if_pos (by rw [if_pos h2]; omega), if_pos h2]
      have hw : b + (wordEnd t b - b) = wordEnd t b := by omega
      rw [if_pos h2, hf]
      simp only [hw]
      by_cases hk : (keysL.any fun k => decide (k = t.extract b (wordEnd t b))) = true <;> simp [hk]
    · have f2 : ¬ 0 < (if isL (bt t b) = true then wordEnd t b - b else 0) := by rw [if_neg h2]; omega
      rw [if_neg h2]
      by_cases h3 : isD (bt t b) = true ∨ (bt t b = 46 ∧ isD (bt t (b + 1)) = true)
      · have hgt : b < numEnd t b := by unfold numEnd; have := scanW_ge (numP t) t.size (b + 1); omega
        have hf : firstK (lens t b d) = (3, numEnd t b - b) := by
          unfold lens firstK
          rw [if_neg f1]
          unfold firstK
          rw [if_neg f2]
          unfold firstK
          have : numLen t b = numEnd t b - b := by unfold numLen; rw [if_pos h3]
          rw [if_pos (by omega), this]
        have hw : b + (numEnd t b - b) = numEnd t b := by omega
        rw [if_pos h3, hf]
        simp [hw]
      · have f3 : ¬ 0 < numLen t b := by unfold numLen; rw [if_neg h3]; omega
        rw [if_neg h3]
        have hf3 : firstK (lens t b d) = firstK [(4, quotLen t b 39), (5, quotLen t b 34), (6, signLen t b signsL)] := by
          unfold lens firstK
          rw [if_neg f1]
          unfold firstK
          rw [if_neg f2]
          conv => lhs; unfold firstK
          rw [if_neg f3]
          rfl
        rw [hf3]
        by_cases h4 : bt t b = 39
        · have h34 : ¬ bt t b = 34 := by omega
          have z := signLen_quote (.inl h4)
          have q34 : quotLen t b 34 = 0 := by unfold quotLen; rw [if_neg h34]
          rw [if_pos (.inl h4), h4]
          have q39 : quotLen t b 39 = (match quotE t 39 (b + 1) with | some e => e - b | none => 0) := by unfold quotLen; rw [if_pos h4]; all_goals rfl
          cases hq : quotE t 39 (b + 1) with
          | none =>
            rw [hq] at q39
            simp only at q39
            simp [firstK, q39, q34, z]
          | some e =>
            rw [hq] at q39
            simp only at q39
            have hin := quotF_in t 39 _ _ _ hq
            have h5 : 0 < quotLen t b 39 := by omega
            simp [firstK, h5]
            omega
        · have q39 : quotLen t b 39 = 0 := by unfold quotLen; rw [if_neg h4]
          by_cases h5 : bt t b = 34
          · have z := signLen_quote (.inr h5)
            rw [if_pos (.inr h5), h5]
            have q34 : quotLen t b 34 = (match quotE t 34 (b + 1) with | some e => e - b | none => 0) := by unfold quotLen; rw [if_pos h5]; all_goals rfl
            cases hq : quotE t 34 (b + 1) with
            | none =>
              rw [hq] at q34
              simp only at q34
              simp [firstK, q39, q34, z]
            | some e =>
              rw [hq] at q34
              simp only at q34
              have hin := quotF_in t 34 _ _ _ hq
              have h6 : 0 < quotLen t b 34 := by omega
              simp [firstK, q39, h6]
              omega
          · have q34 : quotLen t b 34 = 0 := by unfold quotLen; rw [if_neg h5]
            rw [if_neg (by omega)]
            by_cases h6 : signLen t b signsL = 0
            · simp [firstK, q39, q34, h6]
            · have h7 : 0 < signLen t b signsL := by omega
              simp [firstK, q39, q34, h6, h7]
theorem firstK_in {t : ByteArray} {b : Nat} (d : Bool) (hb : b < t.size) : 0 < (firstK (lens t b d)).2 ∧ b + (firstK (lens t b d)).2 ≤ t.size := by
  have h := tokE_in keysL signsL d hb
  rw [tokE_first d hb] at h
  simp only at h
  omega
end Go.Pv

/- The program's lexer: a token. -/
namespace Go.Pv
open Go.Proofs
set_option linter.unusedVariables false
set_option linter.unusedSimpArgs false
set_option maxRecDepth 100000
set_option maxHeartbeats 1000000
theorem befF_in (t : ByteArray) : ∀ (k i : Nat) (c : Bool), i ≤ t.size → i ≤ (befF t k i c).1 ∧ (befF t k i c).1 ≤ t.size
  | 0, i, c, h => ⟨Nat.le_refl _, h⟩
  | k + 1, i, c, h => by
    have hp := pieceEnd_le h
    unfold befF
    split
    · have := befF_in t k (pieceEnd t i) (clearB t i (pieceEnd t i) c) hp.2
      omega
    · exact ⟨Nat.le_refl _, h⟩
theorem bef_in {t : ByteArray} {i : Nat} (c : Bool) (h : i ≤ t.size) : i ≤ (bef t i c).1 ∧ (bef t i c).1 ≤ t.size := befF_in t _ i c h
/-- The keys, as the map that the scanner has. -/
def KeyMap (s : St) (M : PV) : Prop := ∃ (i : Nat) (es : List (ByteArray × PV)), M = .mp i ∧ s i = some (.dict es) ∧ ∀ b, dget es b = if (keysL.any fun k => decide (k = b)) = true then some (.lit (.bool true)) else none
theorem KeyMap.sub {s s' : St} {M : PV} (h : KeyMap s M) (hs : s.sub s') : KeyMap s' M := by
  obtain ⟨i, es, h1, h2, h3⟩ := h
  exact ⟨i, es, h1, hs _ _ h2, h3⟩
theorem KeyMap.upd {s : St} {M : PV} (h : KeyMap s M) {p : Nat} {ty : TypeId} {sz : Nat} {els : List (List PV)} (hp : s p = some (.row ty sz els)) {b : Option Blk} : KeyMap (s.upd p b) M := by
  obtain ⟨i, es, h1, h2, h3⟩ := h
  refine ⟨i, es, h1, ?_, h3⟩
  rw [St.upd_ne _ _ (fun e => by subst e; rw [h2] at hp; cases hp)]
  exact h2
@[reducible] def kindV (p : Nat) (k : Int) (f : FuncId) : PV := .agg [.lit (.int .i64 k), .fn f [.pt p 0 0] []]
@[reducible] def kindsV (p : Nat) : PV := .vec .tight [kindV p 7 19, kindV p 1 20, kindV p 3 21, kindV p 4 22, kindV p 5 23, kindV p 6 24]
section
variable {t : ByteArray} {a : Nat} {M : PV} {c : Bool} {s : St} {p : Nat}
@[reducible] def tokC (k : Int) (b x : ByteArray) (n : Nat) : List PV := [.lit (.int .i64 k), .lit (.string b), .lit (.string x), .lit (.int .i64 n)]
theorem ptoken_c {vk : VK} (hv : Vars s) (hM : KeyMap s M) (hb : s p = some (scB t a M (strs vk signsL) c)) (ht : t.size ≤ 1000000) (ha : a ≤ t.size) : PCalls Tryd.prog 11 [.pt p 0 0] s (fun r s' =>
    if (bef t a c).1 = t.size then r = .ret (encT ⟨0, t.extract a (bef t a c).1, ⟨#[]⟩, (bef t a c).1⟩) ∧ s' = s.upd p (some (scB t (bef t a c).1 M (strs vk signsL) (bef t a c).2))
    else r = .ret (encT ⟨(tokE keysL signsL t (bef t a c).1 (bef t a c).2).1, t.extract a (bef t a c).1, t.extract (bef t a c).1 (tokE keysL signsL t (bef t a c).1 (bef t a c).2).2, (bef t a c).1⟩) ∧
      s' = s.upd p (some (scB t (tokE keysL signsL t (bef t a c).1 (bef t a c).2).2 M (strs vk signsL) false))) := by
  obtain ⟨hbge, hble⟩ := bef_in c ha
  have hbefc := fun (s : St) => before_c (t := t) (a := a) (M := M) (S := strs vk signsL) (c := c) (p := p) (s := s)
  generalize hbq : bef t a c = bq at *
  obtain ⟨b, d⟩ := bq
  simp only at *
  refine PCalls.mono (R := fun r s' => (b = t.size → r = .ret (encT ⟨0, t.extract a b, ⟨#[]⟩, b⟩) ∧ s' = s.upd p (some (scB t b M (strs vk signsL) d))) ∧
    (b ≠ t.size → r = .ret (encT ⟨(tokE keysL signsL t b d).1, t.extract a b, t.extract b (tokE keysL signsL t b d).2, b⟩) ∧ s' = s.upd p (some (scB t (tokE keysL signsL t b d).2 M (strs vk signsL) false)))) ?_ (fun r s' h => by
      by_cases hend : b = t.size
      · rw [if_pos hend]; exact h.1 hend
      · rw [if_neg hend]; exact h.2 hend)
  refine PCalls.of Tryd.func11 rfl (by rfl) (by simp [Tryd.ntmps11]) ?_
  refine PW.cutR fun R hR hC => ?_
  simp [Tryd.ntmps11]
  intro i2 h2
  refine hR _ _ ?_
  clear hR hC R
  have n2p := fresh_ne h2 hb
  refine PW.cutR fun R hR hC => ?_
  simp
  refine (hbefc (s.upd i2 _) (hv.upd (hv.fresh h2).1 (hv.fresh h2).2) (by rw [St.upd_ne _ _ n2p.symm]; exact hb) ht ha).mono ?_
  rintro _ _ ⟨rfl, rfl⟩
  simp
  refine hR _ _ ?_
  clear hR hC R
  refine PW.cutR fun R hR hC => ?_
  simp
  intro i4 h4p hp4 h42 h24 h4
  refine hR _ _ ?_
  clear hR hC R
  generalize hτ : St.upd (St.upd (St.upd s i2 _) p _) i4 _ = τ
  generalize hBq : s.upd p (some (scB t b M (strs vk signsL) d)) = B
  have tp : τ p = some (scB t b M (strs vk signsL) d) := by rw [← hτ]; simp [h4p, hp4]
  have t2 : τ i2 = some (.row 31 4 [tokC 0 ⟨#[]⟩ ⟨#[]⟩ 0]) := by rw [← hτ]; simp [h42, h24, n2p]
  have t4 : τ i4 = some (.row 31 4 [tokC 0 (t.extract a b) ⟨#[]⟩ b]) := by rw [← hτ]; simp
  have hBp : B p = some (scB t b M (strs vk signsL) d) := by rw [← hBq]; simp
  have hB2 : B i2 = none := by rw [← hBq, St.upd_ne _ _ n2p]; exact h2
  have hB4 : B i4 = none := by rw [← hBq, St.upd_ne _ _ h4p]; exact h4
  have hBτ : B.sub τ := by
    rw [← hBq, ← hτ]
    intro k z hk
    by_cases k1 : k = p
    · subst k1
      rw [St.upd_same] at hk
      rw [St.upd_ne _ _ hp4, St.upd_same]; exact hk
    · rw [St.upd_ne _ _ k1] at hk
      have k2 : k ≠ i2 := fun e => by rw [e, show s i2 = none from h2] at hk; cases hk
      have k4 : k ≠ i4 := fun e => by rw [e, show s i4 = none from h4] at hk; cases hk
      rw [St.upd_ne _ _ k4, St.upd_ne _ _ k1, St.upd_ne _ _ k2]; exact hk
  have hMB : KeyMap B M := by rw [← hBq]; exact hM.upd hb
  clear hτ
  generalize hE : Env.put _ _ _ = E
  have g0 : E 0 = .pt p 0 0 := by rw [← hE]; simp
  have g2 : E 2 = .pt i2 0 0 := by rw [← hE]; simp
  have g4 : E 4 = .pt i4 0 0 := by rw [← hE]; simp
  clear hE
  refine PW.cutR fun R hR hC => ?_
  simp
  refine PW.drawn (fun i => 0) [0, 1, 2, 4, 5, 6, 3, 7, 8, 9] mixed_ (fun _ _ _ _ h => h) (by kernel_rfl) ?_
  by_cases hend : b = t.size
  · have hend' : (b : Int) = (t.size : Nat) := by omega
    simp [g0, g2, g4, tp, t2, t4, h42, h24, hend']
    exact ⟨B, St.sub.upd_of hBτ hB2, fun _ => rfl, fun h => absurd hend h⟩
  · have hend' : ¬ (b : Int) = (t.size : Nat) := by omega
    simp [g0, g2, g4, tp, t2, t4, h42, h24, hend']
    refine hR _ _ ?_
    clear hR hC R
    have hbt : b < t.size := by omega
    refine PW.cutR fun R hR hC => ?_
    simp
    refine hR _ _ ?_
    clear hR hC R
    refine PW.cutR fun R hR hC => ?_
    simp [g0, g2, g4, tp, t2, t4, h42, h24]
    refine hR _ _ ?_
    clear hR hC R
    generalize hτ' : τ.upd i4 _ = τ1
    have tp1 : τ1 p = some (scB t b M (strs vk signsL) d) := by rw [← hτ', St.upd_ne _ _ hp4]; exact tp
    have t21 : τ1 i2 = some (.row 31 4 [tokC 0 ⟨#[]⟩ ⟨#[]⟩ 0]) := by rw [← hτ', St.upd_ne _ _ h24]; exact t2
    have t41 : τ1 i4 = some (.row 31 4 [tokC 8 (t.extract a b) ⟨#[]⟩ b]) := by rw [← hτ']; simp
    have hBτ1 : B.sub τ1 := by rw [← hτ']; exact St.sub.upd_of hBτ hB4
    clear hτ' tp t2 t4 hBτ
    generalize hE : Env.put _ _ _ = E1
    have f0 : E1 0 = .pt p 0 0 := by rw [← hE]; simp [g0]
    have f2 : E1 2 = .pt i2 0 0 := by rw [← hE]; simp [g2]
    have f4 : E1 4 = .pt i4 0 0 := by rw [← hE]; simp [g4]
    have f5 : E1 5 = .lit (.int .i64 1) := by rw [← hE]; simp
    clear hE g0 g2 g4 E
    refine PW.cutR fun R hR hC => ?_
    -- behind the search
    have fin : ∀ (E : Env) (s1 : St), E 0 = .pt p 0 0 → E 2 = .pt i2 0 0 → E 4 = .pt i4 0 0 → E 5 = .lit (.int .i64 ((firstK (lens t b d)).2 : Nat)) → B.sub s1 → s1 i2 = some (.row 31 4 [tokC 0 ⟨#[]⟩ ⟨#[]⟩ 0]) → s1 i4 = some (.row 31 4 [tokC ((firstK (lens t b d)).1 : Nat) (t.extract a b) ⟨#[]⟩ b]) → R E s1 := by
      intro E s1 f0 f2 f4 f5 hBs u2 u4
      obtain ⟨hm0, hm1⟩ := firstK_in d hbt
      have htok := tokE_first d hbt
      generalize firstK (lens t b d) = km at *
      obtain ⟨kd, m⟩ := km
      simp only at *
      have up := hBs _ _ hBp
      have hMs := hMB.sub hBs
      refine hR _ _ ?_
      clear hR hC R
      obtain ⟨en, hen⟩ : ∃ en, en = b + m := ⟨_, rfl⟩
      rw [← hen] at htok hm1
      have w1 : IntKind.i64.wrap ((b : Int) + (m : Int)) = (en : Int) := by rw [wrap_i64 (by omega) (by omega)]; omega
      refine PW.cutR fun R hR hC => ?_
      refine PW.drawn (fun i => 0) [0, 1, 2, 4, 5, 6, 8, 9, 10, 12, 3, 7, 11, 13, 14, 15, 16] mixed_ (fun _ _ _ _ h => h) (by kernel_rfl) ?_
      have hle1 : b ≤ en := by omega
      simp [f0, f2, f4, f5, up, u2, u4, w1, hm1, hle1]
      refine hR _ _ ?_
      clear hR hC R
      generalize hσ : s1.upd i4 _ = s2
      have v2 : s2 i2 = some (.row 31 4 [tokC 0 ⟨#[]⟩ ⟨#[]⟩ 0]) := by rw [← hσ, St.upd_ne _ _ h24]; exact u2
      have v4 : s2 i4 = some (.row 31 4 [tokC (kd : Nat) (t.extract a b) (t.extract b en) b]) := by rw [← hσ, St.upd_same]
      have hBs2 : B.sub s2 := by rw [← hσ]; exact St.sub.upd_of hBs hB4
      clear hσ u2 u4 up hMs hBs s1
      have vp := hBs2 _ _ hBp
      obtain ⟨im, es, rfl, hes, hkk⟩ := hMB.sub hBs2
      generalize hE : Env.put _ _ _ = E'
      have g0 : E' 0 = .pt p 0 0 := by rw [← hE]; simp [f0]
      have g2 : E' 2 = .pt i2 0 0 := by rw [← hE]; simp [f2]
      have g4 : E' 4 = .pt i4 0 0 := by rw [← hE]; simp [f4]
      have g5 : E' 5 = .lit (.int .i64 (m : Nat)) := by rw [← hE]; simp [f5]
      clear hE f0 f2 f4 f5 E
      refine PW.cutR fun R hR hC => ?_
      -- behind the look at the keys
      have tail : ∀ (E : Env) (s3 : St) (k' : Nat), E 0 = .pt p 0 0 → E 2 = .pt i2 0 0 → E 4 = .pt i4 0 0 → E 5 = .lit (.int .i64 (m : Nat)) → B.sub s3 → s3 i2 = some (.row 31 4 [tokC 0 ⟨#[]⟩ ⟨#[]⟩ 0]) → s3 i4 = some (.row 31 4 [tokC (k' : Nat) (t.extract a b) (t.extract b en) b]) →
          k' = (tokE keysL signsL t b d).1 → R E s3 := by
        intro E s3 k' f0 f2 f4 f5 hBs u2 u4 hk'
        have up := hBs _ _ hBp
        refine hR _ _ ?_
        refine pwC_sound _ _ _ _ ?_
        simp [f0, f2, f4, f5, up, u2, u4, w1, h24, h42, h4p, hp4, n2p, n2p.symm]
        rw [htok] at hk' ⊢
        refine ⟨s.upd p (some (scB t en (.mp im) (strs vk signsL) false)), fun k z hk => ?_, fun h => absurd h hend, fun _ => ⟨?_, rfl⟩⟩
        · by_cases k1 : k = p
          · subst k1
            rw [St.upd_same] at hk
            rw [St.upd_ne _ _ n2p.symm, St.upd_same]
            exact hk
          · rw [St.upd_ne _ _ k1] at hk
            have k2 : k ≠ i2 := fun e => by rw [e, show s i2 = none from h2] at hk; cases hk
            have := hBs k z (by rw [← hBq, St.upd_ne _ _ k1]; exact hk)
            simp only [St.upd_ne _ _ k1, St.upd_ne _ _ k2]
            exact this
        · simp only at hk'
          rw [← hk']
          exact ⟨rfl, rfl⟩
      refine PW.drawn (fun i => 0) [0, 1, 2, 3, 4, 5, 6, 8, 7, 9, 10, 11] mixed_ (fun _ _ _ _ h => h) (by kernel_rfl) ?_
      by_cases hk1 : kd = 1
      · subst hk1
        by_cases hky : (keysL.any fun k => decide (k = t.extract b en)) = true
        · have hg := hkk (t.extract b en)
          rw [if_pos hky] at hg
          simp [g0, g2, g4, g5, vp, v4, hes, hg]
          refine tail _ _ 2 (by simp [g0]) (by simp [g2]) (by simp [g4]) (by simp [g5]) (St.sub.upd_of hBs2 hB4) (by rw [St.upd_ne _ _ h24]; exact v2) (by rw [St.upd_same]; rfl) ?_
          rw [htok, if_pos ⟨rfl, hky⟩]
        · have hg := hkk (t.extract b en)
          rw [if_neg hky] at hg
          simp [g0, g2, g4, g5, vp, v4, hes, hg]
          refine tail _ _ 1 (by simp [g0]) (by simp [g2]) (by simp [g4]) (by simp [g5]) hBs2 v2 v4 ?_
          rw [htok, if_neg (fun h => hky h.2)]
      · have hk1' : ¬ (kd : Int) = 1 := by omega
        simp [g0, g2, g4, g5, vp, v4, hk1']
        refine tail _ _ kd (by simp [g0]) (by simp [g2]) (by simp [g4]) (by simp [g5]) hBs2 v2 v4 ?_
        rw [htok, if_neg (fun h => hk1 h.1)]
    simp [f0]
    refine PW.loop (fun n e s' => ∃ j : Nat, j + n = 6 ∧ e 0 = .pt p 0 0 ∧ e 2 = .pt i2 0 0 ∧ e 4 = .pt i4 0 0 ∧ e 5 = .lit (.int .i64 1) ∧ e 47 = kindsV p ∧ e 48 = .lit (.int .i64 6) ∧ e 49 = .lit (.int .i64 j) ∧ B.sub s' ∧
      s' i2 = some (.row 31 4 [tokC 0 ⟨#[]⟩ ⟨#[]⟩ 0]) ∧ s' i4 = some (.row 31 4 [tokC 8 (t.extract a b) ⟨#[]⟩ b]) ∧ firstK ((lens t b d).drop j) = firstK (lens t b d)) 6
      ⟨0, by omega, by simp [f0], by simp [f2], by simp [f4], by simp [f5], by simp, by simp, by simp, hBτ1, t21, t41, rfl⟩ ?_
    clear hBτ1 t21 t41 tp1 f0 f2 f4 f5
    rintro n e s' ⟨j, hj, e0, e2, e4, e5, e47, e48, e49, hBs, u2, u4, hf⟩
    have up := hBs _ _ hBp
    refine pwC_sound _ _ _ _ ?_
    by_cases h6 : j = 6
    · subst h6
      simp [e0, e48, e49]
      refine fin _ s' (by simp [e0]) (by simp [e2]) (by simp [e4]) ?_ hBs u2 ?_
      · rw [← hf]; simp [e5, lens, firstK]
      · rw [u4, ← hf]; simp [lens, firstK]
    obtain rfl | rfl | rfl | rfl | rfl | rfl : j = 0 ∨ j = 1 ∨ j = 2 ∨ j = 3 ∨ j = 4 ∨ j = 5 := by omega
    · generalize hm : lineLen t b d = m at hf
      have hfm : firstK (lens t b d) = if 0 < m then (7, m) else firstK ((lens t b d).drop 1) := by rw [← hf, ← hm]; rfl
      simp [e0, e47, e48, e49]
      intro i7 h7
      have n7p := fresh_ne h7 up
      have n72 := fresh_ne h7 u2
      have n74 := fresh_ne h7 u4
      refine (line_c (t := t) (a := b) (M := M) (c := d) (s := s'.upd i7 _) (p := p) (by rw [St.upd_ne _ _ n7p.symm]; exact up) ht hbt).mono ?_
      rintro _ s3 ⟨hs3, rfl⟩
      rw [hs3]
      clear hs3 s3
      rw [hm]
      by_cases hpos : 0 < m
      · have hpos' : (0 : Int) < (m : Nat) := by omega
        rw [if_pos hpos] at hfm
        simp [e0, e4, hpos, hpos']
        refine PW.drawn (fun i => 0) [0, 1, 3, 2, 4, 5] mixed_ (fun _ _ _ _ h => h) (by kernel_rfl) ?_
        simp [e0, e4, n7p, n72, n74, n7p.symm, n72.symm, n74.symm, u4]
        refine fin _ _ (by simp [e0]) (by simp [e2]) (by simp [e4]) (by rw [hfm]; simp) (St.sub.upd_of (hBs.upd h7) hB4) (by simp [h24, n72.symm, u2]) ?_
        rw [hfm, St.upd_same]
        simp
      · have hpos' : ¬ (0 : Int) < (m : Nat) := by omega
        have hm0 : m = 0 := by omega
        rw [if_neg hpos] at hfm
        have w1 : IntKind.i64.wrap 1 = 1 := by decide
        simp [e0, e4, e49, hpos, hpos', hm0, w1]
        exact ⟨n - 1, by omega, 1, by omega, e2, e5, e47, e48, rfl, hBs.upd h7, by simp [n72.symm, u2], by simp [n74.symm, u4], hfm.symm⟩
    · generalize hm : (if isL (bt t b) = true then wordEnd t b - b else 0) = m at hf
      have hfm : firstK (lens t b d) = if 0 < m then (1, m) else firstK ((lens t b d).drop 2) := by rw [← hf, ← hm]; rfl
      simp [e0, e47, e48, e49]
      intro i7 h7
      have n7p := fresh_ne h7 up
      have n72 := fresh_ne h7 u2
      have n74 := fresh_ne h7 u4
      refine (name_c (t := t) (a := b) (M := M) (c := d) (s := s'.upd i7 _) (p := p) (by rw [St.upd_ne _ _ n7p.symm]; exact up) ht hbt).mono ?_
      rintro _ s3 ⟨hs3, rfl⟩
      rw [hs3]
      clear hs3 s3
      rw [hm]
      by_cases hpos : 0 < m
      · have hpos' : (0 : Int) < (m : Nat) := by omega
        rw [if_pos hpos] at hfm
        simp [e0, e4, hpos, hpos']
        refine PW.drawn (fun i => 0) [0, 1, 3, 2, 4, 5] mixed_ (fun _ _ _ _ h => h) (by kernel_rfl) ?_
        simp [e0, e4, n7p, n72, n74, n7p.symm, n72.symm, n74.symm, u4]
        refine fin _ _ (by simp [e0]) (by simp [e2]) (by simp [e4]) (by rw [hfm]; simp) (St.sub.upd_of (hBs.upd h7) hB4) (by simp [h24, n72.symm, u2]) ?_
        rw [hfm, St.upd_same]
        simp
      · have hpos' : ¬ (0 : Int) < (m : Nat) := by omega
        have hm0 : m = 0 := by omega
        rw [if_neg hpos] at hfm
        have w1 : IntKind.i64.wrap 2 = 2 := by decide
        simp [e0, e4, e49, hpos, hpos', hm0, w1]
        exact ⟨n - 1, by omega, 2, by omega, e2, e5, e47, e48, rfl, hBs.upd h7, by simp [n72.symm, u2], by simp [n74.symm, u4], hfm.symm⟩
    · generalize hm : numLen t b = m at hf
      have hfm : firstK (lens t b d) = if 0 < m then (3, m) else firstK ((lens t b d).drop 3) := by rw [← hf, ← hm]; rfl
      simp [e0, e47, e48, e49]
      intro i7 h7
      have n7p := fresh_ne h7 up
      have n72 := fresh_ne h7 u2
      have n74 := fresh_ne h7 u4
      refine (number_c (t := t) (a := b) (M := M) (c := d) (s := s'.upd i7 _) (p := p) (by rw [St.upd_ne _ _ n7p.symm]; exact up) ht hbt).mono ?_
      rintro _ s3 ⟨hs3, rfl⟩
      rw [hs3]
      clear hs3 s3
      rw [hm]
      by_cases hpos : 0 < m
      · have hpos' : (0 : Int) < (m : Nat) := by omega
        rw [if_pos hpos] at hfm
        simp [e0, e4, hpos, hpos']
        refine PW.drawn (fun i => 0) [0, 1, 3, 2, 4, 5] mixed_ (fun _ _ _ _ h => h) (by kernel_rfl) ?_
        simp [e0, e4, n7p, n72, n74, n7p.symm, n72.symm, n74.symm, u4]
        refine fin _ _ (by simp [e0]) (by simp [e2]) (by simp [e4]) (by rw [hfm]; simp) (St.sub.upd_of (hBs.upd h7) hB4) (by simp [h24, n72.symm, u2]) ?_
        rw [hfm, St.upd_same]
        simp
      · have hpos' : ¬ (0 : Int) < (m : Nat) := by omega
        have hm0 : m = 0 := by omega
        rw [if_neg hpos] at hfm
        have w1 : IntKind.i64.wrap 3 = 3 := by decide
        simp [e0, e4, e49, hpos, hpos', hm0, w1]
        exact ⟨n - 1, by omega, 3, by omega, e2, e5, e47, e48, rfl, hBs.upd h7, by simp [n72.symm, u2], by simp [n74.symm, u4], hfm.symm⟩
    · generalize hm : quotLen t b 39 = m at hf
      have hfm : firstK (lens t b d) = if 0 < m then (4, m) else firstK ((lens t b d).drop 4) := by rw [← hf, ← hm]; rfl
      simp [e0, e47, e48, e49]
      intro i7 h7
      have n7p := fresh_ne h7 up
      have n72 := fresh_ne h7 u2
      have n74 := fresh_ne h7 u4
      refine (char_c (t := t) (a := b) (M := M) (c := d) (s := s'.upd i7 _) (p := p) (by rw [St.upd_ne _ _ n7p.symm]; exact up) ht hbt).mono ?_
      rintro _ s3 ⟨hs3, rfl⟩
      rw [hs3]
      clear hs3 s3
      rw [hm]
      by_cases hpos : 0 < m
      · have hpos' : (0 : Int) < (m : Nat) := by omega
        rw [if_pos hpos] at hfm
        simp [e0, e4, hpos, hpos']
        refine PW.drawn (fun i => 0) [0, 1, 3, 2, 4, 5] mixed_ (fun _ _ _ _ h => h) (by kernel_rfl) ?_
        simp [e0, e4, n7p, n72, n74, n7p.symm, n72.symm, n74.symm, u4]
        refine fin _ _ (by simp [e0]) (by simp [e2]) (by simp [e4]) (by rw [hfm]; simp) (St.sub.upd_of (hBs.upd h7) hB4) (by simp [h24, n72.symm, u2]) ?_
        rw [hfm, St.upd_same]
        simp
      · have hpos' : ¬ (0 : Int) < (m : Nat) := by omega
        have hm0 : m = 0 := by omega
        rw [if_neg hpos] at hfm
        have w1 : IntKind.i64.wrap 4 = 4 := by decide
        simp [e0, e4, e49, hpos, hpos', hm0, w1]
        exact ⟨n - 1, by omega, 4, by omega, e2, e5, e47, e48, rfl, hBs.upd h7, by simp [n72.symm, u2], by simp [n74.symm, u4], hfm.symm⟩
    · generalize hm : quotLen t b 34 = m at hf
      have hfm : firstK (lens t b d) = if 0 < m then (5, m) else firstK ((lens t b d).drop 5) := by rw [← hf, ← hm]; rfl
      simp [e0, e47, e48, e49]
      intro i7 h7
      have n7p := fresh_ne h7 up
      have n72 := fresh_ne h7 u2
      have n74 := fresh_ne h7 u4
      refine (str_c (t := t) (a := b) (M := M) (c := d) (s := s'.upd i7 _) (p := p) (by rw [St.upd_ne _ _ n7p.symm]; exact up) ht hbt).mono ?_
      rintro _ s3 ⟨hs3, rfl⟩
      rw [hs3]
      clear hs3 s3
      rw [hm]
      by_cases hpos : 0 < m
      · have hpos' : (0 : Int) < (m : Nat) := by omega
        rw [if_pos hpos] at hfm
        simp [e0, e4, hpos, hpos']
        refine PW.drawn (fun i => 0) [0, 1, 3, 2, 4, 5] mixed_ (fun _ _ _ _ h => h) (by kernel_rfl) ?_
        simp [e0, e4, n7p, n72, n74, n7p.symm, n72.symm, n74.symm, u4]
        refine fin _ _ (by simp [e0]) (by simp [e2]) (by simp [e4]) (by rw [hfm]; simp) (St.sub.upd_of (hBs.upd h7) hB4) (by simp [h24, n72.symm, u2]) ?_
        rw [hfm, St.upd_same]
        simp
      · have hpos' : ¬ (0 : Int) < (m : Nat) := by omega
        have hm0 : m = 0 := by omega
        rw [if_neg hpos] at hfm
        have w1 : IntKind.i64.wrap 5 = 5 := by decide
        simp [e0, e4, e49, hpos, hpos', hm0, w1]
        exact ⟨n - 1, by omega, 5, by omega, e2, e5, e47, e48, rfl, hBs.upd h7, by simp [n72.symm, u2], by simp [n74.symm, u4], hfm.symm⟩
    · generalize hm : signLen t b signsL = m at hf
      have hfm : firstK (lens t b d) = if 0 < m then (6, m) else firstK ((lens t b d).drop 6) := by rw [← hf, ← hm]; rfl
      simp [e0, e47, e48, e49]
      intro i7 h7
      have n7p := fresh_ne h7 up
      have n72 := fresh_ne h7 u2
      have n74 := fresh_ne h7 u4
      refine (sign_c (t := t) (a := b) (M := M) (c := d) (s := s'.upd i7 _) (p := p) (by rw [St.upd_ne _ _ n7p.symm]; exact up) ht (by omega)).mono ?_
      rintro _ s3 ⟨hs3, rfl⟩
      rw [hs3]
      clear hs3 s3
      rw [hm]
      by_cases hpos : 0 < m
      · have hpos' : (0 : Int) < (m : Nat) := by omega
        rw [if_pos hpos] at hfm
        simp [e0, e4, hpos, hpos']
        refine PW.drawn (fun i => 0) [0, 1, 3, 2, 4, 5] mixed_ (fun _ _ _ _ h => h) (by kernel_rfl) ?_
        simp [e0, e4, n7p, n72, n74, n7p.symm, n72.symm, n74.symm, u4]
        refine fin _ _ (by simp [e0]) (by simp [e2]) (by simp [e4]) (by rw [hfm]; simp) (St.sub.upd_of (hBs.upd h7) hB4) (by simp [h24, n72.symm, u2]) ?_
        rw [hfm, St.upd_same]
        simp
      · have hpos' : ¬ (0 : Int) < (m : Nat) := by omega
        have hm0 : m = 0 := by omega
        rw [if_neg hpos] at hfm
        have w1 : IntKind.i64.wrap 6 = 6 := by decide
        simp [e0, e4, e49, hpos, hpos', hm0, w1]
        exact ⟨n - 1, by omega, 6, by omega, e2, e5, e47, e48, rfl, hBs.upd h7, by simp [n72.symm, u2], by simp [n74.symm, u4], hfm.symm⟩
end
end Go.Pv

/- The program's lexer: the keys, the signs, all tokens. -/
namespace Go.Pv
open Go.Proofs
set_option linter.unusedVariables false
set_option linter.unusedSimpArgs false
set_option maxRecDepth 100000
set_option maxHeartbeats 1000000
theorem ascii_of {l : List UInt8} (h : l.all (fun b => decide (b.toNat < 128)) = true) : ∀ (j : Nat) b, l[j]? = some b → b.toNat < 128 := by
  intro j b hb
  rw [List.all_eq_true] at h
  simpa using h b (List.mem_of_getElem? hb)
theorem pkeys_c (s : St) (hv : Vars s) : PCalls Tryd.prog 10 [] s (fun r s' => s' = s ∧ r = .ret (strs .tight keysL)) := by
  refine PCalls.of Tryd.func10 rfl (by rfl) (by simp [Tryd.ntmps10]) ?_
  refine pwC_sound _ _ _ _ ?_
  simp [Tryd.ntmps10]
  refine (fields_c _ ?_ ?_ _ hv).mono ?_
  · decide
  · exact ascii_of (by kernel_rfl)
  rintro _ s1 ⟨hs1, rfl⟩
  rw [hs1]
  have : ∀ u : ByteArray, (Lib.fields u.data.toList).map (fun l => (⟨l.toArray⟩ : ByteArray)) = keysL → strs .tight ((Lib.fields u.data.toList).map fun l => (⟨l.toArray⟩ : ByteArray)) = strs .tight keysL := fun u h => by rw [h]
  rw [this _ (by kernel_rfl)]
  simp
theorem psigns_c (s : St) (hv : Vars s) : PCalls Tryd.prog 9 [] s (fun r s' => s' = s ∧ r = .ret (strs .tight signsL)) := by
  refine PCalls.of Tryd.func9 rfl (by rfl) (by simp [Tryd.ntmps9]) ?_
  refine pwC_sound _ _ _ _ ?_
  simp [Tryd.ntmps9]
  refine (fields_c _ ?_ ?_ _ hv).mono ?_
  · decide
  · exact ascii_of (by kernel_rfl)
  rintro _ s1 ⟨hs1, rfl⟩
  rw [hs1]
  have : ∀ u : ByteArray, (Lib.fields u.data.toList).map (fun l => (⟨l.toArray⟩ : ByteArray)) = signsL → strs .tight ((Lib.fields u.data.toList).map fun l => (⟨l.toArray⟩ : ByteArray)) = strs .tight signsL := fun u h => by rw [h]
  rw [this _ (by kernel_rfl)]
  simp
theorem dget_dset (es : List (ByteArray × PV)) (k b : ByteArray) (v : PV) : dget (dset es k v) b = if b = k then some v else dget es b := by
  induction es with
  | nil => simp [dset, dget]
  | cons q es ih =>
    obtain ⟨k', u⟩ := q
    by_cases h : k = k'
    · subst h
      simp [dset, dget]
      by_cases hb : b = k <;> simp [hb]
    · simp only [dset, if_neg h, dget, ih]
      by_cases hb : b = k'
      · have : ¬ b = k := fun e => h (e.symm.trans hb)
        simp [hb, this]
        intro e
        exact absurd e.symm h
      · simp [hb]
def keyD (l : List ByteArray) : List (ByteArray × PV) := l.foldl (fun es k => dset es k (.lit (.bool true))) []
theorem keyD_get (l : List ByteArray) (b : ByteArray) : dget (keyD l) b = if (l.any fun k => decide (k = b)) = true then some (.lit (.bool true)) else none := by
  have key : ∀ (l : List ByteArray) (es : List (ByteArray × PV)), dget (l.foldl (fun es k => dset es k (.lit (.bool true))) es) b = if (l.any fun k => decide (k = b)) = true then some (.lit (.bool true)) else dget es b := by
    intro l
    induction l with
    | nil => intro es; simp
    | cons x l ih =>
      intro es
      rw [List.foldl_cons, ih, dget_dset, List.any_cons]
      by_cases h : b = x
      · subst h; simp
      · have : ¬ x = b := fun e => h e.symm
        rw [if_neg h, show decide (x = b) = false from decide_eq_false this, Bool.false_or]
  exact (key l []).trans (by rfl)
theorem keyD_snoc (l : List ByteArray) (k : ByteArray) : keyD (l ++ [k]) = dset (keyD l) k (.lit (.bool true)) := by simp [keyD]
end Go.Pv

/- The program's lexer: all tokens of a text. -/
namespace Go.Pv
open Go.Proofs
set_option linter.unusedVariables false
set_option linter.unusedSimpArgs false
set_option maxRecDepth 100000
set_option maxHeartbeats 1000000
def ScanI (t : ByteArray) (M : PV) (p : Nat) (base : St) (n : Nat) (e : Env) (s' : St) : Prop :=
  ∃ (B : St) (i k : Nat) (c : Bool) (acc : List Tk) (v : PV), i ≤ t.size ∧ n = t.size + 1 - i ∧ n ≤ k ∧ e 4 = .pt p 0 0 ∧ e 7 = v ∧ acc ++ toksF keysL signsL t k i c = allT t ∧ acc.length ≤ 40000 ∧
    OwnL 31 4 B (acc.map encTC) v s' ∧ B p = some (scB t i M (strs .tight signsL) c) ∧ Vars B ∧ KeyMap B M ∧ base.sub B
theorem tokE_kd {t : ByteArray} (i : Nat) (c : Bool) : (tokE keysL signsL t i c).1 ≠ 0 := by
  unfold tokE
  repeat' split
  all_goals simp
theorem pscan_c (t : ByteArray) (ht : t.size ≤ 1000000000) (s : St) (hv : Vars s) : PCalls Tryd.prog 5 [.lit (.string t)] s (fun r s' => s' = s ∧ r = .ret (if 200000 < t.size ∨ 40000 < (allT t).length then .tup [.vec .nil [], .lit (.int .i64 2)] else .tup [toks .any (allT t), .lit (.int .i64 0)])) := by
  refine PCalls.conv (R := fun r s' => ∃ s2 : St, s2.sub s' ∧ (if 200000 < t.size ∨ 40000 < (allT t).length then s2 = s ∧ r = .ret (.tup [.vec .nil [], .lit (.int .i64 2)]) else ∃ v, r = .ret (.tup [v, .lit (.int .i64 0)]) ∧ OwnL 31 4 s ((allT t).map encTC) v s2)) ?_ ?_ ?_
  · refine PCalls.of Tryd.func5 rfl (by rfl) (by simp [Tryd.ntmps5]) ?_
    refine pwC_sound _ _ _ _ ?_
    refine pwC_cut fun K hK => ?_
    simp [Tryd.ntmps5]
    refine hK _ _ ?_
    clear hK K
    refine pwC_cut fun K hK => ?_
    by_cases h1 : 200000 < t.size
    · have h1' : (200000 : Int) < t.size := by omega
      clear hK
      simp [Tryd.ntmps5, h1, h1']
      exact ⟨_, sub_refl, sub_refl⟩
    have h1' : ¬ (200000 : Int) < t.size := by omega
    simp [Tryd.ntmps5, h1, h1']
    refine hK _ _ ?_
    clear hK K
    refine pwC_cut fun K hK => ?_
    simp
    intro im him
    refine (psigns_c _ (hv.upd (hv.fresh him).1 (hv.fresh him).2)).mono ?_
    rintro _ s1 ⟨hs1, rfl⟩
    rw [hs1]
    clear hs1 s1
    simp
    intro p hp0 hmp hps
    refine hK _ _ ?_
    clear hK K
    have him' := hv.fresh him
    have hpp' := hv.fresh hps
    have hpm : ¬ p = im := fun e => hmp e.symm
    generalize hE : Env.put _ _ _ = E
    have g2 : E 2 = .vec .nil [] := by rw [← hE]; simp
    have g4 : E 4 = .pt p 0 0 := by rw [← hE]; simp
    clear hE
    generalize hσ : St.upd (St.upd _ _ _) _ _ = σ
    have hσp : σ p = some (scB t 0 (.mp im) (strs .tight signsL) true) := by rw [← hσ]; simp
    have hσm : σ im = some (.dict []) := by rw [← hσ, St.upd_ne _ _ hmp]; simp
    have hσs : s.sub σ := by rw [← hσ]; exact ((sub_refl.upd_of him).upd_of hps)
    have hσv : Vars σ := hv.sub hσs
    clear hσ
    refine pwC_cut fun K hK => ?_
    simp
    refine (pkeys_c _ hσv).mono ?_
    rintro _ s1 ⟨hs1, rfl⟩
    rw [hs1]
    clear hs1 s1
    have hk200 : keysL.length ≤ 200 := by decide
    simp
    generalize hL : keysL = L at hk200 ⊢
    refine PW.loop (fun n e s' => ∃ j : Nat, j + n = L.length ∧ e 2 = .vec .nil [] ∧ e 4 = .pt p 0 0 ∧ e 17 = strs .tight L ∧ e 18 = .lit (.int .i64 (L.length : Nat)) ∧ e 19 = .lit (.int .i64 j) ∧ s' = σ.upd im (some (.dict (keyD (L.take j))))) L.length ⟨0, by omega, by simp [g2], by simp [g4], by simp, by simp, by simp, ?_⟩ ?_
    · rw [List.take_zero]
      funext i
      by_cases hi : i = im
      · subst hi; rw [St.upd_same]; exact hσm
      · rw [St.upd_ne _ _ hi]
    · rintro n e s' ⟨j, hj, e2, e4, e17, e18, e19, rfl⟩
      refine pwC_sound _ _ _ _ ?_
      by_cases hlt : j < L.length
      · have hlt' : (j : Int) < L.length := by omega
        have hg : L[j]? = some L[j] := List.getElem?_eq_getElem hlt
        have w1 : IntKind.i64.wrap ((j : Int) + 1) = ((j + 1 : Nat) : Int) := by rw [wrap_i64 (by omega) (by omega)]; omega
        have hσp' : (σ.upd im (some (.dict (keyD (L.take j))))) p = some (scB t 0 (.mp im) (strs .tight signsL) true) := by rw [St.upd_ne _ _ hpm]; exact hσp
        simp [e2, e4, e17, e18, e19, hlt, hlt', hg, w1, hpm, hσp]
        refine ⟨n - 1, by omega, j + 1, by omega, by omega, ?_⟩
        rw [show L.take (j + 1) = L.take j ++ [L[j]] from by rw [List.take_add_one, hg]; rfl, keyD_snoc]
      · have hlt' : ¬ (j : Int) < L.length := by omega
        have hjl : j = L.length := by omega
        simp [e2, e4, e17, e18, e19, hlt, hlt']
        refine hK _ _ ?_
        clear hK K
        have hkl := keyD_get L
        rw [hjl, List.take_length]
        have hM : KeyMap (σ.upd im (some (.dict (keyD L)))) (.mp im) := ⟨im, keyD L, rfl, by simp, fun b => by rw [hL]; exact hkl b⟩
        generalize hτ : St.upd _ _ _ = τ at hM ⊢
        have hτp : τ p = some (scB t 0 (.mp im) (strs .tight signsL) true) := by rw [← hτ, St.upd_ne _ _ hpm]; exact hσp
        have hτv : Vars τ := by rw [← hτ]; exact hσv.upd him'.1 him'.2
        have hτs : s.sub τ := by rw [← hτ]; exact hσs.upd_of him
        clear hτ hkl hσp hσm hσs hσv
        generalize hE' : Env.put e _ _ = E'
        have g2 : E' 2 = .vec .nil [] := by rw [← hE']; simp [e2]
        have g4 : E' 4 = .pt p 0 0 := by rw [← hE']; simp [e4]
        clear hE'
        refine pwC_cut fun K hK => ?_
        simp [g2, g4]
        refine hK _ _ ?_
        clear hK K
        simp
        refine PW.loop (fun n e s' => ScanI t (.mp im) p s n e s') (t.size + 1) ⟨τ, 0, t.size + 1, true, [], .vec .nil [], by omega, by omega, by omega, by simp [g4], by simp, by simp [allT], by simp, OwnL.nil _ _ _, hτp, hτv, hM, hτs⟩ ?_
        rintro n e s' ⟨B, i, k, c, acc, v, hi, hn, hk, e4, e7, hall, hacc, hO, hBp, hBv, hBM, hBs⟩
        refine pwC_sound _ _ _ _ ?_
        refine pwC_cut fun K hK => ?_
        simp [e4, e7]
        refine (ptoken_c (hBv.sub hO.sub) (hBM.sub hO.sub) (hO.at hBp) (by omega) hi).mono ?_
        intro r s1 hr
        obtain ⟨x, i2, c2, rfl, rfl, hx⟩ : ∃ (x : Tk) (i2 : Nat) (c2 : Bool), r = .ret (encT x) ∧ s1 = s'.upd p (some (scB t i2 (.mp im) (strs .tight signsL) c2)) ∧ ((x.kind = 0 ∧ acc ++ [x] = allT t) ∨ (x.kind ≠ 0 ∧ i < i2 ∧ i2 ≤ t.size ∧ (acc ++ [x]) ++ toksF keysL signsL t (k - 1) i2 c2 = allT t)) := by
          obtain ⟨hb1, hb2⟩ := bef_in c hi
          obtain ⟨k', rfl⟩ : ∃ k', k = k' + 1 := ⟨k - 1, by omega⟩
          rw [toksF_succ] at hall
          unfold restF at hall
          by_cases hend : (bef t i c).1 = t.size
          · rw [if_pos hend] at hr hall
            exact ⟨_, _, _, hr.1, hr.2, .inl ⟨rfl, hall⟩⟩
          · rw [if_neg hend] at hr hall
            have hin := tokE_in keysL signsL (bef t i c).2 (t := t) (i := (bef t i c).1) (by omega)
            exact ⟨_, _, _, hr.1, hr.2, .inr ⟨fun q => tokE_kd _ _ (Int.natCast_eq_zero.1 q), by omega, hin.2, by simpa using hall⟩⟩
        clear hr hall
        simp
        intro i8 h80 hp8 h8
        refine hK _ _ ?_
        clear hK K
        have hO2 := (hO.upd (k := p) (x := some (scB t i2 (.mp im) (strs .tight signsL) c2)) (.inr (by rw [hBp]; simp))).upd (k := i8) (x := some (.row 31 4 [encTC x])) (.inl (by rw [St.upd_ne _ _ (fun q => hp8 q.symm)]; exact h8))
        generalize hσ1 : St.upd (St.upd s' _ _) _ _ = σ1 at hO2 ⊢
        have h8B : Fresh B i8 := hO.sub.fresh h8
        have hp8' : ¬ i8 = p := fun q => hp8 q.symm
        have h8v := hBv.fresh h8B
        have hpv := hBv.ne hBp
        generalize hB1 : St.upd (St.upd B _ _) _ _ = B1 at hO2
        have hB1p : B1 p = some (scB t i2 (.mp im) (strs .tight signsL) c2) := by rw [← hB1, St.upd_ne _ _ hp8]; simp
        have hB18 : B1 i8 = some (.row 31 4 [encTC x]) := by rw [← hB1]; simp
        have hB1v : Vars B1 := by rw [← hB1]; exact (hBv.upd hpv.1 hpv.2).upd h8v.1 h8v.2
        have hB1m : KeyMap B1 (.mp im) := by rw [← hB1]; exact (hBM.upd hBp).sub (sub_refl.upd_of (by rw [St.upd_ne _ _ hp8']; exact h8B))
        have hB1s : s.sub B1 := by rw [← hB1]; exact (hBs.upd_of hps).upd_of (hBs.fresh h8B)
        clear hB1 hσ1
        have j8 := hO2.at hB18
        generalize hE : Env.put _ _ _ = E1
        have f4 : E1 4 = .pt p 0 0 := by rw [← hE]; simp [e4]
        have f7 : E1 7 = v := by rw [← hE]; simp [e7]
        have f8 : E1 8 = .pt i8 0 0 := by rw [← hE]; simp
        clear hE e4 e7
        refine pwC_cut fun K hK => ?_
        simp [f4, f7, f8, j8]
        refine appOwn (b := 48) (z := .agg #[.int .i64 0, .string ⟨#[]⟩, .string ⟨#[]⟩, .int .i64 0]) (ys := [encTC x]) hO2 (by simp) (by simp) (by simp) (by simp) rfl (by omega) (by simp) (fun s => by simp [elemsOf]) (by simp; omega) (fun v1 s2 hO3 => ?_)
        have k8 := hO3.at hB18
        refine hK _ _ ?_
        clear hK K
        generalize hE : Env.put _ _ _ = E2
        have g4 : E2 4 = .pt p 0 0 := by rw [← hE]; simp [f4]
        have g7 : E2 7 = v1 := by rw [← hE]; simp
        have g8 : E2 8 = .pt i8 0 0 := by rw [← hE]; simp [f8]
        clear hE f4 f7 f8 E1
        obtain ⟨j9, hv1⟩ : ∃ j9, v1 = .sl j9 4 0 (acc.length + 1) := by
          rcases hO3 with ⟨q, _⟩ | ⟨_, j9, _, q, _⟩
          · simp at q
          · exact ⟨j9, by rw [q]; simp⟩
        subst hv1
        have hacx : (acc ++ [x]).length = acc.length + 1 := by simp
        by_cases hbig : 40000 ≤ acc.length
        · have hbig' : (40000 : Int) < (acc.length : Int) + 1 := by omega
          have hall : 40000 < (allT t).length := by
            rcases hx with ⟨_, q⟩ | ⟨_, _, _, q⟩ <;> rw [← q] <;> simp <;> omega
          simp [g4, g7, g8, hbig, hbig', hall, k8]
          exact ⟨s, hB1s.trans hO3.sub, sub_refl⟩
        have hbig' : ¬ (40000 : Int) < (acc.length : Int) + 1 := by omega
        rcases hx with ⟨hk0, hall⟩ | ⟨hk0, hi1, hi2, hall⟩
        · have hlen : ¬ 40000 < (allT t).length := by rw [← hall, hacx]; omega
          simp [g4, g7, g8, hbig, hbig', hlen, h1, hk0, k8]
          obtain ⟨s3, q1, q2⟩ := hO3.shrink hB1s
          exact ⟨_, sub_refl, s3, q1, by rw [← hall]; simpa using q2⟩
        · simp [g4, g7, g8, hbig, hbig', hk0, k8]
          exact ⟨t.size + 1 - i2, by omega, B1, i2, k - 1, c2, acc ++ [x], _, hi2, rfl, by omega, by simp [g4], rfl, hall, by omega, by simpa [g7] using hO3, hB1p, hB1v, hB1m, hB1s⟩
  · rintro p s' ⟨s2, q1, q2⟩
    split at q2
    · obtain ⟨rfl, q3⟩ := q2
      cases q3
      exact ⟨_, _, Conv.sub q1 _, rfl, by rw [if_pos (by assumption)]⟩
    · obtain ⟨v, q3, q4⟩ := q2
      cases q3
      exact ⟨_, _, (Conv.sub q1 _).trans (Conv.ownTup q4 (xs := (allT t).map encT) (by simp) [] [.lit (.int .i64 0)] (by simp) (by simp [plainP])), rfl, by rw [if_neg (by assumption)]; rfl⟩
  · rintro c s' ⟨s2, q1, q2⟩
    split at q2
    · cases q2.2
    · obtain ⟨v, q3, _⟩ := q2
      cases q3
end Go.Pv
