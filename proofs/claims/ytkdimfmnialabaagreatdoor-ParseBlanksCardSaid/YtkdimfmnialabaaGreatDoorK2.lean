/- Several texts, one behind the other. -/
import Derived.Test.YtkdimfmnialabaaGreatDoorK1
import Derived.Test.YtkdimfmnialabaaGreatDoorProg
import Derived.Laws.Externs
import Derived.Lib.MakeNoZero
import Derived.Lib.Bytealg
import Derived.Shelf.Strings.Search3
import Derived.Shelf.Strings.Fields
import Derived.Test.YtkdimfmnialabaaGreatDoorChecked
import Derived.Test.YtkdimfmnialabaaGreatDoorRows
import Derived.Lib.LaidU8
import Derived.Shelf.Vars
import Derived.LaidByTextLater
import Derived.LaidMore
import Derived.Laws.Build
import Derived.WalkSmall
namespace Go.Pv
set_option linter.unusedVariables false
@[simp] theorem tsz_3 : tsz Go.Proofs.Tryz.prog 3 = some 1 := by kernel_rfl
@[simp] theorem aggT_3 : aggT Go.Proofs.Tryz.prog 3 = some false := by kernel_rfl
@[simp] theorem tz_3 : tzero Go.Proofs.Tryz.prog 3 = some (.int .i64 0) := by kernel_rfl
@[simp] theorem tsz_4 : tsz Go.Proofs.Tryz.prog 4 = some 1 := by kernel_rfl
@[simp] theorem aggT_4 : aggT Go.Proofs.Tryz.prog 4 = some false := by kernel_rfl
@[simp] theorem tz_4 : tzero Go.Proofs.Tryz.prog 4 = some (.bool false) := by kernel_rfl
@[simp] theorem tsz_5 : tsz Go.Proofs.Tryz.prog 5 = some 1 := by kernel_rfl
@[simp] theorem intT_5 : intT Go.Proofs.Tryz.prog 5 = some .u8 := by kernel_rfl
@[simp] theorem tsz_9 : tsz Go.Proofs.Tryz.prog 9 = some 1 := by kernel_rfl
@[simp] theorem aggT_9 : aggT Go.Proofs.Tryz.prog 9 = some false := by kernel_rfl
@[simp] theorem tz_9 : tzero Go.Proofs.Tryz.prog 9 = some (.string ⟨#[]⟩) := by kernel_rfl
@[simp] theorem strT_9 : isStrT Go.Proofs.Tryz.prog 9 = true := by kernel_rfl
@[simp] theorem tsz_22 : tsz Go.Proofs.Tryz.prog 22 = some 1 := by kernel_rfl
@[simp] theorem aggT_22 : aggT Go.Proofs.Tryz.prog 22 = some false := by kernel_rfl
@[simp] theorem sliceT_22 : sliceT Go.Proofs.Tryz.prog 22 = some 32 := by kernel_rfl
@[simp] theorem strT_22 : isStrT Go.Proofs.Tryz.prog 22 = false := by kernel_rfl
@[simp] theorem tsz_23 : tsz Go.Proofs.Tryz.prog 23 = some 1 := by kernel_rfl
@[simp] theorem aggT_23 : aggT Go.Proofs.Tryz.prog 23 = some false := by kernel_rfl
@[simp] theorem sliceT_23 : sliceT Go.Proofs.Tryz.prog 23 = some 3 := by kernel_rfl
@[simp] theorem tsz_24 : tsz Go.Proofs.Tryz.prog 24 = some 1 := by kernel_rfl
@[simp] theorem aggT_24 : aggT Go.Proofs.Tryz.prog 24 = some false := by kernel_rfl
@[simp] theorem sliceT_24 : sliceT Go.Proofs.Tryz.prog 24 = some 26 := by kernel_rfl
@[simp] theorem tsz_26 : tsz Go.Proofs.Tryz.prog 26 = some 6 := by kernel_rfl
@[simp] theorem aggT_26 : aggT Go.Proofs.Tryz.prog 26 = some true := by kernel_rfl
@[simp] theorem tz_26 : tzero Go.Proofs.Tryz.prog 26 = some (.agg #[(.int .i64 0), (.string ⟨#[]⟩), (.int .i64 0), (.int .i64 0), (.int .i64 0), (.slice none 0 0)]) := by kernel_rfl
@[simp] theorem fld_26_0 : fld Go.Proofs.Tryz.prog 26 0 = some (0, 3) := by kernel_rfl
@[simp] theorem fld_26_1 : fld Go.Proofs.Tryz.prog 26 1 = some (1, 9) := by kernel_rfl
@[simp] theorem fld_26_2 : fld Go.Proofs.Tryz.prog 26 2 = some (2, 3) := by kernel_rfl
@[simp] theorem fld_26_3 : fld Go.Proofs.Tryz.prog 26 3 = some (3, 3) := by kernel_rfl
@[simp] theorem fld_26_4 : fld Go.Proofs.Tryz.prog 26 4 = some (4, 3) := by kernel_rfl
@[simp] theorem fld_26_5 : fld Go.Proofs.Tryz.prog 26 5 = some (5, 24) := by kernel_rfl
@[simp] theorem pl_26 : placesP Go.Proofs.Tryz.prog 26 = some [(0, 1), (1, 1), (2, 1), (3, 1), (4, 1), (5, 1)] := by kernel_rfl
@[simp] theorem tsz_32 : tsz Go.Proofs.Tryz.prog 32 = some 4 := by kernel_rfl
@[simp] theorem aggT_32 : aggT Go.Proofs.Tryz.prog 32 = some true := by kernel_rfl
@[simp] theorem tby_32 : tby Go.Proofs.Tryz.prog 32 = some 48 := by kernel_rfl
@[simp] theorem tz_32 : tzero Go.Proofs.Tryz.prog 32 = some (.agg #[(.int .i64 0), (.string ⟨#[]⟩), (.string ⟨#[]⟩), (.int .i64 0)]) := by kernel_rfl
@[simp] theorem fld_32_0 : fld Go.Proofs.Tryz.prog 32 0 = some (0, 3) := by kernel_rfl
@[simp] theorem fld_32_2 : fld Go.Proofs.Tryz.prog 32 2 = some (2, 9) := by kernel_rfl
@[simp] theorem pl_32 : placesP Go.Proofs.Tryz.prog 32 = some [(0, 1), (1, 1), (2, 1), (3, 1)] := by kernel_rfl
@[simp] theorem tsz_37 : tsz Go.Proofs.Tryz.prog 37 = some 1 := by kernel_rfl
@[simp] theorem aggT_37 : aggT Go.Proofs.Tryz.prog 37 = some false := by kernel_rfl
@[simp] theorem sliceT_37 : sliceT Go.Proofs.Tryz.prog 37 = some 9 := by kernel_rfl
@[simp] theorem sliceT_60 : sliceT Go.Proofs.Tryz.prog 60 = some 5 := by kernel_rfl
@[simp] theorem tsz_83 : tsz Go.Proofs.Tryz.prog 83 = some 1 := by kernel_rfl
@[simp] theorem aggT_83 : aggT Go.Proofs.Tryz.prog 83 = some false := by kernel_rfl
@[simp] theorem tsz_113 : tsz Go.Proofs.Tryz.prog 113 = some 1 := by kernel_rfl
@[simp] theorem aggT_113 : aggT Go.Proofs.Tryz.prog 113 = some false := by kernel_rfl
@[simp] theorem mapT_113 : mapT Go.Proofs.Tryz.prog 113 = some (9, 4) := by kernel_rfl
@[simp] theorem tz_116 : tzero Go.Proofs.Tryz.prog 116 = some (.agg #[(.string ⟨#[]⟩), (.int .i64 0), (.map none), (.slice none 0 0), (.bool false)]) := by kernel_rfl
@[simp] theorem fld_116_0 : fld Go.Proofs.Tryz.prog 116 0 = some (0, 9) := by kernel_rfl
@[simp] theorem fld_116_1 : fld Go.Proofs.Tryz.prog 116 1 = some (1, 3) := by kernel_rfl
@[simp] theorem fld_116_2 : fld Go.Proofs.Tryz.prog 116 2 = some (2, 113) := by kernel_rfl
@[simp] theorem fld_116_3 : fld Go.Proofs.Tryz.prog 116 3 = some (3, 37) := by kernel_rfl
@[simp] theorem fld_116_4 : fld Go.Proofs.Tryz.prog 116 4 = some (4, 4) := by kernel_rfl
@[simp] theorem pl_116 : placesP Go.Proofs.Tryz.prog 116 = some [(0, 1), (1, 1), (2, 1), (3, 1), (4, 1)] := by kernel_rfl
@[simp] theorem tsz_121 : tsz Go.Proofs.Tryz.prog 121 = some 1 := by kernel_rfl
@[simp] theorem aggT_121 : aggT Go.Proofs.Tryz.prog 121 = some false := by kernel_rfl
@[simp] theorem fld_126_4 : fld Go.Proofs.Tryz.prog 126 4 = some (4, 3) := by kernel_rfl
@[simp] theorem fld_126_6 : fld Go.Proofs.Tryz.prog 126 6 = some (6, 3) := by kernel_rfl
@[simp] theorem sliceT_136 : sliceT Go.Proofs.Tryz.prog 136 = some 137 := by kernel_rfl
@[simp] theorem tsz_137 : tsz Go.Proofs.Tryz.prog 137 = some 2 := by kernel_rfl
@[simp] theorem tz_137 : tzero Go.Proofs.Tryz.prog 137 = some (.agg #[(.int .i64 0), (.int .i64 0)]) := by kernel_rfl
@[simp] theorem tsz_174 : tsz Go.Proofs.Tryz.prog 174 = some 2 := by kernel_rfl
@[simp] theorem aggT_174 : aggT Go.Proofs.Tryz.prog 174 = some true := by kernel_rfl
@[simp] theorem tz_174 : tzero Go.Proofs.Tryz.prog 174 = some (.agg #[(.int .i64 0), .nilFunc]) := by kernel_rfl
@[simp] theorem fld_174_0 : fld Go.Proofs.Tryz.prog 174 0 = some (0, 3) := by kernel_rfl
@[simp] theorem fld_174_1 : fld Go.Proofs.Tryz.prog 174 1 = some (1, 83) := by kernel_rfl
@[simp] theorem pl_174 : placesP Go.Proofs.Tryz.prog 174 = some [(0, 1), (1, 1)] := by kernel_rfl
@[simp] theorem sliceT_175 : sliceT Go.Proofs.Tryz.prog 175 = some 174 := by kernel_rfl
@[simp] theorem tsz_286 : tsz Go.Proofs.Tryz.prog 286 = some 2 := by kernel_rfl
@[simp] theorem aggT_286 : aggT Go.Proofs.Tryz.prog 286 = some true := by kernel_rfl
@[simp] theorem fld_286_0 : fld Go.Proofs.Tryz.prog 286 0 = some (0, 22) := by kernel_rfl
@[simp] theorem fld_286_1 : fld Go.Proofs.Tryz.prog 286 1 = some (1, 23) := by kernel_rfl
@[simp] theorem mixed_ : Go.Proofs.Tryz.prog.follows .mixedOrders = true := by kernel_rfl
end Go.Pv

namespace Go.Pv
open Go.Proofs
set_option linter.unusedVariables false
set_option linter.unusedSimpArgs false
set_option maxRecDepth 100000
set_option maxHeartbeats 1000000
theorem rletter_c (c : Int) (s : St) : PCalls Tryz.prog 163 [.lit (.int .u8 c)] s (fun r s' => s' = s ∧ r = .ret (.lit (.bool (isL c)))) := by
 refine PCalls.of Tryz.func163 rfl (by rfl) (by simp [Tryz.ntmps163]) ?_
 refine pwC_sound _ _ _ _ ?_
 by_cases h1 : 97 ≤ c <;> by_cases h2 : c ≤ 122 <;> by_cases h3 : 65 ≤ c <;> by_cases h4 : c ≤ 90 <;>
  simp [Tryz.ntmps163, isL, h1, h2, h3, h4]
theorem rdigit_c (c : Int) (s : St) : PCalls Tryz.prog 165 [.lit (.int .u8 c)] s (fun r s' => s' = s ∧ r = .ret (.lit (.bool (isD c)))) := by
 refine PCalls.of Tryz.func165 rfl (by rfl) (by simp [Tryz.ntmps165]) ?_
 refine pwC_sound _ _ _ _ ?_
 by_cases h1 : 48 ≤ c <;> simp [Tryz.ntmps165, isD, h1]
theorem rbyte_c (t : ByteArray) (i : Nat) (ht : t.size ≤ 1000000) (s : St) : PCalls Tryz.prog 160 [.lit (.string t), .lit (.int .i64 i)] s (fun r s' => s' = s ∧ r = .ret (.lit (.int .u8 (bt t i)))) := by
 refine PCalls.of Tryz.func160 rfl (by rfl) (by simp [Tryz.ntmps160]) ?_
 refine pwC_sound _ _ _ _ ?_
 have h0 : ¬ (i : Int) < 0 := by omega
 by_cases h1 : i < t.size
 ·have h2 : ¬ (t.size : Int) ≤ i := by omega
  have h3 : ¬ t.size ≤ i := by omega
  simp [Tryz.ntmps160, h0, h1, h2, h3]
 ·have h2 : (t.size : Int) ≤ i := by omega
  have h3 : t.size ≤ i := by omega
  simp [Tryz.ntmps160, h0, h1, h2, h3, bt_none h3]
theorem rbegins_c (t : ByteArray) (i : Nat) (x : ByteArray) (ht : t.size ≤ 1000000) (hi : i ≤ 1000000) (hx : x.size ≤ 1000000) (s : St) : PCalls Tryz.prog 234 [.lit (.string t), .lit (.int .i64 i), .lit (.string x)] s (fun r s' => s' = s ∧ r = .ret (.lit (.bool (beg t i x)))) := by
 refine PCalls.of Tryz.func234 rfl (by rfl) (by simp [Tryz.ntmps234]) ?_
 refine pwC_sound _ _ _ _ ?_
 have w1 : IntKind.i64.wrap ((t.size : Int) - (i : Int)) = (t.size : Int) - (i : Int) := wrap_i64 (by omega) (by omega)
 have w2 : IntKind.i64.wrap ((i : Int) + (x.size : Int)) = (i : Int) + (x.size : Int) := wrap_i64 (by omega) (by omega)
 have w3 : ((i : Int) + (x.size : Int)).toNat = i + x.size := by omega
 have w4 : (0 : Int) ≤ (i : Int) + (x.size : Int) := by omega
 by_cases h1 : i + x.size ≤ t.size
 ·have h2 : (x.size : Int) ≤ (t.size : Int) - (i : Int) := by omega
  simp [Tryz.ntmps234, w1, w2, w3, w4, h1, h2, beg]
 ·have h2 : ¬ (x.size : Int) ≤ (t.size : Int) - (i : Int) := by omega
  simp [Tryz.ntmps234, w1, w2, w3, w4, h1, h2, beg]
end Go.Pv

namespace Go.Pv
open Go.Proofs
set_option linter.unusedVariables false
set_option linter.unusedSimpArgs false
set_option maxRecDepth 100000
set_option maxHeartbeats 1000000
theorem rcomment_c (t : ByteArray) (i : Nat) (ht : t.size ≤ 1000000) (hi : i ≤ t.size) (s : St) : PCalls Tryz.prog 161 [.lit (.string t), .lit (.int .i64 i)] s (fun r s' => s' = s ∧ r = .ret (.lit (.int .i64 (cmtEnd t i)))) := by
 refine PCalls.of Tryz.func161 rfl (by rfl) (by simp [Tryz.ntmps161]) ?_
 refine pwC_sound _ _ _ _ ?_
 simp [Tryz.ntmps161]
 refine (rbegins_c t i ⟨#[47, 47]⟩ ht (by omega) (by decide) _).mono ?_
 rintro _ s1 ⟨hs1, rfl⟩
 rw [hs1]
 clear hs1 s1
 by_cases h1 : beg t i ⟨#[47, 47]⟩ = true
 ·simp [h1]
  refine PW.loop (fun n e s' => ∃ j : Nat, j + n = t.size ∧ e 0 = .lit (.string t) ∧ e 1 = .lit (.int .i64 j) ∧ scanW (fun j => decide (bt t j ≠ 10)) t.size j = cmtEnd t i ∧ s' = s) (t.size - i) ⟨i, by omega, by simp, by simp, by simp [cmtEnd, h1], rfl⟩ ?_
  rintro n e s' ⟨j, hj, e0, e1, hs, rfl⟩
  refine pwC_sound _ _ _ _ ?_
  by_cases hlt : j < t.size
  ·have hlt' : (j : Int) < t.size := by omega
   have w1 : IntKind.i64.wrap ((j : Int) + 1) = ((j + 1 : Nat) : Int) := by rw [wrap_i64 (by omega) (by omega)]; omega
   by_cases hc : bt t j = 10
   ·rw [scanW_stop (by simp [hc])] at hs
    simp [e0, e1, hlt, hlt', hc, ← hs]
   ·rw [scanW_step hlt (by simp [hc])] at hs
    simp [e0, e1, hlt, hlt', hc, w1]
    exact ⟨n - 1, by omega, j + 1, by omega, by omega, by simpa using hs⟩
  ·have hlt' : ¬ (j : Int) < t.size := by omega
   rw [scanW_end (by omega)] at hs
   simp [e0, e1, hlt, hlt', ← hs]
 ·simp [h1]
  refine (rbegins_c t i ⟨#[47, 42]⟩ ht (by omega) (by decide) _).mono ?_
  rintro _ s1 ⟨hs1, rfl⟩
  rw [hs1]
  clear hs1 s1
  by_cases h2 : beg t i ⟨#[47, 42]⟩ = true
  ·have hi2 : i + 2 ≤ t.size := by
    have := h2
    simp [beg] at this
    exact this.1
   have w2 : IntKind.i64.wrap ((i : Int) + 2) = ((i + 2 : Nat) : Int) := by rw [wrap_i64 (by omega) (by omega)]; omega
   simp [h2, w2]
   refine PW.loop (fun n e s' => ∃ j : Nat, j + n = t.size ∧ e 0 = .lit (.string t) ∧ e 5 = .lit (.int .i64 j) ∧ (let k := scanW (fun j => !beg t j ⟨#[42, 47]⟩) t.size j; if k < t.size then k + 2 else t.size) = cmtEnd t i ∧ s' = s) (t.size - (i + 2)) ⟨i + 2, by omega, by simp, by simp, by simp [cmtEnd, h1, h2], rfl⟩ ?_
   rintro n e s' ⟨j, hj, e0, e5, hs, rfl⟩
   refine pwC_sound _ _ _ _ ?_
   by_cases hlt : j < t.size
   ·have hlt' : (j : Int) < t.size := by omega
    have w1 : IntKind.i64.wrap ((j : Int) + 1) = ((j + 1 : Nat) : Int) := by rw [wrap_i64 (by omega) (by omega)]; omega
    have w3 : IntKind.i64.wrap ((j : Int) + 2) = ((j + 2 : Nat) : Int) := by rw [wrap_i64 (by omega) (by omega)]; omega
    simp [e0, e5, hlt, hlt']
    refine (rbegins_c t j ⟨#[42, 47]⟩ ht (by omega) (by decide) _).mono ?_
    rintro _ s1 ⟨hs1, rfl⟩
    rw [hs1]
    clear hs1 s1
    by_cases hc : beg t j ⟨#[42, 47]⟩ = true
    ·rw [scanW_stop (by simp [hc])] at hs
     simp [hlt] at hs
     simp [e0, e5, hlt, hlt', hc, w3, ← hs]
    ·rw [scanW_step hlt (by simp [hc])] at hs
     simp [e0, e5, hlt, hlt', hc, w1]
     exact ⟨n - 1, by omega, j + 1, by omega, by omega, by simpa using hs⟩
   ·have hlt' : ¬ (j : Int) < t.size := by omega
    rw [scanW_end (by omega)] at hs
    simp [hlt] at hs
    simp [e0, e5, hlt, hlt', ← hs]
  ·simp [h2, cmtEnd, h1]
end Go.Pv

namespace Go.Pv
open Go.Proofs
set_option linter.unusedVariables false
set_option linter.unusedSimpArgs false
set_option maxRecDepth 100000
set_option maxHeartbeats 1000000
theorem rnumber_c (t : ByteArray) (i : Nat) (ht : t.size ≤ 1000000) (hi : i < t.size) (s : St) : PCalls Tryz.prog 166 [.lit (.string t), .lit (.int .i64 i)] s (fun r s' => s' = s ∧ r = .ret (.lit (.int .i64 (numEnd t i)))) := by
  refine PCalls.of Tryz.func166 rfl (by rfl) (by simp [Tryz.ntmps166]) ?_
  refine pwC_sound _ _ _ _ ?_
  have w0 : IntKind.i64.wrap ((i : Int) + 1) = ((i + 1 : Nat) : Int) := by rw [wrap_i64 (by omega) (by omega)]; omega
  simp [Tryz.ntmps166, w0]
  refine PW.loop (fun n e s' => ∃ j : Nat, j + n = t.size ∧ i + 1 ≤ j ∧ e 0 = .lit (.string t) ∧ e 5 = .lit (.int .i64 j) ∧ scanW (numP t) t.size j = numEnd t i ∧ s' = s) (t.size - (i + 1)) ⟨i + 1, by omega, by omega, by simp, by simp, rfl, rfl⟩ ?_
  rintro n e s' ⟨j, hj, hij, e0, e5, hs, rfl⟩
  refine pwC_sound _ _ _ _ ?_
  by_cases hlt : j < t.size
  · have hlt' : (j : Int) < t.size := by omega
    have hlt2 : j - 1 < t.size := by omega
    have w1 : IntKind.i64.wrap ((j : Int) + 1) = ((j + 1 : Nat) : Int) := by rw [wrap_i64 (by omega) (by omega)]; omega
    have w2 : IntKind.i64.wrap ((j : Int) - 1) = ((j - 1 : Nat) : Int) := by rw [wrap_i64 (by omega) (by omega)]; omega
    have hn : numP t j = true → scanW (numP t) t.size (j + 1) = numEnd t i := fun h => by rw [scanW_step hlt h] at hs; exact hs
    have hno : numP t j = false → numEnd t i = j := fun h => by rw [scanW_stop h] at hs; exact hs.symm
    by_cases hsg : bt t j = 43 ∨ bt t j = 45
    · have hL : isL (bt t j) = false := by rcases hsg with a | a <;> rw [a] <;> decide
      have hD : isD (bt t j) = false := by rcases hsg with a | a <;> rw [a] <;> decide
      have h46 : ¬ bt t j = 46 := by omega
      by_cases a1 : bt t j = 43 <;> by_cases a3 : bt t (j - 1) = 101 <;> by_cases a4 : bt t (j - 1) = 69 <;> (try (exfalso; omega)) <;>
      (have a2 : ¬ bt t j = 43 → bt t j = 45 := by omega
       simp [a1] at a2
       simp [a1, a2] at hL hD
       simp [e0, e5, hlt, hlt', hlt2, w2, a1, a2, a3, a4]
       refine (rletter_c _ _).mono ?_
       rintro _ s1 ⟨hs1, rfl⟩
       rw [hs1]
       clear hs1 s1
       simp [e0, e5, hlt, hlt', hlt2, w2, a1, a2, a3, a4, hL]
       refine (rdigit_c _ _).mono ?_
       rintro _ s1 ⟨hs1, rfl⟩
       rw [hs1]
       clear hs1 s1
       simp [e0, e5, hlt, hlt', hlt2, w1, w2, a1, a2, a3, a4, hL, hD]
       first
       | exact ⟨n - 1, by omega, j + 1, by omega, by omega, by omega, hn (by simp [numP, hL, hD, a1, a2, a3, a4])⟩
       | (rw [hno (by simp [numP, hL, hD, a1, a2, a3, a4])]; exact ⟨_, sub_refl, rfl, rfl⟩))
    · have a1 : ¬ bt t j = 43 := fun h => hsg (.inl h)
      have a2 : ¬ bt t j = 45 := fun h => hsg (.inr h)
      simp [e0, e5, hlt, hlt', hlt2, w2, a1, a2]
      refine (rletter_c _ _).mono ?_
      rintro _ s1 ⟨hs1, rfl⟩
      rw [hs1]
      clear hs1 s1
      by_cases hL : isL (bt t j) = true
      · simp [e0, e5, hlt, hlt', hlt2, w1, w2, a1, a2, hL]
        exact ⟨n - 1, by omega, j + 1, by omega, by omega, by omega, hn (by simp [numP, hL])⟩
      · simp [e0, e5, hlt, hlt', hlt2, w1, w2, a1, a2, hL]
        refine (rdigit_c _ _).mono ?_
        rintro _ s1 ⟨hs1, rfl⟩
        rw [hs1]
        clear hs1 s1
        by_cases hD : isD (bt t j) = true
        · simp [e0, e5, hlt, hlt', hlt2, w1, w2, a1, a2, hL, hD]
          exact ⟨n - 1, by omega, j + 1, by omega, by omega, by omega, hn (by simp [numP, hD])⟩
        · by_cases h46 : bt t j = 46
          · simp [e0, e5, hlt, hlt', hlt2, w1, w2, a1, a2, hL, hD, h46]
            exact ⟨n - 1, by omega, j + 1, by omega, by omega, by omega, hn (by simp [numP, h46])⟩
          · simp [e0, e5, hlt, hlt', hlt2, w1, w2, a1, a2, hL, hD, h46]
            rw [hno (by simp [numP, hL, hD, a1, a2, h46])]
            exact ⟨_, sub_refl, rfl, rfl⟩
  · have hlt' : ¬ (j : Int) < t.size := by omega
    rw [scanW_end (by omega)] at hs
    simp [e0, e5, hlt, hlt', ← hs]
end Go.Pv

namespace Go.Pv
open Go.Proofs
set_option linter.unusedVariables false
set_option linter.unusedSimpArgs false
set_option maxRecDepth 100000
set_option maxHeartbeats 1000000
theorem quotF_fuel (t : ByteArray) (q : Int) : ∀ (k k' i : Nat), t.size - i ≤ k → t.size - i ≤ k' → quotF t q k i = quotF t q k' i
 | 0, k', i, h, h' => by
  cases k' with
  | zero => rfl
  | succ k' => simp only [quotF]; rw [if_neg (by omega)]
 | k + 1, 0, i, h, h' => by simp only [quotF]; rw [if_neg (by omega)]
 | k + 1, k' + 1, i, h, h' => by
  simp only [quotF]
  rw [quotF_fuel t q k k' (i + 2) (by omega) (by omega), quotF_fuel t q k k' (i + 1) (by omega) (by omega)]
theorem quotE_eq (t : ByteArray) (q : Int) (i : Nat) : quotE t q i = if i < t.size then (if bt t i = q then some (i + 1) else if bt t i = 10 then none else if bt t i = 92 then (if bt t (i + 1) = 10 then none else quotE t q (i + 2)) else quotE t q (i + 1)) else none := by
 unfold quotE
 cases h : t.size - i with
 | zero => rw [if_neg (by omega)]; rfl
 | succ k =>
  simp only [quotF]
  rw [quotF_fuel t q k (t.size - (i + 2)) (i + 2) (by omega) (by omega), quotF_fuel t q k (t.size - (i + 1)) (i + 1) (by omega) (by omega)]
theorem rquoted_c (t : ByteArray) (i : Nat) (ht : t.size ≤ 1000000) (hi : i < t.size) (hq : bt t i = 39 ∨ bt t i = 34) (s : St) : PCalls Tryz.prog 167 [.lit (.string t), .lit (.int .i64 i)] s (fun r s' => s' = s ∧ r = .ret (.lit (.int .i64 ((quotE t (bt t i) (i + 1)).getD i : Nat)))) := by
 refine PCalls.of Tryz.func167 rfl (by rfl) (by simp [Tryz.ntmps167]) ?_
 refine pwC_sound _ _ _ _ ?_
 have w0 : IntKind.i64.wrap ((i : Int) + 1) = ((i + 1 : Nat) : Int) := by rw [wrap_i64 (by omega) (by omega)]; omega
 simp [Tryz.ntmps167, w0]
 refine PW.loop (fun n e s' => ∃ j : Nat, j + n = t.size + 1 ∧ i + 1 ≤ j ∧ e 0 = .lit (.string t) ∧ e 1 = .lit (.int .i64 i) ∧ e 5 = .lit (.int .i64 j) ∧ quotE t (bt t i) j = quotE t (bt t i) (i + 1) ∧ s' = s) (t.size + 1 - (i + 1)) ⟨i + 1, by omega, by omega, by simp, by simp, by simp, rfl, rfl⟩ ?_
 rintro n e s' ⟨j, hj, hij, e0, e1, e5, hs, rfl⟩
 refine pwC_sound _ _ _ _ ?_
 rw [quotE_eq] at hs
 have hq10 : ¬ bt t i = 10 := by omega
 by_cases hlt : j < t.size
 ·have hlt' : (j : Int) < t.size := by omega
  have w1 : IntKind.i64.wrap ((j : Int) + 1) = ((j + 1 : Nat) : Int) := by rw [wrap_i64 (by omega) (by omega)]; omega
  rw [if_pos hlt] at hs
  by_cases h10 : bt t j = 10
  ·rw [if_neg (by omega), if_pos h10] at hs
   simp [e0, e1, e5, hlt, hlt', h10, ← hs]
  ·refine pwC_cut fun K1 hK1 => ?_
   simp [e0, e5, hlt, hlt', h10]
   refine hK1 _ _ ?_
   clear hK1 K1
   simp
   refine PW.drawn (fun i => 0) [0, 1, 2, 3, 4, 5, 6] mixed_ (fun _ _ _ _ h => h) (by kernel_rfl) ?_
   by_cases hc : bt t j = bt t i
   ·rw [if_pos hc] at hs
    simp [e0, e1, e5, hlt, hlt', hi, hc, w1]
    rw [← hs]
    simp
   ·rw [if_neg hc, if_neg h10] at hs
    by_cases h92 : bt t j = 92
    ·rw [if_pos h92] at hs
     rw [h92] at hc h10
     by_cases hlt1 : j + 1 < t.size
     ·have hlt1' : (j : Int) + 1 < t.size := by omega
      have w5 : IntKind.i64.wrap ((j : Int) + 1 + 1) = ((j + 2 : Nat) : Int) := by rw [wrap_i64 (by omega) (by omega)]; omega
      have w6 : ((j : Int) + 1).toNat = j + 1 := by omega
      have w7 : (0 : Int) ≤ (j : Int) + 1 := by omega
      by_cases h10' : bt t (j + 1) = 10
      ·rw [if_pos h10'] at hs
       simp [e0, e1, e5, hlt, hlt', hi, hc, w1, h92, hlt1, hlt1', w6, w7, h10', ← hs]
      ·rw [if_neg h10'] at hs
       simp [e0, e1, e5, hlt, hlt', hi, hc, w1, h92, hlt1, hlt1', w5, w6, w7, h10']
       exact ⟨n - 2, by omega, j + 2, by omega, by omega, by omega, hs⟩
     ·have hlt1' : ¬ (j : Int) + 1 < t.size := by omega
      have w5 : IntKind.i64.wrap ((j : Int) + 1 + 1) = ((j + 2 : Nat) : Int) := by rw [wrap_i64 (by omega) (by omega)]; omega
      rw [if_neg (by rw [bt_none (by omega)]; omega)] at hs
      simp [e0, e1, e5, hlt, hlt', hi, hc, w1, h92, hlt1, hlt1', w5]
      exact ⟨n - 2, by omega, j + 2, by omega, by omega, by omega, hs⟩
    ·rw [if_neg h92] at hs
     simp [e0, e1, e5, hlt, hlt', hi, hc, w1, h92]
     exact ⟨n - 1, by omega, j + 1, by omega, by omega, by omega, hs⟩
 ·have hlt' : ¬ (j : Int) < t.size := by omega
  rw [if_neg hlt] at hs
  simp [e0, e1, e5, hlt, hlt', ← hs]
end Go.Pv

namespace Go.Pv
open Go.Proofs
set_option linter.unusedVariables false
set_option linter.unusedSimpArgs false
set_option maxRecDepth 100000
set_option maxHeartbeats 1000000
theorem rline_c (t : ByteArray) (i : Nat) (ht : t.size ≤ 1000000) (hi : i < t.size) (h35 : bt t i = 35) (s : St) : PCalls Tryz.prog 162 [.lit (.string t), .lit (.int .i64 i)] s (fun r s' => s' = s ∧ r = .ret (.lit (.int .i64 (lineEnd t i)))) := by
 refine PCalls.of Tryz.func162 rfl (by rfl) (by simp [Tryz.ntmps162]) ?_
 refine pwC_sound _ _ _ _ ?_
 refine pwC_cut fun K hK => ?_
 simp [Tryz.ntmps162]
 refine hK _ _ ?_
 clear hK K
 refine pwC_cut fun K hK => ?_
 simp
 refine hK _ _ ?_
 clear hK K
 refine pwC_cut fun K hK => ?_
 simp
 have fin : ∀ (e : Env) (j : Nat), j ≤ t.size → e 0 = .lit (.string t) → e 1 = .lit (.int .i64 i) → e 5 = .lit (.int .i64 j) → scanW (linP t i) t.size i = j → K e s := by
  intro e j hj e0 e1 e5 hs
  refine hK _ _ ?_
  clear hK K
  have hle : lineEnd t i = if j < t.size ∧ i + 1 < j ∧ bt t (j - 1) = 13 then j - 1 else j := by simp [lineEnd, hs]
  have w2 : IntKind.i64.wrap ((j : Int) - 1) = (j : Int) - 1 := by rw [wrap_i64 (by omega) (by omega)]
  by_cases h1 : j < t.size
  ·have h1' : (j : Int) < t.size := by omega
   by_cases h2 : i + 1 < j
   ·have h2' : (i : Int) < (j : Int) - 1 := by omega
    have h3 : ((j : Int) - 1).toNat = j - 1 := by omega
    have h4 : (0 : Int) ≤ (j : Int) - 1 := by omega
    have h5 : j - 1 < t.size := by omega
    have h4' : (1 : Int) ≤ (j : Int) := by omega
    by_cases h6 : bt t (j - 1) = 13
    ·simp [h1, h2, h6] at hle
     simp [e0, e1, e5, w2, h1, h1', h2', h3, h4, h4', h5, h6, hle]
     exact ⟨_, sub_refl, rfl, by omega⟩
    ·simp [h1, h2, h6] at hle
     simp [e0, e1, e5, w2, h1, h1', h2', h3, h4, h4', h5, h6, hle]
   ·have h2' : ¬ (i : Int) < (j : Int) - 1 := by omega
    simp [h1, h2] at hle
    simp [e0, e1, e5, w2, h1, h1', h2', hle]
  ·have h1' : ¬ (j : Int) < t.size := by omega
   simp [h1] at hle
   simp [e0, e1, e5, w2, h1, h1', hle]
 clear hK
 refine PW.loop (fun n e s' => ∃ j : Nat, j + n = t.size ∧ i ≤ j ∧ e 0 = .lit (.string t) ∧ e 1 = .lit (.int .i64 i) ∧ e 5 = .lit (.int .i64 j) ∧ scanW (linP t i) t.size j = scanW (linP t i) t.size i ∧ s' = s) (t.size - i) ⟨i, by omega, by omega, by simp, by simp, by simp, rfl, rfl⟩ ?_
 rintro n e s' ⟨j, hj, hij, e0, e1, e5, hs, rfl⟩
 refine pwC_sound _ _ _ _ ?_
 by_cases hlt : j < t.size
 ·have hlt' : (j : Int) < t.size := by omega
  have w1 : IntKind.i64.wrap ((j : Int) + 1) = ((j + 1 : Nat) : Int) := by rw [wrap_i64 (by omega) (by omega)]; omega
  have hn : linP t i j = true → scanW (linP t i) t.size (j + 1) = scanW (linP t i) t.size i := fun h => by rw [scanW_step hlt h] at hs; exact hs
  have hno : linP t i j = false → scanW (linP t i) t.size i = j := fun h => by rw [scanW_stop h] at hs; exact hs.symm
  by_cases h10 : bt t j = 10
  ·have hji : i < j := by
    rcases Nat.lt_or_ge i j with h | h
    ·exact h
    ·have : j = i := by omega
     subst this; omega
   have w2 : IntKind.i64.wrap ((j : Int) - 1) = ((j : Int) - 1) := by rw [wrap_i64 (by omega) (by omega)]
   have w3 : IntKind.i64.wrap ((j : Int) - 2) = ((j : Int) - 2) := by rw [wrap_i64 (by omega) (by omega)]
   have h3 : ((j : Int) - 1).toNat = j - 1 := by omega
   have h4 : (0 : Int) ≤ (j : Int) - 1 := by omega
   have h4' : (1 : Int) ≤ (j : Int) := by omega
   have h5 : j - 1 < t.size := by omega
   by_cases a1 : bt t (j - 1) = 92
   ·simp [e0, e1, e5, hlt, hlt', h10, w1, w2, h3, h4, h4', h5, a1]
    exact ⟨n - 1, by omega, j + 1, by omega, by omega, by omega, hn (by simp [linP, a1])⟩
   ·by_cases a2 : i + 2 ≤ j
    ·have a2' : (i : Int) ≤ (j : Int) - 2 := by omega
     have h6 : ((j : Int) - 2).toNat = j - 2 := by omega
     have h7 : (0 : Int) ≤ (j : Int) - 2 := by omega
     have h7' : (2 : Int) ≤ (j : Int) := by omega
     have h8 : j - 2 < t.size := by omega
     by_cases a3 : bt t (j - 1) = 13
     ·by_cases a4 : bt t (j - 2) = 92
      ·simp [e0, e1, e5, hlt, hlt', h10, w1, w2, w3, h3, h4, h4', h5, h6, h7, h7', h8, a1, a2', a3, a4]
       exact ⟨n - 1, by omega, j + 1, by omega, by omega, by omega, hn (by simp [linP, a2, a3, a4])⟩
      ·simp [e0, e1, e5, hlt, hlt', h10, w1, w2, w3, h3, h4, h4', h5, h6, h7, h7', h8, a1, a2', a3, a4]
       exact fin _ j (by omega) (by simp [e0]) (by simp [e1]) (by simp [e5]) (hno (by simp [linP, h10, a1, a3, a4]))
     ·simp [e0, e1, e5, hlt, hlt', h10, w1, w2, w3, h3, h4, h4', h5, h6, h7, h7', h8, a1, a2', a3]
      exact fin _ j (by omega) (by simp [e0]) (by simp [e1]) (by simp [e5]) (hno (by simp [linP, h10, a1, a3]))
    ·have a2' : ¬ (i : Int) ≤ (j : Int) - 2 := by omega
     simp [e0, e1, e5, hlt, hlt', h10, w1, w2, w3, h3, h4, h4', h5, a1, a2']
     exact fin _ j (by omega) (by simp [e0]) (by simp [e1]) (by simp [e5]) (hno (by simp [linP, h10, a1]; omega))
  ·simp [e0, e1, e5, hlt, hlt', h10, w1]
   exact ⟨n - 1, by omega, j + 1, by omega, by omega, by omega, hn (by simp [linP, h10])⟩
 ·have hlt' : ¬ (j : Int) < t.size := by omega
  rw [scanW_end (by omega)] at hs
  simp [e0, e1, e5, hlt, hlt']
  exact fin _ j (by omega) (by simp [e0]) (by simp [e1]) (by simp [e5]) hs.symm
end Go.Pv

namespace Go.Pv
open Go.Proofs
set_option linter.unusedVariables false
set_option linter.unusedSimpArgs false
set_option maxRecDepth 100000
set_option maxHeartbeats 1000000
def BldAt (gr : Bool) (base : St) (i : Nat) (b : List UInt8) (s : St) : Prop := Fresh base i ∧ ∃ p, (p = .lit (.pointer none) ∨ p = .pt i 0 0) ∧
 ((b = [] ∧ s = base.upd i (some (.row 77 2 [[p, .vec .nil []]]))) ∨
 ∃ j, (gr = true ∨ b ≠ []) ∧ j ≠ i ∧ Fresh base j ∧ s = (base.upd i (some (.row 77 2 [[p, .sl j 1 0 b.length]]))).upd j (some (.row 5 1 (b.map fun c => [.lit (.int .u8 c.toNat)]))))
theorem bytesOf_map : ∀ (b : List UInt8), bytesOf (b.map fun c => [PV.lit (.int .u8 c.toNat)]) = some b
 | [] => rfl
 | c :: b => by
  have := c.toNat_lt
  have h1 : (0 : Int) ≤ (c.toNat : Int) ∧ (c.toNat : Int) < 256 := by omega
  simp only [List.map_cons, bytesOf, h1, and_self, if_true, bytesOf_map b, Option.map_some]
  simp
end Go.Pv

namespace Go.Pv
open Go.Proofs
set_option linter.unusedVariables false
set_option linter.unusedSimpArgs false
set_option maxRecDepth 100000
set_option maxHeartbeats 1000000
@[reducible] def strs (k : VK) (l : List ByteArray) : PV := .vec k (l.map fun s => .lit (.string s))
def joinL : List ByteArray → ByteArray → List UInt8
 | [], _ => []
 | x :: l, sep => x.data.toList ++ l.flatMap fun y => sep.data.toList ++ y.data.toList
def sizes (l : List ByteArray) : Nat := (l.map ByteArray.size).sum
end Go.Pv

namespace Go.Pv
set_option linter.unusedVariables false
set_option linter.unusedSimpArgs false
def keysL : List ByteArray := [⟨#[98, 114, 101, 97, 107]⟩, ⟨#[99, 97, 115, 101]⟩, ⟨#[99, 104, 97, 114]⟩, ⟨#[99, 111, 110, 115, 116]⟩, ⟨#[99, 111, 110, 116, 105, 110, 117, 101]⟩, ⟨#[100, 101, 102, 97, 117, 108, 116]⟩, ⟨#[100, 111]⟩, ⟨#[101, 108, 115, 101]⟩, ⟨#[101, 110, 117, 109]⟩, ⟨#[101, 120, 116, 101, 114, 110]⟩, ⟨#[102, 111, 114]⟩, ⟨#[103, 111, 116, 111]⟩, ⟨#[105, 102]⟩, ⟨#[105, 110, 116]⟩, ⟨#[108, 111, 110, 103]⟩, ⟨#[114, 101, 116, 117, 114, 110]⟩, ⟨#[115, 104, 111, 114, 116]⟩, ⟨#[115, 105, 103, 110, 101, 100]⟩, ⟨#[115, 105, 122, 101, 111, 102]⟩, ⟨#[115, 116, 97, 116, 105, 99]⟩, ⟨#[115, 116, 114, 117, 99, 116]⟩, ⟨#[115, 119, 105, 116, 99, 104]⟩, ⟨#[116, 121, 112, 101, 100, 101, 102]⟩, ⟨#[117, 110, 105, 111, 110]⟩, ⟨#[117, 110, 115, 105, 103, 110, 101, 100]⟩, ⟨#[118, 111, 105, 100]⟩, ⟨#[118, 111, 108, 97, 116, 105, 108, 101]⟩, ⟨#[119, 104, 105, 108, 101]⟩]
def signsL : List ByteArray := [⟨#[46, 46, 46]⟩, ⟨#[60, 60, 61]⟩, ⟨#[62, 62, 61]⟩, ⟨#[60, 60]⟩, ⟨#[62, 62]⟩, ⟨#[60, 61]⟩, ⟨#[62, 61]⟩, ⟨#[61, 61]⟩, ⟨#[33, 61]⟩, ⟨#[38, 38]⟩, ⟨#[124, 124]⟩, ⟨#[43, 43]⟩, ⟨#[45, 45]⟩, ⟨#[43, 61]⟩, ⟨#[45, 61]⟩, ⟨#[42, 61]⟩, ⟨#[47, 61]⟩, ⟨#[37, 61]⟩, ⟨#[38, 61]⟩, ⟨#[124, 61]⟩, ⟨#[94, 61]⟩, ⟨#[45, 62]⟩, ⟨#[43]⟩, ⟨#[45]⟩, ⟨#[42]⟩, ⟨#[47]⟩, ⟨#[37]⟩, ⟨#[38]⟩, ⟨#[124]⟩, ⟨#[94]⟩, ⟨#[33]⟩, ⟨#[126]⟩, ⟨#[60]⟩, ⟨#[62]⟩, ⟨#[61]⟩, ⟨#[63]⟩, ⟨#[58]⟩, ⟨#[59]⟩, ⟨#[44]⟩, ⟨#[46]⟩, ⟨#[40]⟩, ⟨#[41]⟩, ⟨#[91]⟩, ⟨#[93]⟩, ⟨#[123]⟩, ⟨#[125]⟩, ⟨#[35]⟩]
def hasF : List ByteArray → ByteArray → Int → Int
 | [], _, _ => -1
 | y :: r, x, i => if y = x then i else hasF r x (i + 1)
def hasI (l : List ByteArray) (x : ByteArray) : Int := hasF l x 0
theorem hasF_ge (l : List ByteArray) (x : ByteArray) (i : Int) (hi : 0 ≤ i) : 0 ≤ hasF l x i ↔ (l.any fun k => decide (k = x)) = true := by
 induction l generalizing i with
 | nil => simp [hasF]
 | cons y r ih =>
  by_cases h : y = x
  ·simp [hasF, h, hi]
  ·simp only [hasF, if_neg h, List.any_cons, h, decide_false, Bool.false_or]
   exact ih (i + 1) (by omega)
theorem hasI_ge (l : List ByteArray) (x : ByteArray) : 0 ≤ hasI l x ↔ (l.any fun k => decide (k = x)) = true := hasF_ge l x 0 (by omega)
end Go.Pv

namespace Go.Pv
open Go.Proofs
set_option linter.unusedVariables false
set_option linter.unusedSimpArgs false
set_option maxRecDepth 100000
set_option maxHeartbeats 1000000
theorem has_c (k : VK) (l : List ByteArray) (x : ByteArray) (hl : l.length ≤ 1000000) (s : St) : PCalls Tryz.prog 235 [strs k l, .lit (.string x)] s (fun r s' => s' = s ∧ r = .ret (.lit (.int .i64 (hasI l x)))) := by
 refine PCalls.of Tryz.func235 rfl (by rfl) (by simp [Tryz.ntmps235]) ?_
 refine pwC_sound _ _ _ _ ?_
 simp [Tryz.ntmps235]
 refine PW.loop (fun n e s' => ∃ j : Nat, j + n = l.length ∧ e 0 = strs k l ∧ e 1 = .lit (.string x) ∧ e 5 = .lit (.int .i64 j) ∧ hasF (l.drop j) x j = hasI l x ∧ s' = s) l.length ⟨0, by omega, by simp, by simp, by simp, rfl, rfl⟩ ?_
 rintro n e s' ⟨j, hj, e0, e1, e5, hs, rfl⟩
 refine pwC_sound _ _ _ _ ?_
 by_cases hlt : j < l.length
 ·have hlt' : (j : Int) < l.length := by omega
  have hg : l[j]? = some l[j] := List.getElem?_eq_getElem hlt
  have w1 : IntKind.i64.wrap ((j : Int) + 1) = ((j + 1 : Nat) : Int) := by rw [wrap_i64 (by omega) (by omega)]; omega
  rw [List.drop_eq_getElem_cons hlt, hasF] at hs
  by_cases hc : l[j] = x
  ·rw [if_pos hc] at hs
   simp [e0, e1, e5, hlt, hlt', hg, hc, ← hs]
  ·rw [if_neg hc] at hs
   simp [e0, e1, e5, hlt, hlt', hg, hc, w1]
   exact ⟨n - 1, by omega, j + 1, by omega, by omega, hs⟩
 ·have hlt' : ¬ (j : Int) < l.length := by omega
  rw [List.drop_eq_nil_of_le (by omega)] at hs
  simp [e0, e1, e5, hlt, hlt', ← hs, hasF]
theorem rkeys_c (s : St) : PCalls Tryz.prog 236 [] s (fun r s' => s' = s ∧ r = .ret (strs .tight keysL)) := by
 refine PCalls.of Tryz.func236 rfl (by rfl) (by simp [Tryz.ntmps236]) ?_
 refine pwC_sound _ _ _ _ ?_
 simp [Tryz.ntmps236, keysL]
theorem rsigns_c (s : St) : PCalls Tryz.prog 237 [] s (fun r s' => s' = s ∧ r = .ret (strs .tight signsL)) := by
 refine PCalls.of Tryz.func237 rfl (by rfl) (by simp [Tryz.ntmps237]) ?_
 refine pwC_sound _ _ _ _ ?_
 simp [Tryz.ntmps237, signsL]
theorem rword_c (t : ByteArray) (i : Nat) (ht : t.size ≤ 1000000) (hi : i ≤ t.size) (s : St) : PCalls Tryz.prog 164 [.lit (.string t), .lit (.int .i64 i)] s (fun r s' => s' = s ∧ r = .ret (.tup [.lit (.int .i64 (if (keysL.any fun k => decide (k = t.extract i (wordEnd t i))) = true then 2 else 1)), .lit (.int .i64 (wordEnd t i))])) := by
 refine PCalls.of Tryz.func164 rfl (by rfl) (by simp [Tryz.ntmps164]) ?_
 refine pwC_sound _ _ _ _ ?_
 refine pwC_cut fun K hK => ?_
 simp [Tryz.ntmps164]
 refine hK _ _ ?_
 clear hK K
 refine pwC_cut fun K hK => ?_
 simp
 refine hK _ _ ?_
 clear hK K
 refine pwC_cut fun K hK => ?_
 simp
 have fin : ∀ (e : Env) (j : Nat), e 0 = .lit (.string t) → e 1 = .lit (.int .i64 i) → e 6 = .lit (.int .i64 j) → wordEnd t i = j → K e s := by
  intro e j e0 e1 e6 hs
  refine hK _ _ ?_
  clear hK K
  have h1 : i ≤ j := by rw [← hs]; exact scanW_ge _ _ _
  have h2 : j ≤ t.size := by rw [← hs]; exact scanW_le _ hi
  rw [hs]
  simp
  refine PW.drawn (fun i => match i with | 0 => 1 | 5 => 1 | _ => 0) [0, 1, 2, 3, 4, 5, 6] mixed_ (fun _ _ _ _ h => h) (by kernel_rfl) ?_
  simp [e0, e1, e6]
  refine quiet_of (rkeys_c _) ?_
  simp [e0, e1, e6, h1, h2]
  refine quiet_of (has_c .tight keysL (t.extract i j) (by decide) _) ?_
  have hh := hasI_ge keysL (t.extract i j)
  by_cases hc : 0 ≤ hasI keysL (t.extract i j)
  ·have hh' := hh.1 hc
   simp [hc, e0, e1, e6]
   exact ⟨_, sub_refl, rfl, by simpa using hh'⟩
  ·have hh' : ¬ (keysL.any fun k => decide (k = t.extract i j)) = true := fun h => hc (hh.2 h)
   simp [hc, e0, e1, e6]
   exact ⟨_, sub_refl, rfl, by simpa using hh'⟩
 clear hK
 refine PW.loop (fun n e s' => ∃ j : Nat, j + n = t.size ∧ e 0 = .lit (.string t) ∧ e 1 = .lit (.int .i64 i) ∧ e 6 = .lit (.int .i64 j) ∧ scanW (fun j => isL (bt t j) || isD (bt t j)) t.size j = wordEnd t i ∧ s' = s) (t.size - i) ⟨i, by omega, by simp, by simp, by simp, rfl, rfl⟩ ?_
 rintro n e s' ⟨j, hj, e0, e1, e6, hs, rfl⟩
 refine pwC_sound _ _ _ _ ?_
 by_cases hlt : j < t.size
 ·have hlt' : (j : Int) < t.size := by omega
  have w1 : IntKind.i64.wrap ((j : Int) + 1) = ((j + 1 : Nat) : Int) := by rw [wrap_i64 (by omega) (by omega)]; omega
  simp [e0, e6, hlt, hlt']
  refine (rletter_c _ _).mono ?_
  rintro _ s1 ⟨hs1, rfl⟩
  rw [hs1]
  clear hs1 s1
  by_cases hL : isL (bt t j) = true
  ·rw [scanW_step hlt (by simp [hL])] at hs
   simp [e0, e1, e6, hlt, hlt', hL, w1]
   exact ⟨n - 1, by omega, j + 1, by omega, by omega, hs⟩
  ·simp [e0, e1, e6, hlt, hlt', hL]
   refine (rdigit_c _ _).mono ?_
   rintro _ s1 ⟨hs1, rfl⟩
   rw [hs1]
   clear hs1 s1
   by_cases hD : isD (bt t j) = true
   ·rw [scanW_step hlt (by simp [hD])] at hs
    simp [e0, e1, e6, hlt, hlt', hL, hD, w1]
    exact ⟨n - 1, by omega, j + 1, by omega, by omega, hs⟩
   ·rw [scanW_stop (by simp [hL, hD])] at hs
    simp [e0, e1, e6, hlt, hlt', hL, hD]
    exact fin _ j (by simp [e0]) (by simp [e1]) (by simp [e6]) hs.symm
 ·have hlt' : ¬ (j : Int) < t.size := by omega
  rw [scanW_end (by omega)] at hs
  simp [e0, e1, e6, hlt, hlt']
  exact fin _ j (by simp [e0]) (by simp [e1]) (by simp [e6]) hs.symm
end Go.Pv

namespace Go.Pv
open Go.Proofs
set_option linter.unusedVariables false
set_option linter.unusedSimpArgs false
set_option maxRecDepth 100000
set_option maxHeartbeats 1000000
def signT (t : ByteArray) (i : Nat) (l : List ByteArray) (b : ByteArray) : ByteArray := l.foldl (fun b s => if b.size < s.size ∧ beg t i s = true then s else b) b
theorem signT_size (t : ByteArray) (i : Nat) (l : List ByteArray) (b : ByteArray) : (signT t i l b).size = l.foldl (fun n s => if n < s.size ∧ beg t i s = true then s.size else n) b.size := by
 induction l generalizing b with
 | nil => rfl
 | cons x l ih =>
  simp only [signT, List.foldl_cons] at *
  split
  ·exact ih x
  ·exact ih b
theorem signLen_eq (t : ByteArray) (i : Nat) (l : List ByteArray) : (signT t i l ⟨#[]⟩).size = signLen t i l := signT_size t i l ⟨#[]⟩
theorem rsign_c (t : ByteArray) (i : Nat) (ht : t.size ≤ 1000000) (hi : i ≤ t.size) (s : St) : PCalls Tryz.prog 168 [.lit (.string t), .lit (.int .i64 i)] s (fun r s' => s' = s ∧ r = .ret (.lit (.string (signT t i signsL ⟨#[]⟩)))) := by
 refine PCalls.of Tryz.func168 rfl (by rfl) (by simp [Tryz.ntmps168]) ?_
 refine pwC_sound _ _ _ _ ?_
 simp [Tryz.ntmps168]
 refine (rsigns_c _).mono ?_
 rintro _ s1 ⟨hs1, rfl⟩
 rw [hs1]
 clear hs1 s1
 have hl : ∀ x ∈ signsL, x.size ≤ 3 := by decide
 have hn : signsL.length = 47 := by decide
 generalize signsL = L at *
 simp
 refine PW.loop (fun n e s' => ∃ (j : Nat) (b : ByteArray), j + n = L.length ∧ e 0 = .lit (.string t) ∧ e 1 = .lit (.int .i64 i) ∧ e 5 = .lit (.string b) ∧ e 6 = strs .tight L ∧ e 7 = .lit (.int .i64 j) ∧ signT t i (L.drop j) b = signT t i L ⟨#[]⟩ ∧ s' = s) L.length ⟨0, ⟨#[]⟩, by omega, by simp, by simp, by simp, by simp, by simp, rfl, rfl⟩ ?_
 rintro n e s' ⟨j, b, hj, e0, e1, e5, e6, e7, hs, rfl⟩
 refine pwC_sound _ _ _ _ ?_
 by_cases hlt : j < L.length
 ·have hlt' : (j : Int) < L.length := by omega
  have hg : L[j]? = some L[j] := List.getElem?_eq_getElem hlt
  have w1 : IntKind.i64.wrap ((j : Int) + 1) = ((j + 1 : Nat) : Int) := by rw [wrap_i64 (by omega) (by omega)]; omega
  have hx := hl L[j] (List.getElem_mem hlt)
  rw [List.drop_eq_getElem_cons hlt, signT, List.foldl_cons] at hs
  by_cases hc : b.size < (L[j]).size
  ·have hc' : (b.size : Int) < (L[j]).size := by omega
   simp [e0, e1, e5, e6, e7, hlt, hlt', hg, hc, hc']
   refine (rbegins_c t i L[j] ht (by omega) (by omega) _).mono ?_
   rintro _ s1 ⟨hs1, rfl⟩
   rw [hs1]
   clear hs1 s1
   by_cases hb : beg t i L[j] = true
   ·rw [if_pos ⟨hc, hb⟩] at hs
    simp [e0, e1, e5, e6, e7, hlt, hlt', hg, hc, hc', hb, w1]
    exact ⟨n - 1, by omega, j + 1, by omega, by omega, hs⟩
   ·rw [if_neg (fun h => hb h.2)] at hs
    simp [e0, e1, e5, e6, e7, hlt, hlt', hg, hc, hc', hb, w1]
    exact ⟨n - 1, by omega, j + 1, by omega, by omega, hs⟩
  ·have hc' : ¬ (b.size : Int) < (L[j]).size := by omega
   rw [if_neg (fun h => hc h.1)] at hs
   simp [e0, e1, e5, e6, e7, hlt, hlt', hg, hc, hc', w1]
   exact ⟨n - 1, by omega, j + 1, by omega, by omega, hs⟩
 ·have hlt' : ¬ (j : Int) < L.length := by omega
  rw [List.drop_eq_nil_of_le (by omega)] at hs
  simp only [signT, List.foldl_nil] at hs
  simp [e0, e1, e5, e6, e7, hlt, hlt', hs, signT]
theorem rpiece_c (t : ByteArray) (i : Nat) (ht : t.size ≤ 1000000) (hi : i ≤ t.size) (s : St) : PCalls Tryz.prog 104 [.lit (.string t), .lit (.int .i64 i)] s (fun r s' => s' = s ∧ r = .ret (.lit (.int .i64 (pieceEnd t i)))) := by
 refine PCalls.of Tryz.func104 rfl (by rfl) (by simp [Tryz.ntmps104]) ?_
 refine pwC_sound _ _ _ _ ?_
 simp [Tryz.ntmps104]
 have w1 : IntKind.i64.wrap ((i : Int) + 1) = ((i + 1 : Nat) : Int) := by rw [wrap_i64 (by omega) (by omega)]; omega
 have w2 : IntKind.i64.wrap ((i : Int) + 2) = ((i + 2 : Nat) : Int) := by rw [wrap_i64 (by omega) (by omega)]; omega
 have w3 : IntKind.i64.wrap ((i : Int) + 3) = ((i + 3 : Nat) : Int) := by rw [wrap_i64 (by omega) (by omega)]; omega
 refine (rbyte_c t i ht _).mono ?_
 rintro _ s1 ⟨hs1, rfl⟩
 rw [hs1]
 clear hs1 s1
 by_cases c1 : bt t i = 32
 ·simp [c1, w1, pieceEnd, isB]
 by_cases c2 : bt t i = 9
 ·simp [c2, w1, pieceEnd, isB]
 by_cases c3 : bt t i = 10
 ·simp [c3, w1, pieceEnd, isB]
 by_cases c4 : bt t i = 11
 ·simp [c4, w1, pieceEnd, isB]
 by_cases c5 : bt t i = 12
 ·simp [c5, w1, pieceEnd, isB]
 by_cases c6 : bt t i = 13
 ·simp [c6, w1, pieceEnd, isB]
 have hB : isB (bt t i) = false := by simp [isB, c1, c2, c3, c4, c5, c6]
 have hP : pieceEnd t i = if bt t i = 92 then (if bt t (i + 1) = 10 then i + 2 else if bt t (i + 1) = 13 ∧ bt t (i + 2) = 10 then i + 3 else i) else cmtEnd t i := by simp [pieceEnd, hB]
 rw [hP]
 by_cases c7 : bt t i = 92
 ·simp [c7, w1]
  refine (rbyte_c t (i + 1) ht _).mono ?_
  rintro _ s1 ⟨hs1, rfl⟩
  rw [hs1]
  clear hs1 s1
  by_cases d1 : bt t (i + 1) = 10
  ·simp [c7, w1, w2, d1]
  ·simp [c7, w1, w2, d1]
   refine (rbyte_c t (i + 1) ht _).mono ?_
   rintro _ s1 ⟨hs1, rfl⟩
   rw [hs1]
   clear hs1 s1
   by_cases d2 : bt t (i + 1) = 13
   ·simp [c7, w1, w2, d1, d2]
    refine (rbyte_c t (i + 2) ht _).mono ?_
    rintro _ s1 ⟨hs1, rfl⟩
    rw [hs1]
    clear hs1 s1
    by_cases d3 : bt t (i + 2) = 10
    ·simp [c7, w1, w2, w3, d1, d2, d3]
    ·simp [c7, w1, w2, w3, d1, d2, d3]
   ·simp [c7, w1, w2, d1, d2]
 ·simp [c1, c2, c3, c4, c5, c6, c7]
  refine (rcomment_c t i ht hi _).mono ?_
  rintro _ s1 ⟨hs1, rfl⟩
  rw [hs1]
  clear hs1 s1
  simp [c7]
end Go.Pv

namespace Go.Pv
open Go.Proofs
set_option linter.unusedVariables false
set_option linter.unusedSimpArgs false
set_option maxRecDepth 100000
set_option maxHeartbeats 1000000
theorem signT_nil (t : ByteArray) (i : Nat) (l : List ByteArray) : signT t i l ⟨#[]⟩ = ⟨#[]⟩ ↔ signLen t i l = 0 := by
 rw [← signLen_eq]
 constructor
 ·intro h; rw [h]; rfl
 ·intro h
  generalize signT t i l ⟨#[]⟩ = x at h
  obtain ⟨d⟩ := x
  have : d.size = 0 := h
  rw [Array.eq_empty_of_size_eq_zero this]
theorem signLen_le (t : ByteArray) (i : Nat) (l : List ByteArray) : signLen t i l ≤ t.size := by
 have h : ∀ (l : List ByteArray) (n : Nat), n ≤ t.size → l.foldl (fun n s => if n < s.size ∧ beg t i s = true then s.size else n) n ≤ t.size := by
  intro l
  induction l with
  | nil => intro n h; exact h
  | cons x l ih =>
   intro n h
   simp only [List.foldl_cons]
   apply ih
   split
   ·rename_i h1
    have := h1.2
    simp [beg] at this
    omega
   ·exact h
 exact h l 0 (Nat.zero_le _)
theorem quotF_gt (t : ByteArray) (q : Int) : ∀ (k i e : Nat), quotF t q k i = some e → i < e ∧ e ≤ t.size
 | 0, i, e, h => by simp [quotF] at h
 | k + 1, i, e, h => by
  simp only [quotF] at h
  split at h
  ·split at h
   ·cases h; omega
   ·split at h
    ·cases h
    ·split at h
     ·split at h
      ·cases h
      ·have := quotF_gt t q k (i + 2) e h; omega
     ·have := quotF_gt t q k (i + 1) e h; omega
  ·cases h
theorem quotE_gt {t : ByteArray} {q : Int} {i e : Nat} {v : Option Nat} (hv : quotE t q i = v) (he : v = some e) : i < e ∧ e ≤ t.size := by
 subst he; exact quotF_gt t q _ i e hv
theorem rtoken_c (t : ByteArray) (i : Nat) (c : Bool) (ht : t.size ≤ 1000000) (hi : i < t.size) (s : St) : PCalls Tryz.prog 105 [.lit (.string t), .lit (.int .i64 i), .lit (.bool c)] s (fun r s' => s' = s ∧ r = .ret (.tup [.lit (.int .i64 ((tokE keysL signsL t i c).1 : Nat)), .lit (.int .i64 ((tokE keysL signsL t i c).2 : Nat))])) := by
 refine PCalls.of Tryz.func105 rfl (by rfl) (by simp [Tryz.ntmps105]) ?_
 refine pwC_sound _ _ _ _ ?_
 have w1 : IntKind.i64.wrap ((i : Int) + 1) = ((i + 1 : Nat) : Int) := by rw [wrap_i64 (by omega) (by omega)]; omega
 have hi' : i ≤ t.size := by omega
 by_cases h35 : bt t i = 35
 ·have n1 : isL 35 = false := by decide
  have n2 : isD 35 = false := by decide
  cases c with
  | true =>
   rw [show tokE keysL signsL t i true = (7, lineEnd t i) from by simp [tokE, h35]]
   simp [Tryz.ntmps105, hi, h35]
   refine (rline_c t i ht hi h35 _).mono ?_
   rintro _ s1 ⟨hs1, rfl⟩
   rw [hs1]
   clear hs1 s1
   simp
  | false =>
   simp [Tryz.ntmps105, hi, h35]
   refine (rletter_c _ _).mono ?_
   rintro _ s1 ⟨hs1, rfl⟩
   rw [hs1]
   clear hs1 s1
   simp [n1]
   refine (rdigit_c _ _).mono ?_
   rintro _ s1 ⟨hs1, rfl⟩
   rw [hs1]
   clear hs1 s1
   simp [n2]
   refine (rsign_c t i ht hi' _).mono ?_
   rintro _ s1 ⟨hs1, rfl⟩
   rw [hs1]
   clear hs1 s1
   by_cases hS : signLen t i signsL = 0
   ·have hS' := (signT_nil t i signsL).2 hS
    rw [show tokE keysL signsL t i false = (8, i + 1) from by simp [tokE, hS, h35, n1, n2]]
    simp [hS', w1, h35, n1, n2]
   ·have hS' : ¬ signT t i signsL ⟨#[]⟩ = ⟨#[]⟩ := fun h => hS ((signT_nil t i signsL).1 h)
    have hz := signLen_eq t i signsL
    rw [show tokE keysL signsL t i false = (6, i + signLen t i signsL) from by simp [tokE, hS, h35, n1, n2]]
    have w9 : IntKind.i64.wrap ((i : Int) + (signLen t i signsL : Int)) = ((i + signLen t i signsL : Nat) : Int) := by rw [wrap_i64 (by omega) (by have := signLen_le t i signsL; omega)]; omega
    simp [hS', hz, w9, h35, n1, n2]
 by_cases hL : isL (bt t i) = true
 ·rw [show tokE keysL signsL t i c = (if (keysL.any fun k => decide (k = t.extract i (wordEnd t i))) = true then 2 else 1, wordEnd t i) from by simp [tokE, h35, hL]]
  simp [Tryz.ntmps105, hi, h35]
  refine (rletter_c _ _).mono ?_
  rintro _ s1 ⟨hs1, rfl⟩
  rw [hs1]
  clear hs1 s1
  simp [hL]
  refine (rword_c t i ht hi' _).mono ?_
  rintro _ s1 ⟨hs1, rfl⟩
  rw [hs1]
  clear hs1 s1
  simp
  exact ⟨_, sub_refl, rfl, by split <;> rfl⟩
 simp [Tryz.ntmps105, hi, h35]
 refine (rletter_c _ _).mono ?_
 rintro _ s1 ⟨hs1, rfl⟩
 rw [hs1]
 clear hs1 s1
 simp [hL]
 refine (rdigit_c _ _).mono ?_
 rintro _ s1 ⟨hs1, rfl⟩
 rw [hs1]
 clear hs1 s1
 by_cases hD : isD (bt t i) = true
 ·rw [show tokE keysL signsL t i c = (3, numEnd t i) from by simp [tokE, h35, hL, hD]]
  simp [hD]
  refine (rnumber_c t i ht hi _).mono ?_
  rintro _ s1 ⟨hs1, rfl⟩
  rw [hs1]
  clear hs1 s1
  simp
 by_cases h46 : bt t i = 46
 ·have n1 : isL 46 = false := by decide
  have n2 : isD 46 = false := by decide
  simp [hD, h46, n1, n2, w1]
  refine (rbyte_c t (i + 1) ht _).mono ?_
  rintro _ s1 ⟨hs1, rfl⟩
  rw [hs1]
  clear hs1 s1
  simp [n1, n2]
  refine (rdigit_c _ _).mono ?_
  rintro _ s1 ⟨hs1, rfl⟩
  rw [hs1]
  clear hs1 s1
  by_cases hD1 : isD (bt t (i + 1)) = true
  ·rw [show tokE keysL signsL t i c = (3, numEnd t i) from by simp [tokE, h46, hD1, n1, n2]]
   simp [hD1, n1, n2]
   refine (rnumber_c t i ht hi _).mono ?_
   rintro _ s1 ⟨hs1, rfl⟩
   rw [hs1]
   clear hs1 s1
   simp
  ·simp [hD1, n1, n2, h46]
   refine (rsign_c t i ht hi' _).mono ?_
   rintro _ s1 ⟨hs1, rfl⟩
   rw [hs1]
   clear hs1 s1
   by_cases hS : signLen t i signsL = 0
   ·have hS' := (signT_nil t i signsL).2 hS
    rw [show tokE keysL signsL t i c = (8, i + 1) from by simp [tokE, hS, h46, hD1, n1, n2]]
    simp [hS', w1, h46, hD1, n1, n2]
   ·have hS' : ¬ signT t i signsL ⟨#[]⟩ = ⟨#[]⟩ := fun h => hS ((signT_nil t i signsL).1 h)
    have hz := signLen_eq t i signsL
    rw [show tokE keysL signsL t i c = (6, i + signLen t i signsL) from by simp [tokE, hS, h46, hD1, n1, n2]]
    have w9 : IntKind.i64.wrap ((i : Int) + (signLen t i signsL : Int)) = ((i + signLen t i signsL : Nat) : Int) := by rw [wrap_i64 (by omega) (by have := signLen_le t i signsL; omega)]; omega
    simp [hS', hz, w9, h46, hD1, n1, n2]
 by_cases hq : bt t i = 39 ∨ bt t i = 34
 ·have hqE : tokE keysL signsL t i c = (match quotE t (bt t i) (i + 1) with | none => (8, i + 1) | some e => (if bt t i = 34 then 5 else 4, e)) := by
   simp [tokE, h35, hL, hD, h46, hq]
   all_goals (cases quotE t (bt t i) (i + 1) <;> rfl)
  rw [hqE]
  have key : ∀ v : Option Nat, quotE t (bt t i) (i + 1) = v → (∀ e, v = some e → e ≠ i) := by
   intro v hv e he
   have := quotE_gt hv he
   omega
  rcases hq with q1 | q1
  ·simp [hD, h46, q1]
   refine (rquoted_c t i ht hi (by omega) _).mono ?_
   rintro _ s1 ⟨hs1, rfl⟩
   rw [hs1]
   clear hs1 s1
   rw [q1]
   rw [q1] at key
   cases hQ : quotE t 39 (i + 1) with
   | none => simp [q1, w1]
   | some e =>
    have hne := key _ hQ e rfl
    have hne' : ¬ (e : Int) = i := by omega
    simp [q1, w1, hne, hne']
  ·simp [hD, h46, q1]
   refine (rquoted_c t i ht hi (by omega) _).mono ?_
   rintro _ s1 ⟨hs1, rfl⟩
   rw [hs1]
   clear hs1 s1
   rw [q1]
   rw [q1] at key
   cases hQ : quotE t 34 (i + 1) with
   | none => simp [q1, w1]
   | some e =>
    have hne := key _ hQ e rfl
    have hne' : ¬ (e : Int) = i := by omega
    simp [q1, w1, hne, hne']
 have q1 : ¬ bt t i = 39 := fun h => hq (.inl h)
 have q2 : ¬ bt t i = 34 := fun h => hq (.inr h)
 simp [hD, h46, q1, q2]
 refine (rsign_c t i ht hi' _).mono ?_
 rintro _ s1 ⟨hs1, rfl⟩
 rw [hs1]
 clear hs1 s1
 by_cases hS : signLen t i signsL = 0
 ·have hS' := (signT_nil t i signsL).2 hS
  rw [show tokE keysL signsL t i c = (8, i + 1) from by simp [tokE, hS, h35, hL, hD, h46, q1, q2]]
  simp [hS', w1, h35, hL, hD, h46, q1, q2]
 ·have hS' : ¬ signT t i signsL ⟨#[]⟩ = ⟨#[]⟩ := fun h => hS ((signT_nil t i signsL).1 h)
  have hz := signLen_eq t i signsL
  rw [show tokE keysL signsL t i c = (6, i + signLen t i signsL) from by simp [tokE, hS, h35, hL, hD, h46, q1, q2]]
  have w9 : IntKind.i64.wrap ((i : Int) + (signLen t i signsL : Int)) = ((i + signLen t i signsL : Nat) : Int) := by rw [wrap_i64 (by omega) (by have := signLen_le t i signsL; omega)]; omega
  simp [hS', hz, w9, h35, hL, hD, h46, q1, q2]
end Go.Pv

namespace Go.Pv
set_option linter.unusedVariables false
set_option linter.unusedSimpArgs false
theorem scanF_bar (p : Nat → Bool) : ∀ k i, scanF p k i < i + k → p (scanF p k i) = false
 | 0, i, h => by simp [scanF] at h
 | k + 1, i, h => by
  rw [scanF] at h ⊢
  split
  ·rename_i hp
   rw [if_pos hp] at h
   exact scanF_bar p k (i + 1) (by omega)
  ·rename_i hp
   simpa using hp
theorem scanW_bar {p : Nat → Bool} {n i : Nat} (h : scanW p n i < n) : p (scanW p n i) = false := by
 have hge := scanW_ge p n i
 unfold scanW at *
 exact scanF_bar p (n - i) i (by omega)
theorem beg_le {t : ByteArray} {i : Nat} {x : ByteArray} (h : beg t i x = true) : i + x.size ≤ t.size := by
 simp [beg] at h; exact h.1
theorem cmtEnd_le {t : ByteArray} {i : Nat} (hi : i ≤ t.size) : cmtEnd t i ≤ t.size := by
 unfold cmtEnd
 split
 ·exact scanW_le _ hi
 ·split
  ·rename_i h
   simp only
   split
   ·rename_i hj
    have := scanW_bar hj
    simp at this
    have := beg_le this
    exact this
   ·exact Nat.le_refl _
  ·exact hi
theorem cmtEnd_ge {t : ByteArray} {i : Nat} (hi : i ≤ t.size) : i ≤ cmtEnd t i := by
 unfold cmtEnd
 split
 ·exact scanW_ge _ _ _
 ·split
  ·simp only
   split
   ·have := scanW_ge (fun j => !beg t j ⟨#[42, 47]⟩) t.size (i + 2); omega
   ·exact hi
  ·exact Nat.le_refl _
theorem pieceEnd_le {t : ByteArray} {i : Nat} (hi : i ≤ t.size) : i ≤ pieceEnd t i ∧ pieceEnd t i ≤ t.size := by
 unfold pieceEnd
 split
 ·rename_i h
  have : bt t i ≠ 0 := by intro h0; rw [h0] at h; revert h; decide
  have := bt_lt this
  omega
 ·split
  ·rename_i h
   split
   ·rename_i h1
    have := bt_lt (t := t) (i := i + 1) (by omega)
    omega
   ·split
    ·rename_i h1
     have := bt_lt (t := t) (i := i + 2) (by omega)
     omega
    ·omega
  ·exact ⟨cmtEnd_ge hi, cmtEnd_le hi⟩
theorem lineEnd_gt {t : ByteArray} {i : Nat} (hi : i < t.size) (h : bt t i ≠ 10) : i < lineEnd t i ∧ lineEnd t i ≤ t.size := by
 have h1 : scanW (linP t i) t.size i = scanW (linP t i) t.size (i + 1) := scanW_step hi (by simp [linP, h])
 have h2 := scanW_ge (linP t i) t.size (i + 1)
 have h3 := scanW_le (linP t i) (n := t.size) (i := i) (by omega)
 unfold lineEnd
 simp only
 split <;> omega
theorem signLen_in {t : ByteArray} {i : Nat} (hi : i ≤ t.size) (l : List ByteArray) : i + signLen t i l ≤ t.size := by
 have h : ∀ (l : List ByteArray) (n : Nat), i + n ≤ t.size → i + l.foldl (fun n s => if n < s.size ∧ beg t i s = true then s.size else n) n ≤ t.size := by
  intro l
  induction l with
  | nil => intro n h; exact h
  | cons x l ih =>
   intro n h
   simp only [List.foldl_cons]
   apply ih
   split
   ·rename_i h1
    exact beg_le h1.2
   ·exact h
 exact h l 0 hi
theorem quotF_in (t : ByteArray) (q : Int) : ∀ (k i e : Nat), quotF t q k i = some e → i < e ∧ e ≤ t.size
 | 0, i, e, h => by simp [quotF] at h
 | k + 1, i, e, h => by
  simp only [quotF] at h
  split at h
  ·split at h
   ·cases h; omega
   ·split at h
    ·cases h
    ·split at h
     ·split at h
      ·cases h
      ·have := quotF_in t q k (i + 2) e h; omega
     ·have := quotF_in t q k (i + 1) e h; omega
  ·cases h
theorem tokE_in (keys signs : List ByteArray) {t : ByteArray} {i : Nat} (c : Bool) (hi : i < t.size) : i < (tokE keys signs t i c).2 ∧ (tokE keys signs t i c).2 ≤ t.size := by
 unfold tokE
 split
 ·rename_i h
  exact lineEnd_gt hi (by omega)
 ·split
  ·rename_i h
   have h1 : wordEnd t i = scanW (fun j => isL (bt t j) || isD (bt t j)) t.size (i + 1) := scanW_step hi (by simp [h])
   have h2 := scanW_ge (fun j => isL (bt t j) || isD (bt t j)) t.size (i + 1)
   have h3 := scanW_le (fun j => isL (bt t j) || isD (bt t j)) (n := t.size) (i := i + 1) (by omega)
   simp only
   omega
  ·split
   ·have h2 := scanW_ge (numP t) t.size (i + 1)
    have h3 := scanW_le (numP t) (n := t.size) (i := i + 1) (by omega)
    simp only [numEnd]
    omega
   ·split
    ·split
     ·simp only; omega
     ·rename_i e he
      have := quotF_in t _ _ _ _ he
      simp only; omega
    ·split
     ·rename_i h
      have := signLen_in (t := t) (i := i) (by omega) signs
      simp only; omega
     ·simp only; omega
theorem befF_fuel (t : ByteArray) : ∀ (k k' i : Nat) (c : Bool), i ≤ t.size → t.size - i ≤ k → t.size - i ≤ k' → befF t k i c = befF t k' i c
 | 0, 0, i, c, _, h, h' => rfl
 | 0, k' + 1, i, c, hi, h, h' => by
  have := pieceEnd_le hi
  simp only [befF]; rw [if_neg (by omega)]
 | k + 1, 0, i, c, hi, h, h' => by
  have := pieceEnd_le hi
  simp only [befF]; rw [if_neg (by omega)]
 | k + 1, k' + 1, i, c, hi, h, h' => by
  have := pieceEnd_le hi
  simp only [befF]
  split
  ·exact befF_fuel t k k' _ _ (by omega) (by omega) (by omega)
  ·rfl
theorem bef_step {t : ByteArray} {i : Nat} {c : Bool} (hi : i ≤ t.size) (h : i < pieceEnd t i) : bef t i c = bef t (pieceEnd t i) (clearB t i (pieceEnd t i) c) := by
 have := pieceEnd_le hi
 unfold bef
 obtain ⟨k, hk⟩ : ∃ k, t.size - i = k + 1 := ⟨t.size - i - 1, by omega⟩
 rw [hk]
 simp only [befF]
 rw [if_pos h]
 exact befF_fuel t _ _ _ _ (by omega) (by omega) (by omega)
theorem bef_stop {t : ByteArray} {i : Nat} {c : Bool} (h : ¬ i < pieceEnd t i) : bef t i c = (i, c) := by
 unfold bef
 cases t.size - i with
 | zero => rfl
 | succ k => simp only [befF]; rw [if_neg h]
def restF (keys signs : List ByteArray) (t : ByteArray) (k st i : Nat) (c : Bool) : List Tk :=
 if (bef t i c).1 = t.size then [⟨0, t.extract st (bef t i c).1, ⟨#[]⟩, (bef t i c).1⟩]
 else ⟨(tokE keys signs t (bef t i c).1 (bef t i c).2).1, t.extract st (bef t i c).1, t.extract (bef t i c).1 (tokE keys signs t (bef t i c).1 (bef t i c).2).2, (bef t i c).1⟩ :: toksF keys signs t k (tokE keys signs t (bef t i c).1 (bef t i c).2).2 false
theorem toksF_succ (keys signs : List ByteArray) (t : ByteArray) (k i : Nat) (c : Bool) : toksF keys signs t (k + 1) i c = restF keys signs t k i i c := rfl
def allT (t : ByteArray) : List Tk := toksF keysL signsL t (t.size + 1) 0 true
end Go.Pv

namespace Go.Pv
open Go.Proofs
set_option linter.unusedVariables false
set_option linter.unusedSimpArgs false
set_option maxRecDepth 100000
set_option maxHeartbeats 1000000
theorem rall_c (t : ByteArray) (ht : t.size ≤ 1000000) (s : St) : PCalls Tryz.prog 61 [.lit (.string t)] s (fun r s' => s' = s ∧ r = .ret (toks .any (allT t))) := by
 refine PCalls.conv (R := fun r s' => ∃ v, r = .ret v ∧ OwnL 32 4 s ((allT t).map encTC) v s') ?_ ?_ ?_
 ·refine PCalls.of Tryz.func61 rfl (by rfl) (by simp [Tryz.ntmps61]) ?_
  refine pwC_sound _ _ _ _ ?_
  simp [Tryz.ntmps61]
  refine PW.loop (fun n e s' => ∃ (a st k : Nat) (c : Bool) (acc : List Tk), a + n = t.size ∧ st ≤ a ∧ t.size - a ≤ k ∧ acc.length ≤ a ∧ e 0 = .lit (.string t) ∧ e 4 = .lit (.int .i64 st) ∧ e 5 = .lit (.int .i64 a) ∧ e 6 = .lit (.bool c) ∧ acc ++ restF keysL signsL t k st a c = allT t ∧ OwnL 32 4 s (acc.map encTC) (e 3) s') t.size ⟨0, 0, t.size, true, [], by omega, by omega, by omega, by simp, by simp, by simp, by simp, by simp, by simp [allT, toksF_succ], by simpa using OwnL.nil _ _ _⟩ ?_
  rintro n e s' ⟨a, st, k, c, acc, hn, hst, hk, hacc, e0, e4, e5, e6, hall, hB⟩
  refine pwC_sound _ _ _ _ ?_
  refine pwC_cut fun K hK => ?_
  have hpe := pieceEnd_le (t := t) (i := a) (by omega)
  simp [e0, e4, e5, e6]
  refine (rpiece_c t a ht (by omega) _).mono ?_
  rintro _ s1 ⟨hs1, rfl⟩
  rw [hs1]
  clear hs1 s1
  simp [e0, e4, e5, e6]
  refine hK _ _ ?_
  clear hK K
  generalize hE : Env.put _ _ _ = E
  have g0 : E 0 = .lit (.string t) := by rw [← hE]; simp [e0]
  have g4 : E 4 = .lit (.int .i64 st) := by rw [← hE]; simp [e4]
  have g5 : E 5 = .lit (.int .i64 a) := by rw [← hE]; simp [e5]
  have g6 : E 6 = .lit (.bool c) := by rw [← hE]; simp [e6]
  have g7 : E 7 = .lit (.int .i64 (pieceEnd t a : Nat)) := by rw [← hE]; simp
  have g3 : E 3 = e 3 := by rw [← hE]; simp
  clear hE e0 e4 e5 e6
  generalize e 3 = v at *
  clear e
  refine pwC_cut fun K hK => ?_
  by_cases hp : a < pieceEnd t a
  ·have hp' : (a : Int) < (pieceEnd t a : Nat) := by omega
   have hb := bef_step (c := c) (i := a) (t := t) (by omega) hp
   have hrest : restF keysL signsL t k st a c = restF keysL signsL t k st (pieceEnd t a) (clearB t a (pieceEnd t a) c) := by unfold restF; rw [hb]
   rw [hrest] at hall
   clear hK
   have hcl : clearB t a (pieceEnd t a) c = (if pieceEnd t a = a + 1 ∧ 11 ≤ bt t a ∧ bt t a ≤ 13 then false else (c || hasNL t a (pieceEnd t a))) := by
    unfold clearB
    split
    ·rfl
    ·cases hasNL t a (pieceEnd t a) <;> simp
   generalize clearB t a (pieceEnd t a) c = c' at *
   generalize pieceEnd t a = pe at *
   simp [g0, g3, g4, g5, g6, g7, hp, hp']
   refine PW.loop (fun n1 e1 s1 => ∃ (j : Nat) (d : Bool), j + n1 = pe ∧ a ≤ j ∧ e1 0 = .lit (.string t) ∧ e1 3 = v ∧ e1 4 = .lit (.int .i64 st) ∧ e1 5 = .lit (.int .i64 a) ∧ e1 7 = .lit (.int .i64 (pe : Nat)) ∧ e1 8 = .lit (.int .i64 j) ∧ e1 6 = .lit (.bool d) ∧ (d || hasNL t j pe) = (c || hasNL t a pe) ∧ s1 = s') (pe - a) ⟨a, c, by omega, by omega, by simp [g0], by simp [g3], by simp [g4], by simp [g5], by simp [g7], by simp, by simp [g6], rfl, rfl⟩ ?_
   rintro n1 e1 s1 ⟨j, d, hj, haj, f0, f3, f4, f5, f7, f8, f6, hd, hs1⟩
   rw [hs1]
   clear hs1 s1
   refine pwC_sound _ _ _ _ ?_
   by_cases hlt : j < pe
   ·have hlt' : (j : Int) < (pe : Nat) := by omega
    have hjt : j < t.size := by omega
    have w1 : IntKind.i64.wrap ((j : Int) + 1) = ((j + 1 : Nat) : Int) := by rw [wrap_i64 (by omega) (by omega)]; omega
    by_cases hc : bt t j = 10
    ·have hnl : hasNL t j pe = true := by unfold hasNL; rw [scanW_stop (by simp [hc])]; simpa using hlt
     rw [hnl, Bool.or_true] at hd
     simp [f0, f3, f4, f5, f6, f7, f8, hlt, hlt', hjt, hc, w1]
     exact ⟨n1 - 1, by omega, j + 1, by omega, by omega, by omega, by simpa using hd.symm⟩
    ·have hnl : hasNL t j pe = hasNL t (j + 1) pe := by unfold hasNL; rw [scanW_step hlt (by simp [hc])]
     rw [hnl] at hd
     simp [f0, f3, f4, f5, f6, f7, f8, hlt, hlt', hjt, hc, w1]
     exact ⟨n1 - 1, by omega, j + 1, by omega, by omega, by omega, hd⟩
   ·have hlt' : ¬ (j : Int) < (pe : Nat) := by omega
    have hnl : hasNL t j pe = false := by unfold hasNL; rw [scanW_end (by omega)]; simpa using hlt
    rw [hnl, Bool.or_false] at hd
    rw [← hd] at hcl
    have hat : a < t.size := by omega
    have w1 : IntKind.i64.wrap ((a : Int) + 1) = ((a + 1 : Nat) : Int) := by rw [wrap_i64 (by omega) (by omega)]; omega
    have hex : c' = d ∨ True := .inr trivial
    by_cases q1 : pe = a + 1
    ·subst q1
     have hlt2 : ¬ (j : Int) < (a : Int) + 1 := by omega
     by_cases q2 : 11 ≤ bt t a
     ·by_cases q3 : bt t a ≤ 13
      ·rw [if_pos ⟨rfl, q2, q3⟩] at hcl
       rw [hcl] at hall
       simp [f0, f3, f4, f5, f6, f7, f8, hlt, hlt2, w1, q2, q3, hat]
       exact ⟨n - 1, by omega, a + 1, by omega, st, by omega, k, by omega, acc, by omega, rfl, by omega, hall, hB⟩
      ·rw [if_neg (fun h => q3 h.2.2)] at hcl
       rw [hcl] at hall
       simp [f0, f3, f4, f5, f6, f7, f8, hlt, hlt2, w1, q2, q3, hat]
       cases d with
       | false => exact ⟨n - 1, by omega, a + 1, by omega, st, by omega, k, by omega, .inl ⟨acc, by omega, rfl, by omega, rfl, hall, hB⟩⟩
       | true => exact ⟨n - 1, by omega, a + 1, by omega, st, by omega, k, by omega, .inr ⟨acc, by omega, rfl, by omega, rfl, hall, hB⟩⟩
     ·rw [if_neg (fun h => q2 h.2.1)] at hcl
      rw [hcl] at hall
      simp [f0, f3, f4, f5, f6, f7, f8, hlt, hlt2, w1, q2, hat]
      cases d with
      | false => exact ⟨n - 1, by omega, a + 1, by omega, st, by omega, k, by omega, .inl ⟨acc, by omega, rfl, by omega, rfl, hall, hB⟩⟩
      | true => exact ⟨n - 1, by omega, a + 1, by omega, st, by omega, k, by omega, .inr ⟨acc, by omega, rfl, by omega, rfl, hall, hB⟩⟩
    ·have q1' : ¬ (pe : Int) = (a : Int) + 1 := by omega
     rw [if_neg (fun h => q1 h.1)] at hcl
     rw [hcl] at hall
     simp [f0, f3, f4, f5, f6, f7, f8, hlt, hlt', w1, q1, q1', hat]
     cases d with
     | false => exact ⟨n - (pe - a), by omega, pe, by omega, st, by omega, k, by omega, .inl ⟨acc, by omega, rfl, rfl, rfl, hall, hB⟩⟩
     | true => exact ⟨n - (pe - a), by omega, pe, by omega, st, by omega, k, by omega, .inr ⟨acc, by omega, rfl, rfl, rfl, hall, hB⟩⟩
  ·have hpe2 : pieceEnd t a = a := by omega
   have hp' : ¬ (a : Int) < (pieceEnd t a : Nat) := by omega
   have hb := bef_stop (c := c) hp
   simp [g0, g3, g4, g5, g6, g7, hp, hp']
   refine hK _ _ ?_
   clear hK K
   generalize hE : Env.put _ _ _ = E'
   have f0 : E' 0 = .lit (.string t) := by rw [← hE]; simp [g0]
   have f3 : E' 3 = v := by rw [← hE]; simp [g3]
   have f4 : E' 4 = .lit (.int .i64 st) := by rw [← hE]; simp [g4]
   have f5 : E' 5 = .lit (.int .i64 a) := by rw [← hE]; simp [g5]
   have f6 : E' 6 = .lit (.bool c) := by rw [← hE]; simp [g6]
   clear hE g0 g3 g4 g5 g6 g7 E
   unfold restF at hall
   rw [hb] at hall
   simp only at hall
   refine pwC_cut fun K hK => ?_
   by_cases hae : a = t.size
   ·rw [if_pos hae] at hall
    have hae' : (a : Int) = (t.size : Nat) := by omega
    have hst' : st ≤ t.size := by omega
    clear hK
    simp [f0, f3, f4, f5, hae, hae', hst']
    rw [hae] at hall
    refine appOwn (b := 48) (z := .agg #[.int .i64 0, .string ⟨#[]⟩, .string ⟨#[]⟩, .int .i64 0]) (ys := [encTC ⟨0, t.extract st t.size, ⟨#[]⟩, t.size⟩]) hB (by simp) (by simp) (by simp) (by simp) rfl (by omega) (by simp) (fun s => by simp [elemsOf]) (by simp; omega) (fun v1 s1 hB1 => ⟨_, sub_refl, ?_⟩)
    rw [← hall]
    simpa using hB1
   ·rw [if_neg hae] at hall
    have hae' : ¬ (a : Int) = (t.size : Nat) := by omega
    simp [f0, f3, f4, f5, hae, hae']
    refine hK _ _ ?_
    clear hK K
    have hat : a < t.size := by omega
    have hin := tokE_in keysL signsL c hat
    refine pwC_cut fun K hK => ?_
    simp [f0, f3, f4, f5, f6]
    refine (rtoken_c t a c ht hat _).mono ?_
    rintro _ s1 ⟨hs1, rfl⟩
    rw [hs1]
    clear hs1 s1
    generalize hkd : (tokE keysL signsL t a c).1 = kd at *
    generalize hen : (tokE keysL signsL t a c).2 = en at *
    simp [f0, f3, f4, f5, f6]
    refine hK _ _ ?_
    clear hK K
    generalize hE : Env.put _ _ _ = E
    have g0 : E 0 = .lit (.string t) := by rw [← hE]; simp [f0]
    have g3 : E 3 = v := by rw [← hE]; simp [f3]
    have g4 : E 4 = .lit (.int .i64 st) := by rw [← hE]; simp [f4]
    have g5 : E 5 = .lit (.int .i64 a) := by rw [← hE]; simp [f5]
    have g9 : E 9 = .lit (.int .i64 (kd : Nat)) := by rw [← hE]; simp
    have g10 : E 10 = .lit (.int .i64 (en : Nat)) := by rw [← hE]; simp
    clear hE f0 f3 f4 f5 f6 E'
    obtain ⟨k', rfl⟩ : ∃ k', k = k' + 1 := ⟨k - 1, by omega⟩
    refine pwC_cut fun K hK => ?_
    refine PW.drawn (fun i => 0) [0, 1, 2, 3, 4, 5, 6, 7, 8, 9, 10, 11, 12, 13, 14] mixed_ (fun _ _ _ _ h => h) (by kernel_rfl) ?_
    have ha2 : a ≤ t.size := by omega
    have hen1 : a ≤ en := by omega
    have hen2 : en ≤ t.size := by omega
    simp [g0, g3, g4, g5, g9, g10, hst, ha2, hen1, hen2]
    refine appOwn (b := 48) (z := .agg #[.int .i64 0, .string ⟨#[]⟩, .string ⟨#[]⟩, .int .i64 0]) (ys := [encTC ⟨kd, t.extract st a, t.extract a en, a⟩]) hB (by simp) (by simp) (by simp) (by simp) rfl (by omega) (by simp) (fun s => by simp [elemsOf]) (by simp; omega) (fun v1 s1 hB1 => ?_)
    refine hK _ _ ?_
    clear hK K
    simp [g0, g3, g4, g5, g9, g10]
    rw [toksF_succ] at hall
    exact ⟨n - (en - a), by omega, en, by omega, en, by omega, k', by omega, acc ++ [⟨kd, t.extract st a, t.extract a en, a⟩], by simp; omega, rfl, rfl, by simpa using hall, by simpa using hB1⟩
 ·rintro p s' ⟨v, hv, hO⟩
  cases hv
  exact ⟨_, _, Conv.own (xs := (allT t).map encT) hO (by simp) [], rfl, rfl⟩
 ·rintro c s' ⟨v, hv, _⟩
  cases hv
theorem rscan_c (t : ByteArray) (ht : t.size ≤ 1000000000) (s : St) : PCalls Tryz.prog 26 [.lit (.string t)] s (fun r s' => s' = s ∧ r = .ret (if 200000 < t.size ∨ 40000 < (allT t).length then .tup [.vec .nil [], .lit (.int .i64 2)] else .tup [toks .any (allT t), .lit (.int .i64 0)])) := by
 refine PCalls.of Tryz.func26 rfl (by rfl) (by simp [Tryz.ntmps26]) ?_
 refine pwC_sound _ _ _ _ ?_
 by_cases h1 : 200000 < t.size
 ·have h1' : (200000 : Int) < t.size := by omega
  simp [Tryz.ntmps26, h1, h1']
 ·have h1' : ¬ (200000 : Int) < t.size := by omega
  simp [Tryz.ntmps26, h1, h1']
  refine (rall_c t (by omega) _).mono ?_
  rintro _ s1 ⟨hs1, rfl⟩
  rw [hs1]
  clear hs1 s1
  by_cases h2 : 40000 < (allT t).length
  ·have h2' : (40000 : Int) < (allT t).length := by omega
   simp [h2, h2']
  ·have h2' : ¬ (40000 : Int) < (allT t).length := by omega
   simp [h2, h2']
   exact ⟨_, sub_refl, rfl, by omega⟩
end Go.Pv

namespace Go.Pv
open Go.Proofs
set_option linter.unusedVariables false
set_option linter.unusedSimpArgs false
set_option maxRecDepth 100000
set_option maxHeartbeats 1000000
@[reducible] def scC (t : ByteArray) (a : Nat) (M S : PV) (c : Bool) : List PV := [.lit (.string t), .lit (.int .i64 a), M, S, .lit (.bool c)]
@[reducible] def scB (t : ByteArray) (a : Nat) (M S : PV) (c : Bool) : Blk := .row 116 5 [scC t a M S c]
theorem pletter_c (c : Int) (s : St) : PCalls Tryz.prog 177 [.lit (.int .u8 c)] s (fun r s' => s' = s ∧ r = .ret (.lit (.bool (isL c)))) := by
 refine PCalls.of Tryz.func177 rfl (by rfl) (by simp [Tryz.ntmps177]) ?_
 refine pwC_sound _ _ _ _ ?_
 by_cases h1 : 97 ≤ c <;> by_cases h2 : c ≤ 122 <;> by_cases h3 : 65 ≤ c <;> by_cases h4 : c ≤ 90 <;>
  simp [Tryz.ntmps177, isL, h1, h2, h3, h4]
theorem pdigit_c (c : Int) (s : St) : PCalls Tryz.prog 178 [.lit (.int .u8 c)] s (fun r s' => s' = s ∧ r = .ret (.lit (.bool (isD c)))) := by
 refine PCalls.of Tryz.func178 rfl (by rfl) (by simp [Tryz.ntmps178]) ?_
 refine pwC_sound _ _ _ _ ?_
 by_cases h1 : 48 ≤ c <;> simp [Tryz.ntmps178, isD, h1]
section
variable {t : ByteArray} {a : Nat} {M S : PV} {c : Bool} {s : St} {p : Nat}
theorem next_c (hb : s p = some (scB t a M S c)) (n : Nat) (ht : t.size ≤ 1000000) (ha : a ≤ t.size) (hn : n ≤ 2000000) : PCalls Tryz.prog 171 [.pt p 0 0, .lit (.int .i64 n)] s (fun r s' => s' = s ∧ r = .ret (.lit (.int .u8 (bt t (a + n))))) := by
 refine PCalls.of Tryz.func171 rfl (by rfl) (by simp [Tryz.ntmps171]) ?_
 refine pwC_sound _ _ _ _ ?_
 have w1 : IntKind.i64.wrap ((a : Int) + (n : Int)) = (a : Int) + (n : Int) := wrap_i64 (by omega) (by omega)
 have w2 : ((a : Int) + (n : Int)).toNat = a + n := by omega
 have w3 : (0 : Int) ≤ (a : Int) + (n : Int) := by omega
 simp [Tryz.ntmps171]
 refine PW.drawn (fun i => 0) [0, 1, 2, 3, 4, 5, 6, 7, 8, 9, 10, 11] mixed_ (fun _ _ _ _ h => h) (by kernel_rfl) ?_
 by_cases h1 : t.size ≤ a + n
 ·have h1' : (t.size : Int) ≤ (a : Int) + (n : Int) := by omega
  simp [hb, w1, h1, h1', bt_none h1]
 ·have h1' : ¬ (t.size : Int) ≤ (a : Int) + (n : Int) := by omega
  have h2 : a + n < t.size := by omega
  simp [hb, w1, h1, h1']
  refine PW.drawn (fun i => 0) [0, 1, 2, 3, 4, 5, 6, 7, 8, 9, 10, 11] mixed_ (fun _ _ _ _ h => h) (by kernel_rfl) ?_
  simp [hb, w1, w2, w3, h1, h1', h2]
theorem rest_c (hb : s p = some (scB t a M S c)) (ht : t.size ≤ 1000000) (ha : a ≤ t.size) : PCalls Tryz.prog 173 [.pt p 0 0] s (fun r s' => s' = s ∧ r = .ret (.lit (.string (t.extract a t.size)))) := by
 refine PCalls.of Tryz.func173 rfl (by rfl) (by simp [Tryz.ntmps173]) ?_
 refine pwC_sound _ _ _ _ ?_
 simp [Tryz.ntmps173]
 refine PW.drawn (fun i => 0) [0, 1, 2, 3, 4, 5, 6, 7, 8, 9] mixed_ (fun _ _ _ _ h => h) (by kernel_rfl) ?_
 simp [hb, ha]
theorem lname_c (hb : s p = some (scB t a M S c)) (ht : t.size ≤ 1000000) (ha : a < t.size) : PCalls Tryz.prog 111 [.pt p 0 0] s (fun r s' => s' = s ∧ r = .ret (.lit (.int .i64 (if isL (bt t a) then wordEnd t a - a else 0 : Nat)))) := by
 refine PCalls.of Tryz.func111 rfl (by rfl) (by simp [Tryz.ntmps111]) ?_
 refine pwC_sound _ _ _ _ ?_
 simp [Tryz.ntmps111]
 refine (next_c hb 0 ht (by omega) (by omega)).mono ?_
 rintro _ s1 ⟨hs1, rfl⟩
 rw [hs1]
 clear hs1 s1
 simp
 refine (pletter_c _ _).mono ?_
 rintro _ s1 ⟨hs1, rfl⟩
 rw [hs1]
 clear hs1 s1
 by_cases hL : isL (bt t a) = true
 ·simp [hL]
  refine PW.loop (fun n e s' => ∃ j : Nat, a + j + n = t.size ∧ e 0 = .pt p 0 0 ∧ e 3 = .lit (.int .i64 j) ∧ scanW (fun j => isL (bt t j) || isD (bt t j)) t.size (a + j) = wordEnd t a ∧ s' = s) (t.size - a) ⟨0, by omega, by simp, by simp, rfl, rfl⟩ ?_
  rintro n e s' ⟨j, hj, e0, e3, hs, rfl⟩
  refine pwC_sound _ _ _ _ ?_
  have w1 : IntKind.i64.wrap ((j : Int) + 1) = ((j + 1 : Nat) : Int) := by rw [wrap_i64 (by omega) (by omega)]; omega
  simp [e0, e3]
  refine (next_c hb j ht (by omega) (by omega)).mono ?_
  rintro _ s1 ⟨hs1, rfl⟩
  rw [hs1]
  clear hs1 s1
  simp [e0, e3]
  refine (pletter_c _ _).mono ?_
  rintro _ s1 ⟨hs1, rfl⟩
  rw [hs1]
  clear hs1 s1
  by_cases hl : isL (bt t (a + j)) = true
  ·have hlt : a + j < t.size := bt_lt (by intro h; rw [h] at hl; revert hl; decide)
   rw [scanW_step hlt (by simp [hl])] at hs
   simp [e0, e3, hl, w1]
   exact ⟨n - 1, by omega, j + 1, by omega, by omega, by rw [← hs]; rfl⟩
  ·simp [e0, e3, hl]
   refine (next_c hb j ht (by omega) (by omega)).mono ?_
   rintro _ s1 ⟨hs1, rfl⟩
   rw [hs1]
   clear hs1 s1
   simp [e0, e3, hl]
   refine (pdigit_c _ _).mono ?_
   rintro _ s1 ⟨hs1, rfl⟩
   rw [hs1]
   clear hs1 s1
   by_cases hd : isD (bt t (a + j)) = true
   ·have hlt : a + j < t.size := bt_lt (by intro h; rw [h] at hd; revert hd; decide)
    rw [scanW_step hlt (by simp [hd])] at hs
    simp [e0, e3, hl, hd, w1]
    exact ⟨n - 1, by omega, j + 1, by omega, by omega, by rw [← hs]; rfl⟩
   ·rw [scanW_stop (by simp [hl, hd])] at hs
    simp [e0, e3, hl, hd, hL, ← hs]
 ·simp [hL]
end
end Go.Pv

namespace Go.Pv
open Go.Proofs
set_option linter.unusedVariables false
set_option linter.unusedSimpArgs false
set_option maxRecDepth 100000
set_option maxHeartbeats 400000
def prefB (u x : ByteArray) : Bool := decide (x.size ≤ u.size) && decide (u.extract 0 x.size = x)
theorem prefix0_c (u x : ByteArray) (s : St) : PCalls Tryz.prog 142 [.lit (.string u), .lit (.string x)] s (fun r s' => s' = s ∧ r = .ret (.lit (.bool (prefB u x)))) := by
 refine PCalls.of Tryz.func142 rfl (by rfl) (by simp [Tryz.ntmps142]) ?_
 refine pwC_sound _ _ _ _ ?_
 by_cases h1 : x.size ≤ u.size
 ·have h2 : (x.size : Int) ≤ u.size := by omega
  simp [Tryz.ntmps142, prefB, h1, h2]
 ·have h2 : ¬ (x.size : Int) ≤ u.size := by omega
  simp [Tryz.ntmps142, prefB, h1, h2]
theorem prefix_c (u x : ByteArray) (s : St) : PCalls Tryz.prog 93 [.lit (.string u), .lit (.string x)] s (fun r s' => s' = s ∧ r = .ret (.lit (.bool (prefB u x)))) := by
 refine PCalls.of Tryz.func93 rfl (by rfl) (by simp [Tryz.ntmps93]) ?_
 refine pwC_sound _ _ _ _ ?_
 simp [Tryz.ntmps93]
 refine (prefix0_c u x _).mono ?_
 rintro _ s1 ⟨hs1, rfl⟩
 rw [hs1]
 simp
theorem prefB_rest (t : ByteArray) (a : Nat) (x : ByteArray) (ha : a ≤ t.size) : prefB (t.extract a t.size) x = beg t a x := by
 have hs : (t.extract a t.size).size = t.size - a := by simp
 unfold prefB beg
 rw [hs]
 by_cases h : x.size ≤ t.size - a
 ·have h' : a + x.size ≤ t.size := by omega
  have he : (t.extract a t.size).extract 0 x.size = t.extract a (a + x.size) := by
   rw [ByteArray.extract_extract]
   congr 1
   omega
  simp only [h, h', he, decide_true, Bool.true_and]
 ·have h' : ¬ a + x.size ≤ t.size := by omega
  simp only [h, h', decide_false, Bool.false_and]
section
variable {t : ByteArray} {a : Nat} {M : PV} {c : Bool} {s : St} {p : Nat}
theorem lsign_c {k : VK} (hb : s p = some (scB t a M (strs k signsL) c)) (ht : t.size ≤ 1000000) (ha : a ≤ t.size) : PCalls Tryz.prog 115 [.pt p 0 0] s (fun r s' => s' = s ∧ r = .ret (.lit (.int .i64 (signLen t a signsL : Nat)))) := by
 refine PCalls.of Tryz.func115 rfl (by rfl) (by simp [Tryz.ntmps115]) ?_
 refine pwC_sound _ _ _ _ ?_
 have hl : ∀ x ∈ signsL, x.size ≤ 3 := by decide
 have hn : signsL.length = 47 := by decide
 generalize signsL = L at *
 simp [Tryz.ntmps115, hb]
 refine PW.loop (fun n e s' => ∃ (j b : Nat), j + n = L.length ∧ e 0 = .pt p 0 0 ∧ e 3 = .lit (.int .i64 b) ∧ e 9 = strs k L ∧ e 10 = .lit (.int .i64 L.length) ∧ e 11 = .lit (.int .i64 j) ∧ (L.drop j).foldl (fun n s => if n < s.size ∧ beg t a s = true then s.size else n) b = signLen t a L ∧ s' = s) L.length ⟨0, 0, by omega, by simp, by simp, by simp, by simp, by simp, rfl, rfl⟩ ?_
 rintro n e s' ⟨j, b, hj, e0, e3, e9, e10, e11, hs, rfl⟩
 refine pwC_sound _ _ _ _ ?_
 by_cases hlt : j < L.length
 ·have hlt' : (j : Int) < L.length := by omega
  have hg : L[j]? = some L[j] := List.getElem?_eq_getElem hlt
  have w1 : IntKind.i64.wrap ((j : Int) + 1) = ((j + 1 : Nat) : Int) := by rw [wrap_i64 (by omega) (by omega)]; omega
  rw [List.drop_eq_getElem_cons hlt, List.foldl_cons] at hs
  by_cases hc : b < (L[j]).size
  ·have hc' : (b : Int) < (L[j]).size := by omega
   simp [e0, e3, e9, e10, e11, hlt, hlt', hg, hc, hc']
   refine (rest_c hb ht ha).mono ?_
   rintro _ s1 ⟨hs1, rfl⟩
   rw [hs1]
   clear hs1 s1
   simp [e0, e3, e9, e10, e11, hlt, hlt', hg, hc, hc']
   refine (prefix_c _ _ _).mono ?_
   rintro _ s1 ⟨hs1, rfl⟩
   rw [hs1]
   clear hs1 s1
   rw [prefB_rest t a L[j] ha]
   by_cases hx : beg t a L[j] = true
   ·rw [if_pos ⟨hc, hx⟩] at hs
    simp [e0, e3, e9, e10, e11, hlt, hlt', hg, hc, hc', hx, w1]
    exact ⟨n - 1, by omega, j + 1, by omega, _, rfl, by omega, hs⟩
   ·rw [if_neg (fun h => hx h.2)] at hs
    simp [e0, e3, e9, e10, e11, hlt, hlt', hg, hc, hc', hx, w1]
    exact ⟨n - 1, by omega, j + 1, by omega, _, rfl, by omega, hs⟩
  ·have hc' : ¬ (b : Int) < (L[j]).size := by omega
   rw [if_neg (fun h => hc h.1)] at hs
   simp [e0, e3, e9, e10, e11, hlt, hlt', hg, hc, hc', w1]
   exact ⟨n - 1, by omega, j + 1, by omega, _, rfl, by omega, hs⟩
 ·have hlt' : ¬ (j : Int) < L.length := by omega
  rw [List.drop_eq_nil_of_le (by omega), List.foldl_nil] at hs
  simp [e0, e3, e9, e10, e11, hlt, hlt', hs]
end
end Go.Pv

namespace Go.Pv
open Go.Proofs
set_option linter.unusedVariables false
set_option linter.unusedSimpArgs false
set_option maxRecDepth 100000
set_option maxHeartbeats 400000
theorem idxByte0_c (u : ByteArray) (c : Int) (s : St) : PCalls Tryz.prog 277 [.lit (.string u), .lit (.int .u8 c)] s (fun r s' => s' = s ∧ r = .ret (.lit (.int .i64 (Lib.indexByte u.data.toList c.toNat.toUInt8)))) := by
 refine .inr fun g w vs hH hA => ?_
 obtain ⟨v0, v1, rfl⟩ : ∃ v0 v1, vs = #[v0, v1] := by
  have h1 := hA.1
  obtain ⟨l⟩ := vs
  simp at h1
  match l, h1 with
  | [v0, v1], _ => exact ⟨v0, v1, rfl⟩
 obtain ⟨rfl, _⟩ := (hA.2 0 _ v0 rfl rfl).lit_inv
 obtain ⟨rfl, _⟩ := (hA.2 1 _ v1 rfl rfl).lit_inv
 refine ⟨.lit (.int .i64 (Lib.indexByte u.data.toList c.toNat.toUInt8)), .int .i64 (Lib.indexByte u.data.toList c.toNat.toUInt8), s, g, w, ?_, LE.refl _ _, hH, VR.lit _ rfl, rfl, rfl⟩
 rw [run_callFunc_extern Tryz.func277 (by kernel_rfl) (by kernel_rfl) (by kernel_rfl) (e := Extern.BytealgIndexByte.indexByte) (by kernel_rfl), Lib.run_indexByteString]
 rfl
theorem idxByte1_c (u : ByteArray) (c : Int) (s : St) : PCalls Tryz.prog 240 [.lit (.string u), .lit (.int .u8 c)] s (fun r s' => s' = s ∧ r = .ret (.lit (.int .i64 (Lib.indexByte u.data.toList c.toNat.toUInt8)))) := by
 refine PCalls.of Tryz.func240 rfl (by rfl) (by simp [Tryz.ntmps240]) ?_
 refine pwC_sound _ _ _ _ ?_
 simp [Tryz.ntmps240]
 refine (idxByte0_c u c _).mono ?_
 rintro _ s1 ⟨hs1, rfl⟩
 rw [hs1]
 simp
theorem idxByte_c (u : ByteArray) (c : Int) (s : St) : PCalls Tryz.prog 174 [.lit (.string u), .lit (.int .u8 c)] s (fun r s' => s' = s ∧ r = .ret (.lit (.int .i64 (Lib.indexByte u.data.toList c.toNat.toUInt8)))) := by
 refine PCalls.of Tryz.func174 rfl (by rfl) (by simp [Tryz.ntmps174]) ?_
 refine pwC_sound _ _ _ _ ?_
 simp [Tryz.ntmps174]
 refine (idxByte1_c u c _).mono ?_
 rintro _ s1 ⟨hs1, rfl⟩
 rw [hs1]
 simp
end Go.Pv

namespace Go.Pv
open Go.Proofs
set_option linter.unusedVariables false
set_option linter.unusedSimpArgs false
theorem ext_list (t : ByteArray) (a : Nat) : (t.extract a t.size).data.toList = t.data.toList.drop a := by
 simp [ByteArray.data_extract]
 rw [List.take_of_length_le]
 simp
theorem bt_list (t : ByteArray) (a : Nat) (h : a < t.data.toList.length) : ((t.data.toList[a].toNat : Nat) : Int) = bt t a := by
 have h' : a < t.size := by simpa using h
 rw [← bt_get t a h']
 rfl
theorem idxB_drop (t : ByteArray) (c : UInt8) : ∀ (m a : Nat), t.size - a = m → Lib.indexByte (t.data.toList.drop a) c = (if scanW (fun j => decide (bt t j ≠ (c.toNat : Int))) t.size a < t.size then ((scanW (fun j => decide (bt t j ≠ (c.toNat : Int))) t.size a - a : Nat) : Int) else -1)
 | 0, a, hm => by
  have hl : t.data.toList.length = t.size := by simp
  rw [List.drop_eq_nil_of_le (by omega), scanW_end (by omega), if_neg (by omega)]
  rfl
 | m + 1, a, hm => by
  have hl : t.data.toList.length = t.size := by simp
  have ha : a < t.data.toList.length := by omega
  have ih := idxB_drop t c m (a + 1) (by omega)
  rw [List.drop_eq_getElem_cons ha, Lib.indexByte, ih]
  have hb := bt_list t a ha
  by_cases hc : t.data.toList[a] = c
  ·have hbc : bt t a = (c.toNat : Int) := by rw [← hb, hc]
   rw [scanW_stop (i := a) (by simp [hbc])]
   simp [hc]
   omega
  ·have hbc : ¬ bt t a = (c.toNat : Int) := by
    rw [← hb]
    intro h
    apply hc
    have : t.data.toList[a].toNat = c.toNat := by omega
    exact UInt8.toNat_inj.1 this
   rw [scanW_step (i := a) (by omega) (by simp [hbc])]
   have hge := scanW_ge (fun j => decide (bt t j ≠ (c.toNat : Int))) t.size (a + 1)
   generalize scanW (fun j => decide (bt t j ≠ (c.toNat : Int))) t.size (a + 1) = k at *
   have hc' : (t.data.toList[a] == c) = false := by simpa using hc
   rw [hc']
   by_cases hk : k < t.size
   ·simp only [hk, if_true]
    have h1 : ¬ ((k - (a + 1) : Nat) : Int) = -1 := by omega
    simp [h1]
    omega
   ·simp [hk]
theorem idxB_rest (t : ByteArray) (a : Nat) (c : UInt8) : Lib.indexByte (t.extract a t.size).data.toList c = (if scanW (fun j => decide (bt t j ≠ (c.toNat : Int))) t.size a < t.size then ((scanW (fun j => decide (bt t j ≠ (c.toNat : Int))) t.size a - a : Nat) : Int) else -1) := by
 rw [ext_list]; exact idxB_drop t c _ a rfl
end Go.Pv

namespace Go.Pv
open Go.Proofs
set_option linter.unusedVariables false
set_option linter.unusedSimpArgs false
set_option maxRecDepth 100000
set_option maxHeartbeats 400000
def sufB (u x : ByteArray) : Bool := decide (x.size ≤ u.size) && decide (u.extract (u.size - x.size) u.size = x)
def trimB (u x : ByteArray) : ByteArray := if sufB u x = true then u.extract 0 (u.size - x.size) else u
theorem suffix0_c (u x : ByteArray) (hu : u.size ≤ 1000000) (s : St) : PCalls Tryz.prog 242 [.lit (.string u), .lit (.string x)] s (fun r s' => s' = s ∧ r = .ret (.lit (.bool (sufB u x)))) := by
 refine PCalls.of Tryz.func242 rfl (by rfl) (by simp [Tryz.ntmps242]) ?_
 refine pwC_sound _ _ _ _ ?_
 by_cases h1 : x.size ≤ u.size
 ·have h2 : (x.size : Int) ≤ u.size := by omega
  have w1 : IntKind.i64.wrap ((u.size : Int) - (x.size : Int)) = (u.size : Int) - (x.size : Int) := wrap_i64 (by omega) (by omega)
  have w2 : ((u.size : Int) - (x.size : Int)).toNat = u.size - x.size := by omega
  have w3 : (0 : Int) ≤ (u.size : Int) - (x.size : Int) := by omega
  simp [Tryz.ntmps242, sufB, h1, h2, w1, w2, w3]
 ·have h2 : ¬ (x.size : Int) ≤ u.size := by omega
  simp [Tryz.ntmps242, sufB, h1, h2]
theorem suffix_c (u x : ByteArray) (hu : u.size ≤ 1000000) (s : St) : PCalls Tryz.prog 176 [.lit (.string u), .lit (.string x)] s (fun r s' => s' = s ∧ r = .ret (.lit (.bool (sufB u x)))) := by
 refine PCalls.of Tryz.func176 rfl (by rfl) (by simp [Tryz.ntmps176]) ?_
 refine pwC_sound _ _ _ _ ?_
 simp [Tryz.ntmps176]
 refine (suffix0_c u x hu _).mono ?_
 rintro _ s1 ⟨hs1, rfl⟩
 rw [hs1]
 simp
theorem trim0_c (u x : ByteArray) (hu : u.size ≤ 1000000) (s : St) : PCalls Tryz.prog 241 [.lit (.string u), .lit (.string x)] s (fun r s' => s' = s ∧ r = .ret (.lit (.string (trimB u x)))) := by
 refine PCalls.of Tryz.func241 rfl (by rfl) (by simp [Tryz.ntmps241]) ?_
 refine pwC_sound _ _ _ _ ?_
 simp [Tryz.ntmps241]
 refine (suffix0_c u x hu _).mono ?_
 rintro _ s1 ⟨hs1, rfl⟩
 rw [hs1]
 by_cases h : sufB u x = true
 ·have h1 : x.size ≤ u.size := by have := h; simp [sufB] at this; exact this.1
  have w1 : IntKind.i64.wrap ((u.size : Int) - (x.size : Int)) = (u.size : Int) - (x.size : Int) := wrap_i64 (by omega) (by omega)
  have w2 : ((u.size : Int) - (x.size : Int)).toNat = u.size - x.size := by omega
  have w3 : (0 : Int) ≤ (u.size : Int) - (x.size : Int) := by omega
  simp [trimB, h, h1, w1, w2, w3]
 ·simp [trimB, h]
theorem trim_c (u x : ByteArray) (hu : u.size ≤ 1000000) (s : St) : PCalls Tryz.prog 175 [.lit (.string u), .lit (.string x)] s (fun r s' => s' = s ∧ r = .ret (.lit (.string (trimB u x)))) := by
 refine PCalls.of Tryz.func175 rfl (by rfl) (by simp [Tryz.ntmps175]) ?_
 refine pwC_sound _ _ _ _ ?_
 simp [Tryz.ntmps175]
 refine (trim0_c u x hu _).mono ?_
 rintro _ s1 ⟨hs1, rfl⟩
 rw [hs1]
 simp
end Go.Pv

namespace Go.Pv
open Go.Proofs
set_option linter.unusedVariables false
set_option linter.unusedSimpArgs false
theorem ext_one (t : ByteArray) (i : Nat) (h : i < t.size) : t.extract i (i + 1) = ⟨#[t[i]]⟩ := by
 apply ByteArray.ext
 apply Array.ext'
 have hl : t.data.toList.length = t.size := by simp
 rw [ByteArray.data_extract]
 simp
 rw [List.drop_eq_getElem_cons (by omega)]
 rfl
theorem sufB_one (t : ByteArray) (a e : Nat) (b : UInt8) (hae : a ≤ e) (he : e ≤ t.size) : sufB (t.extract a e) ⟨#[b]⟩ = decide (a < e ∧ bt t (e - 1) = (b.toNat : Int)) := by
 have hs : (t.extract a e).size = e - a := by simp; omega
 have h1 : (⟨#[b]⟩ : ByteArray).size = 1 := rfl
 unfold sufB
 rw [hs, h1]
 by_cases h : a < e
 ·have h2 : 1 ≤ e - a := by omega
  have h3 : (t.extract a e).extract (e - a - 1) (e - a) = t.extract (e - 1) (e - 1 + 1) := by
   rw [ByteArray.extract_extract]
   congr 1 <;> omega
  rw [h3, ext_one t (e - 1) (by omega)]
  have h4 := bt_get t (e - 1) (by omega)
  simp only [h2, h, decide_true, Bool.true_and, true_and, ← h4]
  congr 1
  apply propext
  constructor
  ·intro h5
   have h6 : (⟨#[t[e - 1]]⟩ : ByteArray).data = (⟨#[b]⟩ : ByteArray).data := congrArg _ h5
   simp at h6
   rw [h6]
  ·intro h5
   have : t[e - 1] = b := UInt8.toNat_inj.1 (by omega)
   rw [this]
 ·have h2 : ¬ 1 ≤ e - a := by omega
  simp [h2, h]
theorem scanW_skip {p q : Nat → Bool} {n : Nat} (hpq : ∀ j, p j = true → q j = true) : ∀ (m i : Nat), n - i = m → scanW q n i = scanW q n (scanW p n i)
 | 0, i, hm => by rw [scanW_end (p := p) (by omega)]
 | m + 1, i, hm => by
  by_cases hp : p i = true
  ·rw [scanW_step (p := p) (by omega) hp, scanW_step (p := q) (by omega) (hpq i hp)]
   exact scanW_skip hpq m (i + 1) (by omega)
  ·rw [scanW_stop (p := p) (by simpa using hp)]
end Go.Pv

namespace Go.Pv
open Go.Proofs
set_option linter.unusedVariables false
set_option linter.unusedSimpArgs false
set_option maxRecDepth 100000
set_option maxHeartbeats 400000
theorem linP_ne {t : ByteArray} {a : Nat} : ∀ j, decide (bt t j ≠ 10) = true → linP t a j = true := by
 intro j h
 simp at h
 simp [linP, h]
theorem trim_line (t : ByteArray) (a e : Nat) (hae : a ≤ e) (he : e ≤ t.size) : trimB (t.extract a e) ⟨#[13]⟩ = t.extract a (if a < e ∧ bt t (e - 1) = 13 then e - 1 else e) := by
 have hs : (t.extract a e).size = e - a := by simp; omega
 unfold trimB
 rw [sufB_one t a e 13 hae he]
 by_cases h : a < e ∧ bt t (e - 1) = 13
 ·have h' : a < e ∧ bt t (e - 1) = ((13 : UInt8).toNat : Int) := h
  rw [if_pos h, if_pos (by simpa using h'), hs, ByteArray.extract_extract]
  congr 1
  have : (⟨#[13]⟩ : ByteArray).size = 1 := rfl
  omega
 ·have h' : ¬ (a < e ∧ bt t (e - 1) = ((13 : UInt8).toNat : Int)) := h
  rw [if_neg h, if_neg (by simpa using h')]
section
variable {t : ByteArray} {a : Nat} {M S : PV} {c : Bool} {s : St} {p : Nat}
def lineLen (t : ByteArray) (a : Nat) (c : Bool) : Nat := if bt t a = 35 ∧ c = true then lineEnd t a - a else 0
theorem line_c (hb : s p = some (scB t a M S c)) (ht : t.size ≤ 1000000) (ha : a < t.size) : PCalls Tryz.prog 110 [.pt p 0 0] s (fun r s' => s' = s ∧ r = .ret (.lit (.int .i64 (lineLen t a c : Nat)))) := by
 refine PCalls.of Tryz.func110 rfl (by rfl) (by simp [Tryz.ntmps110]) ?_
 refine pwC_sound _ _ _ _ ?_
 refine pwC_cut fun K hK => ?_
 simp [Tryz.ntmps110]
 refine hK _ _ ?_
 clear hK K
 refine pwC_cut fun K hK => ?_
 cases c with
 | false =>
  simp [hb, lineLen]
 | true =>
  simp [hb]
  refine (next_c hb 0 ht (by omega) (by omega)).mono ?_
  rintro _ s1 ⟨hs1, rfl⟩
  rw [hs1]
  clear hs1 s1
  by_cases h35 : bt t a = 35
  ·have hN : lineLen t a true = lineEnd t a - a := if_pos ⟨h35, rfl⟩
   rw [hN] at hK
   clear hN
   simp [h35]
   refine hK _ _ ?_
   clear hK K
   refine pwC_cut fun K hK => ?_
   simp
   refine (rest_c hb ht (by omega)).mono ?_
   rintro _ s1 ⟨hs1, rfl⟩
   rw [hs1]
   clear hs1 s1
   have husz : (t.extract a t.size).size = t.size - a := by simp
   have hu1 : ∀ k, k ≤ t.size - a → (t.extract a t.size).extract k (t.size - a) = t.extract (a + k) t.size := fun k hk => by
    rw [ByteArray.extract_extract]; congr 1; omega
   have hu2 : ∀ k, k ≤ t.size - a → (t.extract a t.size).extract 0 k = t.extract a (a + k) := fun k hk => by
    rw [ByteArray.extract_extract]; congr 1; omega
   generalize t.extract a t.size = u at *
   simp
   refine hK _ _ ?_
   clear hK K
   refine pwC_cut fun K hK => ?_
   simp
   refine hK _ _ ?_
   clear hK K
   refine PW.loop (fun n e s' => ∃ k : Nat, a + k + n = t.size ∧ e 3 = .lit (.string u) ∧ e 4 = .lit (.int .i64 k) ∧ scanW (linP t a) t.size (a + k) = scanW (linP t a) t.size a ∧ s' = s) (t.size - a) ⟨0, by omega, by simp, by simp, rfl, rfl⟩ ?_
   rintro n e s' ⟨k, hk, e3, e4, hs, rfl⟩
   refine pwC_sound _ _ _ _ ?_
   have hk2 : k ≤ t.size - a := by omega
   have hsk := scanW_skip (linP_ne (t := t) (a := a)) _ (a + k) (n := t.size) rfl
   have hge := scanW_ge (fun j => decide (bt t j ≠ 10)) t.size (a + k)
   simp [e3, e4, husz, hk2]
   refine (idxByte_c _ 10 _).mono ?_
   rintro _ s1 ⟨hs1, rfl⟩
   rw [hs1]
   clear hs1 s1
   rw [hu1 k hk2, show (10 : Int).toNat.toUInt8 = 10 from rfl, idxB_rest, show (((10 : UInt8).toNat : Nat) : Int) = 10 from rfl]
   have hbar : scanW (fun j => decide (bt t j ≠ 10)) t.size (a + k) < t.size → bt t (scanW (fun j => decide (bt t j ≠ 10)) t.size (a + k)) = 10 := fun h => by
    have := scanW_bar h
    simpa using this
   generalize scanW (fun j => decide (bt t j ≠ 10)) t.size (a + k) = J at *
   by_cases hJ : J < t.size
   ·have h10 := hbar hJ
    have hJa : a < J := by
     rcases Nat.lt_or_ge a J with h | h
     ·exact h
     ·have : J = a := by omega
      subst this; omega
    rw [if_pos hJ]
    obtain ⟨d, hd⟩ : ∃ d, J = a + k + d := ⟨J - (a + k), by omega⟩
    have hd' : J - (a + k) = d := by omega
    rw [hd']
    have w1 : IntKind.i64.wrap ((k : Int) + (d : Int)) = ((k + d : Nat) : Int) := by rw [wrap_i64 (by omega) (by omega)]; omega
    have hnn : ¬ (d : Int) < 0 := by omega
    have w2 : ((k : Int) + (d : Int)).toNat = k + d := by omega
    have w3 : (0 : Int) ≤ (k : Int) + (d : Int) := by omega
    have hkd : k + d ≤ t.size - a := by omega
    have hu3 : u.extract 0 (k + d) = t.extract a J := by rw [hu2 (k + d) hkd]; congr 1; omega
    have w4 : IntKind.i64.wrap ((k : Int) + (d : Int) + 1) = ((k + d + 1 : Nat) : Int) := by rw [wrap_i64 (by omega) (by omega)]; omega
    have hszJ : (t.extract a J).size ≤ 1000000 := by simp; omega
    have hnx : linP t a J = true → scanW (linP t a) t.size (a + (k + d + 1)) = scanW (linP t a) t.size a := fun h => by
     rw [← hs, hsk, scanW_step hJ h]; congr 1; omega
    have hno : linP t a J = false → lineEnd t a = (if a + 1 < J ∧ bt t (J - 1) = 13 then J - 1 else J) := fun h => by
     have : scanW (linP t a) t.size a = J := by rw [← hs, hsk, scanW_stop h]
     simp only [lineEnd, this, hJ, true_and]
    simp [e3, e4, husz, hnn, w1, w2, w3, hkd, hu3]
    refine (trim_c (t.extract a J) ⟨#[13]⟩ hszJ _).mono ?_
    rintro _ s1 ⟨hs1, rfl⟩
    rw [hs1]
    clear hs1 s1
    rw [trim_line t a J (by omega) (by omega)]
    simp [e3, e4, husz, w2, w3, hkd, hu3]
    refine (suffix_c (t.extract a J) ⟨#[92]⟩ hszJ _).mono ?_
    rintro _ s1 ⟨hs1, rfl⟩
    rw [hs1]
    clear hs1 s1
    rw [sufB_one t a J 92 (by omega) (by omega), show (((92 : UInt8).toNat : Nat) : Int) = 92 from rfl]
    by_cases q1 : bt t (J - 1) = 92
    ·simp [q1, hJa, e3, e4, w4]
     exact ⟨n - (d + 1), by omega, k + d + 1, by omega, by omega, hnx (by simp [linP, q1])⟩
    ·by_cases q2 : bt t (J - 1) = 13
     ·have hJ1 : a < J - 1 := by
       rcases Nat.lt_or_ge a (J - 1) with h | h
       ·exact h
       ·have : J - 1 = a := by omega
        rw [this] at q2; omega
      simp [q1, q2, hJa]
      refine (suffix_c (t.extract a (J - 1)) ⟨#[92]⟩ (by simp; omega) _).mono ?_
      rintro _ s1 ⟨hs1, rfl⟩
      rw [hs1]
      clear hs1 s1
      rw [sufB_one t a (J - 1) 92 (by omega) (by omega), show (((92 : UInt8).toNat : Nat) : Int) = 92 from rfl]
      have hJ2 : J - 1 - 1 = J - 2 := by omega
      rw [hJ2]
      by_cases q3 : bt t (J - 2) = 92
      ·simp [q1, q2, q3, hJa, hJ1, e3, e4, w4]
       exact ⟨n - (d + 1), by omega, k + d + 1, by omega, by omega, hnx (by simp [linP, q2, q3]; omega)⟩
      ·have hE := hno (by simp [linP, q1, q2, q3, h10])
       rw [if_pos ⟨by omega, q2⟩] at hE
       simp [q1, q2, q3, hJa, hJ1, e3, e4, w4, hE]
       exact ⟨_, sub_refl, rfl, by rw [Nat.min_eq_left (by omega)]⟩
     ·have hE := hno (by simp [linP, q1, q2, h10])
      rw [if_neg (fun h => q2 h.2)] at hE
      simp [q1, q2, hJa]
      refine (suffix_c (t.extract a J) ⟨#[92]⟩ hszJ _).mono ?_
      rintro _ s1 ⟨hs1, rfl⟩
      rw [hs1]
      clear hs1 s1
      rw [sufB_one t a J 92 (by omega) (by omega), show (((92 : UInt8).toNat : Nat) : Int) = 92 from rfl]
      simp [q1, q2, hJa, hE]
      exact ⟨_, sub_refl, rfl, by rw [Nat.min_eq_left (by omega)]⟩
   ·rw [if_neg hJ]
    have hE : lineEnd t a = t.size := by
     have h1 : scanW (linP t a) t.size a = t.size := by
      rw [← hs, hsk, scanW_end (by omega)]
      have := scanW_le (linP t a) (n := t.size) (i := a) (by omega)
      rw [← hs, hsk, scanW_end (by omega)] at this
      omega
     simp [lineEnd, h1]
    simp [e3, e4, husz, hE]
  ·simp [h35, lineLen]
end
end Go.Pv

namespace Go.Proofs
open Go.Shelf
def Tryz.lays143_ren : Go.Shelf.Ren := ⟨fun | 143 => 216 | 219 => 265 | 217 => 240 | 225 => 296 | 224 => 297 | 267 => 298 | 266 => 277 | 314 => 309 | n => n, fun | 9 => 9 | 3 => 3 | 4 => 4 | 5 => 5 | 46 => 195 | 146 => 342 | 51 => 257 | n => n, fun | 1 => 2 | n => n⟩
theorem Tryz.lays143 : Go.Proofs.Lays.n143 Tryz.prog Tryz.lays143_ren := {
 mixed := by kernel_rfl
 f143 := Tryz.func216.trans (congrArg some (by kernel_rfl))
 f217 := Tryz.func240.trans (congrArg some (by kernel_rfl))
 f219 := Tryz.func265.trans (congrArg some (by kernel_rfl))
 f224 := Tryz.func297.trans (congrArg some (by kernel_rfl))
 f225 := Tryz.func296.trans (congrArg some (by kernel_rfl))
 f266 := Tryz.func277.trans (congrArg some (by kernel_rfl))
 f267 := Tryz.func298.trans (congrArg some (by kernel_rfl))
 f314 := Tryz.func309.trans (congrArg some (by kernel_rfl))
 t3 := Tryz.underlying3
 a3 := Tryz.isAgg3
 z3 := Tryz.sizeOf3
 v3 := Tryz.zeroValue3
 t4 := Tryz.underlying4
 a4 := Tryz.isAgg4
 z4 := Tryz.sizeOf4
 v4 := Tryz.zeroValue4
 t5 := Tryz.underlying5
 a5 := Tryz.isAgg5
 z5 := Tryz.sizeOf5
 v5 := Tryz.zeroValue5
 t9 := Tryz.underlying9
 a9 := Tryz.isAgg9
 z9 := Tryz.sizeOf9
 v9 := Tryz.zeroValue9
 t46 := Tryz.underlying195
 a46 := Tryz.isAgg195
 z46 := Tryz.sizeOf195
 v46 := Tryz.zeroValue195
 t51 := Tryz.underlying257
 a51 := Tryz.isAgg257
 z51 := Tryz.sizeOf257
 v51 := Tryz.zeroValue257
 t146 := Tryz.underlying342
 a146 := Tryz.isAgg342
 z146 := Tryz.sizeOf342
 v146 := Tryz.zeroValue342
 g1 := by kernel_rfl }
open Go.RowKit Go.Lib in
theorem Tryz.strings_Index (s sub : ByteArray) (m : Int) (w : World) (hs : s.size < 4294967281) (hm : w.cell? ⟨2, 0, none⟩ = some (.int .i64 m)) :
  Calls Tryz.prog 216 #[.string s, .string sub] w fun e w' => e = .returned (.int .i64 (Lib.index s.data.toList sub.data.toList)) ∧ w' = w := Any.strings_Index Tryz.lays143 s sub m w hs hm
def Tryz.lays144_ren : Go.Shelf.Ren := ⟨fun | 144 => 239 | 143 => 216 | 219 => 265 | 217 => 240 | 225 => 296 | 224 => 297 | 267 => 298 | 266 => 277 | 314 => 309 | n => n, fun | 9 => 9 | 4 => 4 | 3 => 3 | 5 => 5 | 46 => 195 | 146 => 342 | 51 => 257 | n => n, fun | 1 => 2 | n => n⟩
theorem Tryz.lays144 : Go.Proofs.Lays.n144 Tryz.prog Tryz.lays144_ren := {
 mixed := by kernel_rfl
 f143 := Tryz.func216.trans (congrArg some (by kernel_rfl))
 f144 := Tryz.func239.trans (congrArg some (by kernel_rfl))
 f217 := Tryz.func240.trans (congrArg some (by kernel_rfl))
 f219 := Tryz.func265.trans (congrArg some (by kernel_rfl))
 f224 := Tryz.func297.trans (congrArg some (by kernel_rfl))
 f225 := Tryz.func296.trans (congrArg some (by kernel_rfl))
 f266 := Tryz.func277.trans (congrArg some (by kernel_rfl))
 f267 := Tryz.func298.trans (congrArg some (by kernel_rfl))
 f314 := Tryz.func309.trans (congrArg some (by kernel_rfl))
 t3 := Tryz.underlying3
 a3 := Tryz.isAgg3
 z3 := Tryz.sizeOf3
 v3 := Tryz.zeroValue3
 t4 := Tryz.underlying4
 a4 := Tryz.isAgg4
 z4 := Tryz.sizeOf4
 v4 := Tryz.zeroValue4
 t5 := Tryz.underlying5
 a5 := Tryz.isAgg5
 z5 := Tryz.sizeOf5
 v5 := Tryz.zeroValue5
 t9 := Tryz.underlying9
 a9 := Tryz.isAgg9
 z9 := Tryz.sizeOf9
 v9 := Tryz.zeroValue9
 t46 := Tryz.underlying195
 a46 := Tryz.isAgg195
 z46 := Tryz.sizeOf195
 v46 := Tryz.zeroValue195
 t51 := Tryz.underlying257
 a51 := Tryz.isAgg257
 z51 := Tryz.sizeOf257
 v51 := Tryz.zeroValue257
 t146 := Tryz.underlying342
 a146 := Tryz.isAgg342
 z146 := Tryz.sizeOf342
 v146 := Tryz.zeroValue342
 g1 := by kernel_rfl }
open Go.RowKit Go.Lib in
theorem Tryz.strings_Contains_one (s : ByteArray) (c : UInt8) (w : World) :
  Calls Tryz.prog 239 #[.string s, .string ⟨#[c]⟩] w fun e w' => e = .returned (.bool (decide (0 ≤ Lib.indexByte s.data.toList c))) ∧ w' = w := Any.strings_Contains_one Tryz.lays144 s c w
def Tryz.lays157_ren : Go.Shelf.Ren := ⟨fun | 157 => 108 | 229 => 169 | 199 => 170 | 261 => 238 | 311 => 275 | 312 => 276 | n => n, fun | 9 => 9 | 31 => 37 | 3 => 3 | 5 => 5 | 4 => 4 | 119 => 230 | 0 => 0 | 40 => 232 | 152 => 279 | 21 => 21 | 154 => 281 | 51 => 257 | 141 => 283 | 196 => 312 | 193 => 309 | 198 => 315 | 49 => 313 | 194 => 310 | 201 => 318 | 226 => 332 | 46 => 195 | 227 => 333 | n => n, fun | 0 => 0 | 6 => 1 | n => n⟩
theorem Tryz.lays157 : Go.Proofs.Lays.n157 Tryz.prog Tryz.lays157_ren := {
 mixed := by kernel_rfl
 f157 := Tryz.func108.trans (congrArg some (by kernel_rfl))
 f199 := Tryz.func170.trans (congrArg some (by kernel_rfl))
 f229 := Tryz.func169.trans (congrArg some (by kernel_rfl))
 f261 := Tryz.func238.trans (congrArg some (by kernel_rfl))
 f311 := Tryz.func275.trans (congrArg some (by kernel_rfl))
 f312 := Tryz.func276.trans (congrArg some (by kernel_rfl))
 t0 := Tryz.underlying0
 a0 := Tryz.isAgg0
 z0 := Tryz.sizeOf0
 v0 := Tryz.zeroValue0
 t3 := Tryz.underlying3
 a3 := Tryz.isAgg3
 z3 := Tryz.sizeOf3
 v3 := Tryz.zeroValue3
 t4 := Tryz.underlying4
 a4 := Tryz.isAgg4
 z4 := Tryz.sizeOf4
 v4 := Tryz.zeroValue4
 t5 := Tryz.underlying5
 a5 := Tryz.isAgg5
 z5 := Tryz.sizeOf5
 v5 := Tryz.zeroValue5
 t9 := Tryz.underlying9
 a9 := Tryz.isAgg9
 z9 := Tryz.sizeOf9
 v9 := Tryz.zeroValue9
 t21 := Tryz.underlying21
 a21 := Tryz.isAgg21
 z21 := Tryz.sizeOf21
 v21 := Tryz.zeroValue21
 t31 := Tryz.underlying37
 a31 := Tryz.isAgg37
 z31 := Tryz.sizeOf37
 v31 := Tryz.zeroValue37
 t40 := Tryz.underlying232
 a40 := Tryz.isAgg232
 z40 := Tryz.sizeOf232
 v40 := Tryz.zeroValue232
 t46 := Tryz.underlying195
 a46 := Tryz.isAgg195
 z46 := Tryz.sizeOf195
 v46 := Tryz.zeroValue195
 t49 := Tryz.underlying313
 a49 := Tryz.isAgg313
 z49 := Tryz.sizeOf313
 v49 := Tryz.zeroValue313
 t51 := Tryz.underlying257
 a51 := Tryz.isAgg257
 z51 := Tryz.sizeOf257
 v51 := Tryz.zeroValue257
 t119 := Tryz.underlying230
 a119 := Tryz.isAgg230
 z119 := Tryz.sizeOf230
 t141 := Tryz.underlying283
 a141 := Tryz.isAgg283
 z141 := Tryz.sizeOf283
 v141 := Tryz.zeroValue283
 t152 := Tryz.underlying279
 a152 := Tryz.isAgg279
 z152 := Tryz.sizeOf279
 v152 := Tryz.zeroValue279
 t154 := Tryz.underlying281
 a154 := Tryz.isAgg281
 z154 := Tryz.sizeOf281
 v154 := Tryz.zeroValue281
 t193 := Tryz.underlying309
 a193 := Tryz.isAgg309
 z193 := Tryz.sizeOf309
 v193 := Tryz.zeroValue309
 t194 := Tryz.underlying310
 a194 := Tryz.isAgg310
 z194 := Tryz.sizeOf310
 v194 := Tryz.zeroValue310
 t196 := Tryz.underlying312
 a196 := Tryz.isAgg312
 z196 := Tryz.sizeOf312
 v196 := Tryz.zeroValue312
 t198 := Tryz.underlying315
 a198 := Tryz.isAgg315
 z198 := Tryz.sizeOf315
 v198 := Tryz.zeroValue315
 t201 := Tryz.underlying318
 a201 := Tryz.isAgg318
 z201 := Tryz.sizeOf318
 v201 := Tryz.zeroValue318
 t226 := Tryz.underlying332
 a226 := Tryz.isAgg332
 z226 := Tryz.sizeOf332
 v226 := Tryz.zeroValue332
 t227 := Tryz.underlying333
 a227 := Tryz.isAgg333
 z227 := Tryz.sizeOf333
 v227 := Tryz.zeroValue333
 g0 := by kernel_rfl
 g6 := by kernel_rfl }
open Go.RowKit Go.Lib in
theorem Tryz.strings_Fields (s : ByteArray) (w : World) (hs : s.size < 4294967281) (hascii : ∀ (j : Nat) b, s.data.toList[j]? = some b → b.toNat < 128) (htab : Lib.TabIs Tryz.prog w "strings.asciiSpace" .u8 Lib.asciiSpaceTab) :
  Calls Tryz.prog 108 #[.string s] w fun e w' =>
   e = .returned (.slice (some ⟨w.heap.size, 0, none⟩) (Lib.fields s.data.toList).length (Lib.fields s.data.toList).length) ∧ w' = w.alloc (.cells ((Lib.fields s.data.toList).map fun l => Value.string ⟨l.toArray⟩).toArray 9) := Any.strings_Fields Tryz.lays157 (by kernel_rfl) (by kernel_rfl) s w hs hascii htab
end Go.Proofs

namespace Go.Pv
open Go.Proofs
set_option linter.unusedVariables false
set_option linter.unusedSimpArgs false
set_option maxRecDepth 100000
set_option maxHeartbeats 400000
def tabP : List PV := Lib.asciiSpaceTab.map fun z => .lit (.int .u8 z)
def Vars (s : St) : Prop := s 0 = some (.ro tabP) ∧ ∃ m : Int, s 2 = some (.ro [.lit (.int .i64 m)])
theorem Vars.upd {s : St} (h : Vars s) {i : Nat} {b : Option Blk} (h0 : i ≠ 0) (h2 : i ≠ 2) : Vars (s.upd i b) := by
 obtain ⟨q1, m, q2⟩ := h
 exact ⟨by rw [St.upd_ne _ _ (Ne.symm h0)]; exact q1, m, by rw [St.upd_ne _ _ (Ne.symm h2)]; exact q2⟩
theorem Vars.sub {s s' : St} (h : Vars s) (hs : s.sub s') : Vars s' := ⟨hs _ _ h.1, h.2.imp fun m hm => hs _ _ hm⟩
theorem Vars.ne {s : St} (h : Vars s) {i : Nat} {ty : TypeId} {sz : Nat} {els : List (List PV)} (hi : s i = some (.row ty sz els)) : i ≠ 0 ∧ i ≠ 2 := by
 constructor
 ·intro e; subst e; rw [h.1] at hi; cases hi
 ·obtain ⟨m, hm⟩ := h.2
  intro e; subst e; rw [hm] at hi; cases hi
theorem Vars.fresh {s : St} (h : Vars s) {i : Nat} (hi : Fresh s i) : i ≠ 0 ∧ i ≠ 2 := by
 constructor
 ·intro e; subst e; have h1 := h.1; rw [show s _ = none from hi] at h1; cases h1
 ·obtain ⟨m, hm⟩ := h.2
  intro e; subst e; rw [show s _ = none from hi] at hm; cases hm
theorem two_args {w : World} {g : G} {a b : Value} (ha : scal a = true) (hb : scal b = true) {vs : Array Value} (hA : Args w g [.lit a, .lit b] vs) : vs = #[a, b] := by
 obtain ⟨l⟩ := vs
 have h1 := hA.1
 simp at h1
 match l, h1 with
 | [v0, v1], _ =>
  obtain ⟨rfl, _⟩ := (hA.2 0 _ v0 rfl rfl).lit_inv
  obtain ⟨rfl, _⟩ := (hA.2 1 _ v1 rfl rfl).lit_inv
  rfl
theorem one_arg {w : World} {g : G} {a : Value} (ha : scal a = true) {vs : Array Value} (hA : Args w g [.lit a] vs) : vs = #[a] := by
 obtain ⟨l⟩ := vs
 have h1 := hA.1
 simp at h1
 match l, h1 with
 | [v0], _ =>
  obtain ⟨rfl, _⟩ := (hA.2 0 _ v0 rfl rfl).lit_inv
  rfl
theorem PCalls.lib {P : Program} {f : FuncId} {args : List PV} {s : St} {v : Value} (he : enters P f = true) (hv : scal v = true) (h : ∀ (g : G) (w : World) (vs : Array Value), Holds g s w → Args w g args vs → Calls P f vs w fun e w' => e = .returned v ∧ w' = w) :
  PCalls P f args s (fun r s' => s' = s ∧ r = .ret (.lit v)) := by
 refine .inl ⟨he, fun g w vs hH hA => (h g w vs hH hA).mono ?_⟩
 rintro e w' ⟨rfl, rfl⟩
 exact ⟨_, s, g, .refl _ _, hH, .ret _ _ (.lit v hv), rfl, rfl⟩
theorem Holds.cellRo {s : St} {g : G} {w : World} (hH : Holds g s w) {k : Nat} (hk : k < 64) {cs : List PV} (hs : s k = some (.ro cs)) : ∃ arr ty fr, w.heap[k]? = some (.cells arr ty fr) ∧ arr.size = cs.length ∧ ∀ (f : Nat) (v : Value), cs[f]? = some (.lit v) → w.cell? ⟨k, f, none⟩ = some v := by
 have hg := (g.gl k hk).2
 obtain ⟨_, _, _, _⟩ | ⟨_, _, _⟩ | ⟨_, arr, ty, fr, hz, hb, hsz, h5⟩ := hH.blk k _ hs
 rw [hg] at hb
 refine ⟨arr, ty, fr, hb, hsz, fun f v hf => ?_⟩
 obtain ⟨u, q1, _, q3⟩ := h5 f _ hf
 obtain ⟨rfl, _⟩ := q3.lit_inv
 rw [hg] at q1
 exact q1
theorem index_c (u x : ByteArray) (hu : u.size < 4294967281) (s : St) (hv : Vars s) : PCalls Tryz.prog 216 [.lit (.string u), .lit (.string x)] s (fun r s' => s' = s ∧ r = .ret (.lit (.int .i64 (Lib.index u.data.toList x.data.toList)))) := by
 refine PCalls.lib (by kernel_rfl) rfl fun g w vs hH hA => ?_
 rw [two_args rfl rfl hA]
 obtain ⟨m, hm⟩ := hv.2
 obtain ⟨_, _, _, _, _, hc⟩ := hH.cellRo (by decide) hm
 exact Tryz.strings_Index u x m w hu (hc 0 _ rfl)
theorem contains1_c (u : ByteArray) (c : UInt8) (s : St) : PCalls Tryz.prog 239 [.lit (.string u), .lit (.string ⟨#[c]⟩)] s (fun r s' => s' = s ∧ r = .ret (.lit (.bool (decide (0 ≤ Lib.indexByte u.data.toList c))))) := by
 refine PCalls.lib (by kernel_rfl) rfl fun g w vs hH hA => ?_
 rw [two_args rfl rfl hA]
 exact Tryz.strings_Contains_one u c w
theorem var_ro {s : St} {g : G} {w : World} (hH : Holds g s w) (hv : Vars s) : Lib.TabIs Tryz.prog w "strings.asciiSpace" .u8 Lib.asciiSpaceTab := by
 obtain ⟨arr, ty, fr, h1, h2, h3⟩ := hH.cellRo (by decide) hv.1
 unfold Lib.TabIs World.var?
 rw [show Tryz.prog.globalNamed "strings.asciiSpace" = some 0 by kernel_rfl]
 simp only [Option.bind_some, h1]
 congr 1
 apply Array.ext'
 apply List.ext_getElem?
 intro j
 rw [Array.getElem?_toList]
 by_cases hj : j < arr.size
 ·have hjt : j < Lib.asciiSpaceTab.length := by rw [h2] at hj; simpa [tabP] using hj
  have := h3 j (.int .u8 Lib.asciiSpaceTab[j]) (by rw [tabP, List.getElem?_map, List.getElem?_eq_getElem hjt]; rfl)
  simp only [World.cell?, h1] at this
  have h4 : arr[j]? = some (.int .u8 Lib.asciiSpaceTab[j]) := by simpa using this
  rw [h4]
  simp [hjt]
 ·have hjt : Lib.asciiSpaceTab.length ≤ j := by rw [h2] at hj; simp [tabP] at hj; omega
  rw [Array.getElem?_eq_none (by omega)]
  simp [hjt]
theorem fields_c (u : ByteArray) (hu : u.size < 4294967281) (ha : ∀ (j : Nat) b, u.data.toList[j]? = some b → b.toNat < 128) (s : St) (hv : Vars s) :
  PCalls Tryz.prog 108 [.lit (.string u)] s (fun r s' => s' = s ∧ r = .ret (strs .tight ((Lib.fields u.data.toList).map fun l => ⟨l.toArray⟩))) := by
 refine .inl ⟨by kernel_rfl, fun g w vs hH hA => ?_⟩
 rw [one_arg rfl hA]
 refine (Tryz.strings_Fields u w hu ha (var_ro hH hv)).mono ?_
 rintro e w' ⟨rfl, rfl⟩
 generalize hfs : Lib.fields u.data.toList = fs
 obtain ⟨H1, l1⟩ := hH.pushed (.cells ((fs.map fun l => Value.string ⟨l.toArray⟩).toArray) 9 (0, 0))
 have hsz : (pushed w (.cells ((fs.map fun l => Value.string ⟨l.toArray⟩).toArray) 9 (0, 0))).heap.size = w.heap.size + 1 := pushed_size _ _
 have HF := H1.freeze (k := w.heap.size) (by rw [hsz]; omega) (fun j hj hjb => by
  obtain ⟨b, hb⟩ := Option.ne_none_iff_exists'.1 hj
  have := (hH.blk j b hb).lt
  omega)
 refine ⟨_, s, _, l1.trans (LE.freeze _), HF, .ret _ _ ?_, rfl, rfl⟩
 have hcell : ∀ (i : Nat) (x : List UInt8), fs[i]? = some x → (pushed w (.cells ((fs.map fun l => Value.string ⟨l.toArray⟩).toArray) 9 (0, 0))).cell? ⟨w.heap.size, i, none⟩ = some (.string ⟨x.toArray⟩) := fun i x hx => by
  have := pushed_new w (.cells ((fs.map fun l => Value.string ⟨l.toArray⟩).toArray) 9 (0, 0))
  simp only [World.cell?, this]
  simp [hx]
 have hlen : (List.map (fun x => PV.lit (Value.string x)) (fs.map fun l => (⟨l.toArray⟩ : ByteArray))).length = fs.length := by simp
 have := VR.vec (w := pushed w (.cells ((fs.map fun l => Value.string ⟨l.toArray⟩).toArray) 9 (0, 0))) (g := g.freeze w.heap.size) .tight ((fs.map fun l => (⟨l.toArray⟩ : ByteArray)).map fun x => PV.lit (.string x)) (some ⟨w.heap.size, 0, none⟩) fs.length 1
  (fun i _ => match fs[i]? with | some x => .string ⟨x.toArray⟩ | none => undef) (by simp) (fun _ => by simp) (fun h => by cases h) (fun h => by cases h) (fun i x hx => by
   rw [List.getElem?_map, List.getElem?_map] at hx
   cases hfi : fs[i]? with
   | none => rw [hfi] at hx; cases hx
   | some y => rw [hfi] at hx; cases hx; rfl) (fun i x j c hx hc => by
   rw [List.getElem?_map, List.getElem?_map] at hx
   cases hfi : fs[i]? with
   | none => rw [hfi] at hx; cases hx
   | some y =>
    rw [hfi] at hx
    cases hx
    cases j with
    | zero => exact ⟨_, rfl, .inr rfl, by rw [add_plain]; simpa using hcell i y hfi, rfl⟩
    | succ j => simp [PV.cells] at hc) (fun i x j c hx hc => by
   rw [List.getElem?_map, List.getElem?_map] at hx
   cases hfi : fs[i]? with
   | none => rw [hfi] at hx; cases hx
   | some y =>
    rw [hfi] at hx
    cases hx
    cases j with
    | zero => cases hc; exact .lit _ rfl
    | succ j => simp [PV.cells] at hc)
 rw [hlen] at this
 exact this
end Go.Pv

namespace Go.Pv
open Go.Proofs Go.RowKit Go.ChangeShapes Go.WideShapes
set_option linter.unusedVariables false
set_option linter.unusedSimpArgs false
set_option maxRecDepth 100000
def varsS (m : Int) : St := fun i => if i = 0 then some (.ro tabP) else if i = 2 then some (.ro [.lit (.int .i64 m)]) else none
theorem vars_varsS (m : Int) : Vars (varsS m) := ⟨rfl, m, rfl⟩
theorem ro_br {w : World} {k : Nat} (hk : k < w.heap.size) {arr : Array Value} {ty : TypeId} {fr : Nat × Nat} {ls : List Value} (hb : w.heap[k]? = some (.cells arr ty fr)) (ha : arr.toList = ls) (hsc : ∀ v ∈ ls, scal v = true ∧ Value.oneCell' v = true) : BR w (g0 w) k (.ro (ls.map .lit)) := by
 subst ha
 refine .ro _ arr ty fr hk hb (by simp) (fun f c hf => ?_)
 rw [List.getElem?_map, Array.getElem?_toList] at hf
 obtain ⟨v, hv, rfl⟩ := Option.map_eq_some_iff.1 hf
 refine ⟨v, ?_, ?_, .lit v ?_⟩
 ·show w.cell? ⟨k, f, none⟩ = some v
  simp only [World.cell?, hb]
  simpa using hv
 ·exact (hsc v (by rw [Array.mem_toList_iff]; exact Array.mem_of_getElem? hv)).2
 ·exact (hsc v (by rw [Array.mem_toList_iff]; exact Array.mem_of_getElem? hv)).1
theorem holdsV {w : World} {m : Int} {a1 a2 : Array Value} {t1 t2 : TypeId} {f1 f2 : Nat × Nat} (h1 : w.heap[0]? = some (.cells a1 t1 f1)) (e1 : a1.toList = Lib.asciiSpaceTab.map fun z => Value.int .u8 z) (h2 : w.heap[2]? = some (.cells a2 t2 f2)) (e2 : a2.toList = [.int .i64 m]) : Holds (g0 w) (varsS m) w := by
 have lt : ∀ (k : Nat) (o : Obj), w.heap[k]? = some o → k < w.heap.size := fun k o h => by
  rcases Nat.lt_or_ge k w.heap.size with hl | hl
  ·exact hl
  ·rw [Array.getElem?_eq_none hl] at h; cases h
 refine ⟨fun i hi => ?_, fun _ h => h, fun i b hb => ?_, fun i j hi hj h => h, fun i b hb hr => ?_⟩
 ·have hi' : 64 ≤ i := hi
  unfold varsS
  rw [if_neg (by omega), if_neg (by omega)]
 ·unfold varsS at hb
  split at hb
  ·rename_i h; subst h; cases hb
   have := ro_br (lt _ _ h1) h1 e1 (fun v hv => by
    obtain ⟨z, _, rfl⟩ := List.mem_map.1 hv
    exact ⟨rfl, rfl⟩)
   rw [List.map_map] at this
   exact this
  ·split at hb
   ·rename_i h; subst h; cases hb
    exact ro_br (lt _ _ h2) h2 e2 (fun v hv => by
     rw [List.mem_singleton] at hv
     subst hv
     exact ⟨rfl, rfl⟩)
   ·cases hb
 ·unfold varsS at hb
  split at hb
  ·cases hb; cases hr
  ·split at hb
   ·cases hb; cases hr
   ·cases hb
theorem PCalls.lawS {P : Program} {f : FuncId} {args : List PV} {S : St} (h : PCalls P f args S fun r s' => s' = S ∧ r = .ret (.lit (.bool true))) (he : enters P f = true) {w : World} {vs : Array Value} (hS : Holds (g0 w) S w) (hA : Args w (g0 w) args vs) :
  Calls P f vs w fun e w' => e = .returned (.bool true) ∧ Below w.heap.size w w' := by
 rcases h with h | h
 ·refine (h.2 (g0 w) w vs hS hA).mono fun e w' ⟨res, s', g', h1, h2, h3, h4⟩ => ?_
  obtain ⟨_, rfl⟩ := h4
  cases h3 with
  | ret p v hv => obtain ⟨rfl, _⟩ := hv.lit_inv; exact ⟨rfl, ⟨h1.os, h1.tape, h1.output, h1.size, fun k hk => h1.block k hk⟩⟩
 ·obtain ⟨p, v, s', g', w', h1, _⟩ := h (g0 w) w vs hS hA
  rw [run_enters he] at h1
  cases h1
theorem start_of {W : World} (hL : laidMetH Tryz.prog [("unicode.White_Space", Go.Proofs.YtkdimfmnialabaaGreatDoor.Rows.laid_unicode_White_Space), ("strings.asciiSpace", Go.Proofs.YtkdimfmnialabaaGreatDoor.Rows.laid_strings_asciiSpace)] W) (hsh : W.ShapedOpen Tryz.prog) : ∃ m, Holds (g0 W) (varsS m) W := by
 rw [MakeChecks.laidMetH_plain _ _ _ (by kernel_rfl)] at hL
 obtain ⟨g, t, cs, fuel, p, hg, hty, hvar, hd⟩ := Lib.laidMet.reads hL (n := "strings.asciiSpace") (List.mem_cons_of_mem _ (List.mem_singleton.2 rfl))
 obtain rfl := Option.some.inj ((show Tryz.prog.globalNamed "strings.asciiSpace" = some 0 by kernel_rfl).symm.trans hg)
 obtain rfl := Option.some.inj ((show (Tryz.prog.globals[0]?).map (·.type) = some 230 by kernel_rfl).symm.trans hty)
 rw [show (Go.Proofs.YtkdimfmnialabaaGreatDoor.Rows.laid_strings_asciiSpace : DataW Unit) = Lib.tabData .u8 Lib.asciiSpaceTab by kernel_rfl] at hd
 have hcs := Lib.cells_of_tab (n := 256) Tryz.underlying230 Tryz.underlying5 (by kernel_rfl) (by kernel_rfl) hd
 unfold World.var? at hvar
 rw [hg] at hvar
 simp only [Option.bind_some] at hvar
 split at hvar
 ·rename_i a1 t1 f1 h1
  cases hvar
  obtain ⟨m, hm⟩ := cell_of_shapedOpen_int (zero := #[.int .i64 0]) (g := 2) (t := 3) hsh (of_decide_eq_true (by kernel_rfl)) (by kernel_rfl) rfl (by kernel_rfl) (by kernel_rfl) Tryz.underlying3
  obtain ⟨a2, h2, hs2, _⟩ := hsh.1 2 #[.int .i64 0] 3 (of_decide_eq_true (by kernel_rfl)) (by kernel_rfl)
  refine ⟨m, holdsV h1 hcs h2 ?_⟩
  simp only [World.cell?, h2] at hm
  have hs : a2.size = 1 := hs2
  obtain ⟨l⟩ := a2
  match l, hs with
  | [x], _ => simp at hm; rw [hm]
 ·cases hvar
end Go.Pv

namespace Go.Pv
open Go.Proofs
set_option linter.unusedVariables false
set_option linter.unusedSimpArgs false
set_option maxRecDepth 100000
set_option maxHeartbeats 1000000
def Gd (x : Nd) : Prop := ∀ p y, atN x p = some y → y.l.length ≤ 2 ^ 63 - 1 ∧ y.s.size ≤ 2 ^ 63 - 1
def sh : Nat → List Nd → Prop
 | 0, l => l = []
 | k + 1, l => ∀ y ∈ l, sh k y.l
end Go.Pv

namespace Go.Pv
open Go.Proofs Go.RowKit Go.ChangeShapes Go.WideShapes
set_option linter.unusedVariables false
set_option linter.unusedSimpArgs false
set_option maxRecDepth 100000
def I64 (n : Int) : Prop := -9223372036854775808 ≤ n ∧ n ≤ 9223372036854775807
def Nd.ints (x : Nd) : Prop := I64 x.op ∧ I64 x.n ∧ I64 x.fr ∧ I64 x.to
def Gi (x : Nd) : Prop := ∀ p y, atN x p = some y → y.ints
instance : Inhabited Nd := ⟨⟨0, ⟨#[]⟩, 0, 0, 0, []⟩⟩
section
variable {H : Type} {enc' : TypeId × Value → H} {w : World} {base : Nat} {spare : Nat → Bool} {held : Bool}
end
end Go.Pv

namespace Go.Pv
set_option maxRecDepth 100000
def ti_size : List (Nat × (Nat × Bool)) := [(1, (1, false)), (2, (1, false)), (3, (1, false)), (4, (1, false)), (5, (1, false)), (6, (1, false)), (7, (4, true)), (8, (4, true)), (9, (1, false)), (10, (1, false)), (11, (1, false)), (12, (1, false)), (13, (2, true)), (14, (2, true)), (15, (1, false)), (16, (1, false)), (17, (1, false)), (18, (1, true)), (19, (1, true)), (20, (1, false)), (21, (1, false)), (22, (1, false)), (23, (1, false)), (24, (1, false)), (25, (6, true)), (26, (6, true)), (27, (1, false)), (29, (1, false)), (30, (1, false)), (31, (4, true)), (32, (4, true)), (34, (1, false)), (36, (1, false)), (37, (1, false)), (38, (1, false)), (39, (1, false)), (41, (1, false)), (42, (3, true)), (43, (3, true)), (44, (1, false)), (45, (1, false)), (46, (1, false)), (47, (1, false)), (48, (1, false)), (50, (1, false)), (51, (1, false)), (52, (1, false)), (53, (1, false)), (54, (1, false)), (55, (1, false)), (57, (1, false)), (58, (1, false)), (59, (1, false)), (60, (1, false)), (61, (1, false)), (62, (1, false)), (63, (1, false)), (64, (1, false)), (65, (1, false)), (66, (1, false)), (67, (1, false)), (68, (1, false)), (69, (1, false)), (70, (1, false)), (71, (1, false)), (72, (1, false)), (73, (1, false)), (74, (1, false)), (75, (1, false)), (76, (2, true)), (77, (2, true)), (78, (1, false)), (79, (1, false)), (80, (1, false)), (82, (1, false)), (83, (1, false)), (84, (1, false)), (85, (1, false)), (86, (1, false)), (87, (2, true)), (88, (2, true)), (89, (1, false)), (90, (1, false)), (92, (1, false)), (93, (1, false)), (94, (1, false)), (95, (2, true)), (96, (2, true)), (98, (1, false)), (99, (1, false)), (101, (1, false)), (103, (1, false)), (105, (1, false)), (106, (1, false)), (107, (1, false)), (108, (7, true)), (109, (7, true)), (110, (1, false)), (111, (1, false)), (112, (1, false)), (113, (1, false)), (114, (1, false)), (115, (5, true)), (116, (5, true)), (117, (1, false)), (118, (1, false)), (120, (1, false)), (121, (1, false)), (123, (1, false)), (124, (1, false)), (125, (8, true)), (126, (8, true)), (127, (1, false)), (128, (1, false)), (129, (1, false)), (130, (1, false)), (132, (1, false)), (133, (4, true)), (134, (4, true)), (135, (1, false)), (136, (1, false)), (137, (2, true)), (138, (1, false)), (139, (1, false)), (140, (1, false)), (141, (1, false)), (142, (1, false)), (143, (1, false)), (144, (1, false)), (145, (1, false)), (146, (1, false)), (147, (1, false)), (148, (1, false)), (149, (1, false)), (150, (1, false)), (151, (1, false)), (152, (1, false)), (153, (1, false)), (154, (1, false)), (155, (1, false)), (156, (12, true)), (157, (12, true)), (158, (1, false)), (159, (1, false)), (160, (1, false)), (161, (1, false)), (162, (1, false)), (163, (1, false)), (164, (2, true)), (165, (2, true)), (166, (1, false)), (168, (1, false)), (169, (4, true)), (170, (4, true)), (171, (1, false)), (172, (1, false)), (173, (2, true)), (174, (2, true)), (175, (1, false)), (176, (1, false)), (177, (1, false)), (178, (1, false)), (179, (2, true)), (180, (2, true)), (181, (4, true)), (182, (4, true)), (184, (1, false)), (185, (1, false)), (186, (1, false)), (187, (1, false)), (188, (1, false)), (190, (1, false)), (191, (1, false)), (192, (1, false)), (193, (1, false)), (194, (1, false)), (195, (1, false)), (196, (1, false)), (197, (1, false)), (198, (1, false)), (200, (1, false)), (201, (1, false)), (202, (1, false)), (204, (1, false)), (205, (1, false)), (206, (1, false)), (207, (1, false)), (208, (7, true)), (209, (1, false)), (210, (1, false)), (211, (1, true)), (212, (1, true)), (213, (1, false)), (214, (1, false)), (215, (14, true)), (216, (14, true)), (217, (12, true)), (218, (12, true)), (219, (1, false)), (220, (1, false)), (221, (1, false)), (222, (7, true)), (223, (7, true)), (224, (1, false)), (225, (1, false)), (226, (1, false)), (227, (1, false)), (228, (1, false)), (229, (1, false)), (230, (256, true)), (231, (1, false)), (232, (1, false)), (233, (1, false)), (234, (1, false)), (235, (1, false)), (236, (1, false)), (237, (1, false)), (238, (1, false)), (240, (1, false)), (241, (1, false)), (242, (1, false)), (243, (1, false)), (244, (1, false)), (245, (1, false)), (246, (0, true)), (247, (0, true)), (249, (1, false)), (250, (1, false)), (252, (1, false)), (253, (1, false)), (254, (1, false)), (255, (1, false)), (256, (1, false)), (257, (1, false)), (258, (1, false)), (259, (1, false)), (260, (1, false)), (261, (1, false)), (262, (1, false)), (263, (1, false)), (264, (1, false)), (265, (1, false)), (266, (1, false)), (267, (1, false)), (268, (1, false)), (269, (1, false)), (270, (1, false)), (271, (1, false)), (272, (1, false)), (273, (1, false)), (274, (1, false)), (275, (1, false)), (276, (1, false)), (277, (1, false)), (278, (1, false)), (279, (1, false)), (280, (2, true)), (281, (2, true)), (282, (1, false)), (283, (1, false)), (284, (1, false)), (285, (2, true)), (286, (2, true)), (288, (1, false)), (289, (1, false)), (291, (1, false)), (292, (1, false)), (293, (1, false)), (294, (1, false)), (295, (1, false)), (296, (1, false)), (297, (1, false)), (298, (1, false)), (299, (1, false)), (300, (1, false)), (301, (1, false)), (303, (1, false)), (304, (1, false)), (305, (1, false)), (306, (1, false)), (307, (1, false)), (308, (1, false)), (309, (1, false)), (310, (1, false)), (311, (3, true)), (312, (3, true)), (313, (1, false)), (314, (3, true)), (315, (3, true)), (316, (1, false)), (317, (3, true)), (318, (3, true)), (319, (1, false)), (321, (1, false)), (322, (12, true)), (323, (12, true)), (324, (1, false)), (325, (1, false)), (326, (1, false)), (327, (1, false)), (328, (1, false)), (329, (1, false)), (330, (1, false)), (331, (1, false)), (332, (1, false)), (333, (1, false)), (334, (1, false)), (335, (1, false)), (336, (1, false)), (337, (1, false)), (338, (1, false)), (339, (2, true)), (340, (2, true)), (341, (32, true)), (343, (1, false)), (344, (10, true)), (345, (1, false)), (346, (1, false)), (347, (1, false)), (348, (1, false)), (350, (1, false)), (351, (4, true)), (352, (4, true)), (353, (0, true)), (354, (0, true)), (355, (0, true)), (356, (1, false)), (357, (1, false)), (358, (1, false)), (359, (1, false)), (360, (1, false)), (361, (11, true)), (362, (11, true)), (363, (10, true)), (364, (10, true)), (365, (2, true)), (366, (2, true)), (367, (2, true)), (368, (2, true))]
def ti_zero : List (Nat × Value) := [(1, .nilFunc), (2, (.int .i64 0)), (3, (.int .i64 0)), (4, (.bool false)), (5, (.int .u8 0)), (9, (.string ⟨#[]⟩)), (12, (.int .u64 0)), (13, (.agg #[(.string ⟨#[]⟩), (.int .u64 0)])), (15, (.pointer none)), (16, (.pointer none)), (19, (.agg #[(.pointer none)])), (20, .nilIface), (21, (.int .i32 0)), (22, (.slice none 0 0)), (23, (.slice none 0 0)), (24, (.slice none 0 0)), (25, (.agg #[(.int .i64 0), (.string ⟨#[]⟩), (.int .i64 0), (.int .i64 0), (.int .i64 0), (.slice none 0 0)])), (26, (.agg #[(.int .i64 0), (.string ⟨#[]⟩), (.int .i64 0), (.int .i64 0), (.int .i64 0), (.slice none 0 0)])), (27, (.int .i64 0)), (29, .nilFunc), (30, .nilFunc), (31, (.agg #[(.int .i64 0), (.string ⟨#[]⟩), (.string ⟨#[]⟩), (.int .i64 0)])), (32, (.agg #[(.int .i64 0), (.string ⟨#[]⟩), (.string ⟨#[]⟩), (.int .i64 0)])), (34, .nilFunc), (36, .nilFunc), (37, (.slice none 0 0)), (38, .nilFunc), (39, .nilFunc), (41, .nilFunc), (42, (.agg #[(.int .i64 0), (.int .i64 0), (.string ⟨#[]⟩)])), (43, (.agg #[(.int .i64 0), (.int .i64 0), (.string ⟨#[]⟩)])), (44, (.slice none 0 0)), (45, .nilFunc), (46, .nilFunc), (47, .nilFunc), (48, .nilFunc), (50, .nilFunc), (51, .nilFunc), (52, (.slice none 0 0)), (53, .nilFunc), (54, .nilFunc), (55, .nilFunc), (57, .nilFunc), (58, .nilFunc), (59, .nilFunc), (60, (.slice none 0 0)), (61, .nilFunc), (62, .nilFunc), (63, .nilFunc), (64, .nilFunc), (65, .nilFunc), (66, .nilFunc), (67, .nilFunc), (68, (.slice none 0 0)), (69, .nilFunc), (70, .nilFunc), (71, .nilFunc), (72, .nilFunc), (73, .nilFunc), (74, .nilFunc), (75, (.pointer none)), (76, (.agg #[(.pointer none), (.slice none 0 0)])), (77, (.agg #[(.pointer none), (.slice none 0 0)])), (78, .nilFunc), (79, .nilIface), (80, .nilIface), (82, .nilFunc), (83, .nilFunc), (84, .nilFunc), (85, .nilFunc), (86, (.pointer none)), (87, (.agg #[(.slice none 0 0), (.bool false)])), (88, (.agg #[(.slice none 0 0), (.bool false)])), (89, .nilFunc), (90, .nilFunc), (92, .nilFunc), (93, (.slice none 0 0)), (94, (.slice none 0 0)), (95, (.agg #[(.slice none 0 0), (.slice none 0 0)])), (96, (.agg #[(.slice none 0 0), (.slice none 0 0)])), (98, .nilFunc), (99, .nilFunc), (101, .nilFunc), (103, .nilFunc), (105, .nilFunc), (106, (.slice none 0 0)), (107, .nilFunc), (108, (.agg #[(.string ⟨#[]⟩), (.string ⟨#[]⟩), (.string ⟨#[]⟩), (.slice none 0 0), (.slice none 0 0), (.string ⟨#[]⟩), (.string ⟨#[]⟩)])), (109, (.agg #[(.string ⟨#[]⟩), (.string ⟨#[]⟩), (.string ⟨#[]⟩), (.slice none 0 0), (.slice none 0 0), (.string ⟨#[]⟩), (.string ⟨#[]⟩)])), (110, .nilFunc), (111, .nilFunc), (112, (.pointer none)), (113, (.map none)), (114, .nilFunc), (115, (.agg #[(.string ⟨#[]⟩), (.int .i64 0), (.map none), (.slice none 0 0), (.bool false)])), (116, (.agg #[(.string ⟨#[]⟩), (.int .i64 0), (.map none), (.slice none 0 0), (.bool false)])), (117, .nilFunc), (118, (.slice none 0 0)), (120, .nilFunc), (121, (.pointer none)), (123, .nilFunc), (124, (.map none)), (125, (.agg #[(.slice none 0 0), (.slice none 0 0), (.slice none 0 0), (.map none), (.int .i64 0), (.int .i64 0), (.int .i64 0), (.map none)])), (126, (.agg #[(.slice none 0 0), (.slice none 0 0), (.slice none 0 0), (.map none), (.int .i64 0), (.int .i64 0), (.int .i64 0), (.map none)])), (127, .nilFunc), (128, .nilFunc), (129, .nilFunc), (130, (.slice none 0 0)), (132, .nilFunc), (133, (.agg #[(.slice none 0 0), (.int .i64 0), (.int .i64 0), (.int .i64 0)])), (134, (.agg #[(.slice none 0 0), (.int .i64 0), (.int .i64 0), (.int .i64 0)])), (135, .nilFunc), (136, (.slice none 0 0)), (137, (.agg #[(.int .i64 0), (.int .i64 0)])), (138, .nilFunc), (139, .nilFunc), (140, .nilFunc), (141, .nilFunc), (142, .nilFunc), (143, .nilFunc), (144, (.pointer none)), (145, .nilFunc), (146, .nilFunc), (147, .nilFunc), (148, .nilFunc), (149, .nilFunc), (150, .nilFunc), (151, .nilFunc), (152, .nilFunc), (153, (.slice none 0 0)), (154, (.slice none 0 0)), (155, (.slice none 0 0)), (156, (.agg #[(.string ⟨#[]⟩), (.string ⟨#[]⟩), (.string ⟨#[]⟩), (.bool false), (.slice none 0 0), (.slice none 0 0), (.slice none 0 0), (.bool false), (.slice none 0 0), (.slice none 0 0), (.slice none 0 0), (.string ⟨#[]⟩)])), (157, (.agg #[(.string ⟨#[]⟩), (.string ⟨#[]⟩), (.string ⟨#[]⟩), (.bool false), (.slice none 0 0), (.slice none 0 0), (.slice none 0 0), (.bool false), (.slice none 0 0), (.slice none 0 0), (.slice none 0 0), (.string ⟨#[]⟩)])), (158, .nilFunc), (159, .nilFunc), (160, .nilFunc), (161, (.pointer none)), (162, .nilFunc), (163, .nilFunc), (164, (.agg #[(.string ⟨#[]⟩), (.string ⟨#[]⟩)])), (165, (.agg #[(.string ⟨#[]⟩), (.string ⟨#[]⟩)])), (166, .nilFunc), (168, .nilFunc), (169, (.agg #[(.int .i64 0), (.int .i64 0), (.int .i64 0), (.string ⟨#[]⟩)])), (170, (.agg #[(.int .i64 0), (.int .i64 0), (.int .i64 0), (.string ⟨#[]⟩)])), (171, .nilFunc), (172, .nilFunc), (173, (.agg #[(.int .i64 0), .nilFunc])), (174, (.agg #[(.int .i64 0), .nilFunc])), (175, (.slice none 0 0)), (176, .nilFunc), (177, (.pointer none)), (178, (.pointer none)), (179, (.agg #[(.slice none 0 0), (.pointer none)])), (180, (.agg #[(.slice none 0 0), (.pointer none)])), (181, (.agg #[(.int .i64 0), (.int .i64 0), (.bool false), (.pointer none)])), (182, (.agg #[(.int .i64 0), (.int .i64 0), (.bool false), (.pointer none)])), (184, .nilFunc), (185, (.slice none 0 0)), (186, .nilFunc), (187, (.map none)), (188, (.map none)), (190, .nilFunc), (191, .nilFunc), (192, .nilFunc), (193, .nilFunc), (194, .nilFunc), (195, (.int .u64 0)), (196, .nilFunc), (197, .nilFunc), (198, .nilFunc), (200, .nilFunc), (201, .nilFunc), (202, (.pointer none)), (204, .nilFunc), (205, .nilFunc), (206, .nilFunc), (207, .nilFunc), (208, (.agg #[(.string ⟨#[]⟩), (.string ⟨#[]⟩), (.string ⟨#[]⟩), (.slice none 0 0), (.slice none 0 0), (.string ⟨#[]⟩), (.string ⟨#[]⟩)])), (209, .nilFunc), (210, .nilFunc), (211, (.agg #[(.map none)])), (212, (.agg #[(.map none)])), (213, (.slice none 0 0)), (214, .nilFunc), (215, (.agg #[(.string ⟨#[]⟩), (.int .i64 0), (.string ⟨#[]⟩), (.int .i64 0), (.int .i64 0), (.int .i64 0), (.slice none 0 0), (.int .i64 0), (.string ⟨#[]⟩), (.int .i64 0), (.int .i64 0), (.int .i64 0), (.slice none 0 0), (.bool false)])), (216, (.agg #[(.string ⟨#[]⟩), (.int .i64 0), (.string ⟨#[]⟩), (.int .i64 0), (.int .i64 0), (.int .i64 0), (.slice none 0 0), (.int .i64 0), (.string ⟨#[]⟩), (.int .i64 0), (.int .i64 0), (.int .i64 0), (.slice none 0 0), (.bool false)])), (217, (.agg #[(.int .i64 0), (.string ⟨#[]⟩), (.int .i64 0), (.int .i64 0), (.int .i64 0), (.slice none 0 0), (.int .i64 0), (.string ⟨#[]⟩), (.int .i64 0), (.int .i64 0), (.int .i64 0), (.slice none 0 0)])), (218, (.agg #[(.int .i64 0), (.string ⟨#[]⟩), (.int .i64 0), (.int .i64 0), (.int .i64 0), (.slice none 0 0), (.int .i64 0), (.string ⟨#[]⟩), (.int .i64 0), (.int .i64 0), (.int .i64 0), (.slice none 0 0)])), (219, (.slice none 0 0)), (220, .nilFunc), (221, .nilFunc), (222, (.agg #[(.bool false), (.slice none 0 0), (.slice none 0 0), (.slice none 0 0), (.slice none 0 0), (.slice none 0 0), (.int .i64 0)])), (223, (.agg #[(.bool false), (.slice none 0 0), (.slice none 0 0), (.slice none 0 0), (.slice none 0 0), (.slice none 0 0), (.int .i64 0)])), (224, .nilFunc), (225, .nilFunc), (226, .nilFunc), (227, .nilFunc), (228, .nilFunc), (229, .nilFunc), (231, .nilFunc), (232, .nilFunc), (233, .nilFunc), (234, .nilFunc), (235, .nilFunc), (236, .nilFunc), (237, .nilFunc), (238, (.pointer none)), (240, .nilFunc), (241, .nilFunc), (242, .nilFunc), (243, .nilFunc), (244, .nilFunc), (245, .nilFunc), (246, (.agg #[])), (247, (.agg #[])), (249, .nilFunc), (250, (.int .i64 0)), (252, .nilFunc), (253, .nilFunc), (254, .nilFunc), (255, .nilFunc), (256, .nilFunc), (257, (.int .u32 0)), (258, .nilFunc), (259, (.int .u64 0)), (260, .nilFunc), (261, .nilFunc), (262, .nilFunc), (263, .nilFunc), (264, .nilFunc), (265, .nilFunc), (266, .nilFunc), (267, .nilFunc), (268, .nilFunc), (269, .nilFunc), (270, (.map none)), (271, .nilFunc), (272, .nilFunc), (273, .nilFunc), (274, .nilFunc), (275, .nilFunc), (276, .nilFunc), (277, .nilFunc), (278, .nilFunc), (279, (.slice none 0 0)), (280, (.agg #[(.int .i64 0), (.int .i64 0)])), (281, (.agg #[(.int .i64 0), (.int .i64 0)])), (282, .nilFunc), (283, (.pointer none)), (284, .nilFunc), (285, (.agg #[(.slice none 0 0), (.slice none 0 0)])), (286, (.agg #[(.slice none 0 0), (.slice none 0 0)])), (288, .nilFunc), (289, .nilFunc), (291, .nilFunc), (292, .nilFunc), (293, .nilFunc), (294, .nilFunc), (295, (.int .u64 0)), (296, .nilFunc), (297, .nilFunc), (298, .nilFunc), (299, (.pointer none)), (300, .nilFunc), (301, .nilFunc), (303, .nilFunc), (304, .nilFunc), (305, .nilFunc), (306, .nilFunc), (307, (.pointer none)), (308, .nilFunc), (309, (.slice none 0 0)), (310, (.slice none 0 0)), (311, (.agg #[(.slice none 0 0), (.slice none 0 0), (.int .i64 0)])), (312, (.agg #[(.slice none 0 0), (.slice none 0 0), (.int .i64 0)])), (313, (.int .u16 0)), (314, (.agg #[(.int .u16 0), (.int .u16 0), (.int .u16 0)])), (315, (.agg #[(.int .u16 0), (.int .u16 0), (.int .u16 0)])), (316, .nilFunc), (317, (.agg #[(.int .u32 0), (.int .u32 0), (.int .u32 0)])), (318, (.agg #[(.int .u32 0), (.int .u32 0), (.int .u32 0)])), (319, .nilFunc), (321, .nilFunc), (322, (.agg #[(.string ⟨#[]⟩), (.bool false), (.int .i64 0), (.string ⟨#[]⟩), (.string ⟨#[]⟩), (.int .i64 0), (.int .i64 0), (.string ⟨#[]⟩), (.string ⟨#[]⟩), (.int .i64 0), (.bool false), (.bool false)])), (323, (.agg #[(.string ⟨#[]⟩), (.bool false), (.int .i64 0), (.string ⟨#[]⟩), (.string ⟨#[]⟩), (.int .i64 0), (.int .i64 0), (.string ⟨#[]⟩), (.string ⟨#[]⟩), (.int .i64 0), (.bool false), (.bool false)])), (324, .nilFunc), (325, .nilFunc), (326, (.map none)), (327, .nilFunc), (328, .nilFunc), (329, (.pointer none)), (330, .nilFunc), (331, (.slice none 0 0)), (332, (.pointer none)), (333, (.pointer none)), (334, .nilFunc), (335, .nilFunc), (336, .nilFunc), (337, .nilFunc), (338, .nilFunc), (339, (.agg #[(.int .u8 0), (.int .u8 0)])), (340, (.agg #[(.int .u8 0), (.int .u8 0)])), (341, (.agg #[(.int .u8 0), (.int .u8 0), (.int .u8 0), (.int .u8 0), (.int .u8 0), (.int .u8 0), (.int .u8 0), (.int .u8 0), (.int .u8 0), (.int .u8 0), (.int .u8 0), (.int .u8 0), (.int .u8 0), (.int .u8 0), (.int .u8 0), (.int .u8 0), (.int .u8 0), (.int .u8 0), (.int .u8 0), (.int .u8 0), (.int .u8 0), (.int .u8 0), (.int .u8 0), (.int .u8 0), (.int .u8 0), (.int .u8 0), (.int .u8 0), (.int .u8 0), (.int .u8 0), (.int .u8 0), (.int .u8 0), (.int .u8 0)])), (343, .nilFunc), (344, (.agg #[(.slice none 0 0), (.slice none 0 0), (.slice none 0 0), (.slice none 0 0), (.slice none 0 0), (.slice none 0 0), (.slice none 0 0), (.slice none 0 0), (.slice none 0 0), (.slice none 0 0)])), (345, .nilFunc), (346, .nilFunc), (347, .nilFunc), (348, .nilFunc), (350, .nilFunc), (353, (.agg #[])), (354, (.agg #[])), (358, .nilFunc), (363, (.agg #[(.bool false), (.bool false), (.bool false), (.slice none 0 0), (.int .i64 0), (.string ⟨#[]⟩), (.int .i64 0), (.int .i64 0), (.int .i64 0), (.slice none 0 0)])), (364, (.agg #[(.bool false), (.bool false), (.bool false), (.slice none 0 0), (.int .i64 0), (.string ⟨#[]⟩), (.int .i64 0), (.int .i64 0), (.int .i64 0), (.slice none 0 0)])), (365, (.agg #[(.int .i64 0), (.slice none 0 0)])), (366, (.agg #[(.int .i64 0), (.slice none 0 0)])), (367, (.agg #[(.string ⟨#[]⟩), (.string ⟨#[]⟩)])), (368, (.agg #[(.string ⟨#[]⟩), (.string ⟨#[]⟩)]))]
def ti_flds : List (Nat × List (Nat × Nat)) := [(13, [(0, 9), (1, 12)]), (19, [(0, 17)]), (25, [(0, 3), (1, 9), (2, 3), (3, 3), (4, 3), (5, 24)]), (26, [(0, 3), (1, 9), (2, 3), (3, 3), (4, 3), (5, 24)]), (31, [(0, 3), (1, 9), (2, 9), (3, 3)]), (32, [(0, 3), (1, 9), (2, 9), (3, 3)]), (42, [(0, 3), (1, 3), (2, 9)]), (43, [(0, 3), (1, 3), (2, 9)]), (76, [(0, 75), (1, 60)]), (77, [(0, 75), (1, 60)]), (87, [(0, 37), (1, 4)]), (88, [(0, 37), (1, 4)]), (95, [(0, 93), (1, 94)]), (96, [(0, 93), (1, 94)]), (108, [(0, 9), (1, 9), (2, 9), (3, 37), (4, 37), (5, 9), (6, 9)]), (109, [(0, 9), (1, 9), (2, 9), (3, 37), (4, 37), (5, 9), (6, 9)]), (115, [(0, 9), (1, 3), (2, 113), (3, 37), (4, 4)]), (116, [(0, 9), (1, 3), (2, 113), (3, 37), (4, 4)]), (125, [(0, 22), (1, 23), (2, 23), (3, 113), (4, 3), (5, 3), (6, 3), (7, 124)]), (126, [(0, 22), (1, 23), (2, 23), (3, 113), (4, 3), (5, 3), (6, 3), (7, 124)]), (133, [(0, 23), (1, 3), (2, 3), (3, 3)]), (134, [(0, 23), (1, 3), (2, 3), (3, 3)]), (156, [(0, 9), (1, 9), (2, 9), (3, 4), (4, 93), (5, 22), (6, 68), (7, 4), (8, 153), (9, 154), (10, 155), (11, 9)]), (157, [(0, 9), (1, 9), (2, 9), (3, 4), (4, 93), (5, 22), (6, 68), (7, 4), (8, 153), (9, 154), (10, 155), (11, 9)]), (164, [(0, 9), (1, 9)]), (165, [(0, 9), (1, 9)]), (169, [(0, 3), (1, 3), (2, 3), (3, 9)]), (170, [(0, 3), (1, 3), (2, 3), (3, 9)]), (173, [(0, 3), (1, 83)]), (174, [(0, 3), (1, 83)]), (179, [(0, 118), (1, 178)]), (180, [(0, 118), (1, 178)]), (181, [(0, 3), (1, 3), (2, 4), (3, 178)]), (182, [(0, 3), (1, 3), (2, 4), (3, 178)]), (208, [(0, 9), (1, 9), (2, 9), (3, 37), (4, 37), (5, 9), (6, 9)]), (211, [(0, 124)]), (212, [(0, 124)]), (215, [(0, 9), (1, 26), (7, 26), (13, 4)]), (216, [(0, 9), (1, 26), (7, 26), (13, 4)]), (217, [(0, 26), (6, 26)]), (218, [(0, 26), (6, 26)]), (222, [(0, 4), (1, 106), (2, 22), (3, 23), (4, 23), (5, 37), (6, 3)]), (223, [(0, 4), (1, 106), (2, 22), (3, 23), (4, 23), (5, 37), (6, 3)]), (246, []), (247, []), (280, [(0, 3), (1, 3)]), (281, [(0, 3), (1, 3)]), (285, [(0, 22), (1, 23)]), (286, [(0, 22), (1, 23)]), (311, [(0, 309), (1, 310), (2, 3)]), (312, [(0, 309), (1, 310), (2, 3)]), (314, [(0, 313), (1, 313), (2, 313)]), (315, [(0, 313), (1, 313), (2, 313)]), (317, [(0, 257), (1, 257), (2, 257)]), (318, [(0, 257), (1, 257), (2, 257)]), (322, [(0, 9), (1, 4), (2, 32), (6, 32), (10, 4), (11, 4)]), (323, [(0, 9), (1, 4), (2, 32), (6, 32), (10, 4), (11, 4)]), (339, [(0, 5), (1, 5)]), (340, [(0, 5), (1, 5)]), (354, [(0, 353)]), (363, [(0, 4), (1, 4), (2, 4), (3, 24), (4, 26)]), (364, [(0, 4), (1, 4), (2, 4), (3, 24), (4, 26)]), (365, [(0, 3), (1, 37)]), (366, [(0, 3), (1, 37)]), (367, [(0, 9), (1, 9)]), (368, [(0, 9), (1, 9)])]
def ti_plc : List (Nat × List (Nat × Nat)) := [(13, [(0, 1), (1, 1)]), (19, [(0, 1)]), (25, [(0, 1), (1, 1), (2, 1), (3, 1), (4, 1), (5, 1)]), (26, [(0, 1), (1, 1), (2, 1), (3, 1), (4, 1), (5, 1)]), (31, [(0, 1), (1, 1), (2, 1), (3, 1)]), (32, [(0, 1), (1, 1), (2, 1), (3, 1)]), (42, [(0, 1), (1, 1), (2, 1)]), (43, [(0, 1), (1, 1), (2, 1)]), (76, [(0, 1), (1, 1)]), (77, [(0, 1), (1, 1)]), (87, [(0, 1), (1, 1)]), (88, [(0, 1), (1, 1)]), (95, [(0, 1), (1, 1)]), (96, [(0, 1), (1, 1)]), (108, [(0, 1), (1, 1), (2, 1), (3, 1), (4, 1), (5, 1), (6, 1)]), (109, [(0, 1), (1, 1), (2, 1), (3, 1), (4, 1), (5, 1), (6, 1)]), (115, [(0, 1), (1, 1), (2, 1), (3, 1), (4, 1)]), (116, [(0, 1), (1, 1), (2, 1), (3, 1), (4, 1)]), (125, [(0, 1), (1, 1), (2, 1), (3, 1), (4, 1), (5, 1), (6, 1), (7, 1)]), (126, [(0, 1), (1, 1), (2, 1), (3, 1), (4, 1), (5, 1), (6, 1), (7, 1)]), (133, [(0, 1), (1, 1), (2, 1), (3, 1)]), (134, [(0, 1), (1, 1), (2, 1), (3, 1)]), (156, [(0, 1), (1, 1), (2, 1), (3, 1), (4, 1), (5, 1), (6, 1), (7, 1), (8, 1), (9, 1), (10, 1), (11, 1)]), (157, [(0, 1), (1, 1), (2, 1), (3, 1), (4, 1), (5, 1), (6, 1), (7, 1), (8, 1), (9, 1), (10, 1), (11, 1)]), (164, [(0, 1), (1, 1)]), (165, [(0, 1), (1, 1)]), (169, [(0, 1), (1, 1), (2, 1), (3, 1)]), (170, [(0, 1), (1, 1), (2, 1), (3, 1)]), (173, [(0, 1), (1, 1)]), (174, [(0, 1), (1, 1)]), (179, [(0, 1), (1, 1)]), (180, [(0, 1), (1, 1)]), (181, [(0, 1), (1, 1), (2, 1), (3, 1)]), (182, [(0, 1), (1, 1), (2, 1), (3, 1)]), (208, [(0, 1), (1, 1), (2, 1), (3, 1), (4, 1), (5, 1), (6, 1)]), (211, [(0, 1)]), (212, [(0, 1)]), (215, [(0, 1), (1, 6), (7, 6), (13, 1)]), (216, [(0, 1), (1, 6), (7, 6), (13, 1)]), (217, [(0, 6), (6, 6)]), (218, [(0, 6), (6, 6)]), (222, [(0, 1), (1, 1), (2, 1), (3, 1), (4, 1), (5, 1), (6, 1)]), (223, [(0, 1), (1, 1), (2, 1), (3, 1), (4, 1), (5, 1), (6, 1)]), (246, []), (247, []), (280, [(0, 1), (1, 1)]), (281, [(0, 1), (1, 1)]), (285, [(0, 1), (1, 1)]), (286, [(0, 1), (1, 1)]), (311, [(0, 1), (1, 1), (2, 1)]), (312, [(0, 1), (1, 1), (2, 1)]), (314, [(0, 1), (1, 1), (2, 1)]), (315, [(0, 1), (1, 1), (2, 1)]), (317, [(0, 1), (1, 1), (2, 1)]), (318, [(0, 1), (1, 1), (2, 1)]), (322, [(0, 1), (1, 1), (2, 4), (6, 4), (10, 1), (11, 1)]), (323, [(0, 1), (1, 1), (2, 4), (6, 4), (10, 1), (11, 1)]), (339, [(0, 1), (1, 1)]), (340, [(0, 1), (1, 1)]), (354, [(0, 0)]), (363, [(0, 1), (1, 1), (2, 1), (3, 1), (4, 6)]), (364, [(0, 1), (1, 1), (2, 1), (3, 1), (4, 6)]), (365, [(0, 1), (1, 1)]), (366, [(0, 1), (1, 1)]), (367, [(0, 1), (1, 1)]), (368, [(0, 1), (1, 1)])]
def ti_slc : List (Nat × Nat) := [(22, 32), (23, 3), (24, 26), (37, 9), (44, 43), (52, 109), (60, 5), (68, 4), (93, 208), (94, 216), (106, 165), (118, 134), (130, 136), (136, 137), (153, 364), (154, 366), (155, 368), (175, 174), (185, 127), (213, 23), (219, 218), (279, 281), (309, 315), (310, 318), (331, 37)]
def ti_apd : List (Nat × (Nat × Nat × Nat)) := [(22, (32, 4, 48)), (23, (3, 1, 8)), (24, (26, 6, 72)), (37, (9, 1, 16)), (44, (43, 3, 32)), (52, (109, 7, 128)), (60, (5, 1, 1)), (68, (4, 1, 1)), (93, (208, 7, 128)), (94, (216, 14, 168)), (106, (165, 2, 32)), (118, (134, 4, 48)), (130, (136, 1, 24)), (136, (137, 2, 16)), (153, (364, 10, 104)), (154, (366, 2, 32)), (155, (368, 2, 32)), (175, (174, 2, 16)), (185, (127, 1, 8)), (213, (23, 1, 24)), (219, (218, 12, 144)), (279, (281, 2, 16)), (309, (315, 3, 6)), (310, (318, 3, 12)), (331, (37, 1, 24))]
def ti_arr : List (Nat × (Nat × Nat)) := [(137, (2, 3)), (230, (256, 5)), (341, (16, 340)), (344, (10, 37)), (353, (0, 16))]
def ti_maps : List (Nat × (Option IntKind × Value)) := [(113, (none, (.bool false))), (124, (none, (.string ⟨#[]⟩))), (187, (some .i64, (.int .i64 0))), (188, (some .i64, (.bool false))), (270, (none, (.agg #[(.int .i64 0), (.string ⟨#[]⟩), (.int .i64 0), (.int .i64 0), (.int .i64 0), (.slice none 0 0)]))), (326, (none, (.int .i64 0)))]
def ti_bools : List (Nat × Unit) := [(4, ())]
def ti_strs : List (Nat × Unit) := [(9, ())]
def ti_ptrs : List (Nat × Unit) := [(15, ()), (75, ()), (86, ()), (112, ()), (121, ()), (144, ()), (161, ()), (177, ()), (178, ()), (202, ()), (238, ()), (283, ()), (299, ()), (307, ()), (329, ()), (332, ()), (333, ())]
def TI0 : TI := { size := ti_size, zero := ti_zero, flds := ti_flds, plc := ti_plc, slc := ti_slc, apd := ti_apd, arr := ti_arr, maps := ti_maps, bools := ti_bools, strs := ti_strs, ptrs := ti_ptrs }
theorem ti_ok : TIok Go.Proofs.Tryz.prog TI0 := ⟨by kernel_rfl, by kernel_rfl, by kernel_rfl, by kernel_rfl, by kernel_rfl, by kernel_rfl, by kernel_rfl, by kernel_rfl, by kernel_rfl, by kernel_rfl, by kernel_rfl, by kernel_rfl, by kernel_rfl⟩
end Go.Pv

namespace Go.Pv
open Go.Proofs
set_option linter.unusedVariables false
set_option linter.unusedSimpArgs false
set_option maxRecDepth 100000
set_option maxHeartbeats 1000000
theorem gindex_c (k : VK) (l : List ByteArray) (x : ByteArray) (hl : l.length ≤ 1000000) (s : St) : PCalls Tryz.prog 222 [strs k l, .lit (.string x)] s (fun r s' => s' = s ∧ r = .ret (.lit (.int .i64 (hasI l x)))) := by
 refine PCalls.of Tryz.func222 rfl (by rfl) (by simp [Tryz.ntmps222]) ?_
 refine pwC_sound _ _ _ _ ?_
 simp [Tryz.ntmps222]
 refine PW.loop (fun n e s' => ∃ j : Nat, j + n = l.length ∧ e 0 = strs k l ∧ e 1 = .lit (.string x) ∧ e 7 = .lit (.int .i64 (l.length : Nat)) ∧ e 8 = .lit (.int .i64 j) ∧ hasF (l.drop j) x j = hasI l x ∧ s' = s) l.length ⟨0, by omega, by simp, by simp, by simp, by simp, rfl, rfl⟩ ?_
 rintro n e s' ⟨j, hj, e0, e1, e7, e8, hs, rfl⟩
 refine pwC_sound _ _ _ _ ?_
 by_cases hlt : j < l.length
 ·have hlt' : (j : Int) < l.length := by omega
  have hg : l[j]? = some l[j] := List.getElem?_eq_getElem hlt
  have w1 : IntKind.i64.wrap ((j : Int) + 1) = ((j + 1 : Nat) : Int) := by rw [wrap_i64 (by omega) (by omega)]; omega
  rw [List.drop_eq_getElem_cons hlt, hasF] at hs
  by_cases hc : l[j] = x
  ·rw [if_pos hc] at hs
   simp [e0, e1, e7, e8, hlt, hlt', hg, hc, ← hs]
  ·have hc' : ¬ x = l[j] := fun h => hc h.symm
   rw [if_neg hc] at hs
   simp [e0, e1, e7, e8, hlt, hlt', hg, hc, hc', w1]
   exact ⟨n - 1, by omega, j + 1, by omega, by omega, hs⟩
 ·have hlt' : ¬ (j : Int) < l.length := by omega
  rw [List.drop_eq_nil_of_le (by omega)] at hs
  simp [e0, e1, e7, e8, hlt, hlt', ← hs, hasF]
theorem gcontains_c (k : VK) (l : List ByteArray) (x : ByteArray) (hl : l.length ≤ 1000000) (s : St) : PCalls Tryz.prog 146 [strs k l, .lit (.string x)] s (fun r s' => s' = s ∧ r = .ret (.lit (.bool (decide (0 ≤ hasI l x))))) := by
 refine PCalls.of Tryz.func146 rfl (by rfl) (by simp [Tryz.ntmps146]) ?_
 refine pwC_sound _ _ _ _ ?_
 simp [Tryz.ntmps146]
 refine (gindex_c k l x hl _).mono ?_
 rintro _ s1 ⟨hs1, rfl⟩
 rw [hs1]
 simp
theorem gsign_c (x : Tk) (u : ByteArray) (s : St) : PCalls Tryz.prog 279 [encT x, .lit (.string u)] s (fun r s' => s' = s ∧ r = .ret (.lit (.bool (decide (x.kind = 6 ∧ x.text = u))))) := by
 refine PCalls.of Tryz.func279 rfl (by rfl) (by simp [Tryz.ntmps279]) ?_
 refine pwC_sound _ _ _ _ ?_
 by_cases h6 : x.kind = 6
 ·simp [Tryz.ntmps279, h6]
  intro i1 h1
  exact sub_refl.upd_of h1
 ·simp [Tryz.ntmps279, h6]
  intro i1 h1
  exact sub_refl.upd_of h1
end Go.Pv

namespace Go.Pv
open Go.Proofs
set_option linter.unusedVariables false
set_option linter.unusedSimpArgs false
set_option maxRecDepth 100000
set_option maxHeartbeats 1000000
def seenAt (l : List Tk) (v : List Int) (i : Int) : Option Tk :=
 if i < 0 ∨ (v.length : Int) ≤ i then none else match l[(v.getD i.toNat 0).toNat]? with
 | some t => if t.kind = 0 then none else some t
 | none => none
@[reducible] def zeroT : Tk := ⟨0, ⟨#[]⟩, ⟨#[]⟩, 0⟩
def seenT (l : List Tk) (v : List Int) (i : Int) : Tk × Bool := match seenAt l v i with
 | some t => (t, true)
 | none => (zeroT, false)
@[reducible] def viewV (k kv : VK) (l : List Tk) (v : List Int) : PV := .agg [toks k l, ints kv v]
theorem vtoken_c (k kv : VK) (l : List Tk) (v : List Int) (i : Int) (hv : ∀ p ∈ v, 0 ≤ p ∧ p < l.length) (hl : v.length ≤ 1000000) (s : St) : PCalls Tryz.prog 278 [viewV k kv l v, .lit (.int .i64 i)] s (fun r s' => s' = s ∧ r = .ret (.tup [encT (seenT l v i).1, .lit (.bool (seenT l v i).2)])) := by
 refine PCalls.of Tryz.func278 rfl (by rfl) (by simp [Tryz.ntmps278]) ?_
 refine pwC_sound _ _ _ _ ?_
 refine pwC_cut fun K hK => ?_
 simp [Tryz.ntmps278]
 intro i2 h2 i4 h40 h41 h4
 refine hK _ _ ?_
 clear hK K
 generalize hE : Env.put _ _ _ = E
 have g1 : E 1 = .lit (.int .i64 i) := by rw [← hE]; simp
 have g2 : E 2 = .pt i2 0 0 := by rw [← hE]; simp
 have g4 : E 4 = .pt i4 0 0 := by rw [← hE]; simp
 clear hE
 generalize hσ : St.upd (St.upd _ _ _) _ _ = σ
 have b2 : σ i2 = some (.row 286 2 [[toks k l, ints kv v]]) := by rw [← hσ, St.upd_ne _ _ h41]; simp
 have b4 : σ i4 = some (.row 32 4 [encTC zeroT]) := by rw [← hσ]; simp
 have hs : s.sub σ := by rw [← hσ]; exact (sub_refl.upd_of h2).upd_of h4
 clear hσ
 have s4 := h4
 by_cases hi0 : i < 0
 ·have hR : seenT l v i = (zeroT, false) := by unfold seenT seenAt; rw [if_pos (.inl hi0)]
  rw [hR]
  refine pwC_cut fun K hK => ?_
  clear hK
  simp
  refine PW.drawn (fun i => 0) [0, 1, 2, 3, 4, 5, 6, 7, 8, 9, 10, 12, 14, 11, 13, 15, 16, 17, 18, 19, 20, 21] mixed_ (fun _ _ _ _ h => h) (by kernel_rfl) ?_
  simp [g1, g2, g4, b2, b4, hi0]
  exact hs.upd_of s4
 by_cases hil : (v.length : Int) ≤ i
 ·have hR : seenT l v i = (zeroT, false) := by unfold seenT seenAt; rw [if_pos (.inr hil)]
  rw [hR]
  refine pwC_cut fun K hK => ?_
  clear hK
  simp
  refine PW.drawn (fun i => 0) [0, 1, 2, 3, 4, 5, 6, 7, 8, 9, 10, 12, 14, 11, 13, 15, 16, 17, 18, 19, 20, 21] mixed_ (fun _ _ _ _ h => h) (by kernel_rfl) ?_
  simp [g1, g2, g4, b2, b4, hi0, hil]
  exact hs.upd_of s4
 obtain ⟨j, rfl⟩ : ∃ j : Nat, i = j := ⟨i.toNat, by omega⟩
 have hj : j < v.length := by omega
 have hgv : v[j]? = some v[j] := List.getElem?_eq_getElem hj
 obtain ⟨p, hp⟩ : ∃ p, v[j] = p := ⟨_, rfl⟩
 have hpv := hv p (hp ▸ List.getElem_mem _)
 rw [hp] at hgv
 obtain ⟨q, rfl⟩ : ∃ q : Nat, p = q := ⟨p.toNat, by omega⟩
 have hq : q < l.length := by omega
 have hgl : l[q]? = some l[q] := List.getElem?_eq_getElem hq
 obtain ⟨t, ht⟩ : ∃ t, l[q] = t := ⟨_, rfl⟩
 rw [ht] at hgl
 have hS : seenAt l v j = if t.kind = 0 then none else some t := by
  unfold seenAt
  rw [if_neg (by omega)]
  simp [List.getD, hgv, hgl]
 have hvn : ¬ v.length ≤ j := by omega
 refine pwC_cut fun K hK => ?_
 simp
 refine PW.drawn (fun i => 0) [0, 1, 2, 3, 4, 5, 6, 7, 8, 9, 10, 12, 14, 11, 13, 15, 16, 17, 18, 19, 20, 21] mixed_ (fun _ _ _ _ h => h) (by kernel_rfl) ?_
 by_cases hk : t.kind = 0
 ·have hR : seenT l v j = (zeroT, false) := by unfold seenT; rw [hS, if_pos hk]
  rw [hR]
  clear hK
  simp [g1, g2, g4, b2, b4, hi0, hvn, hj, hp, hq, ht, hgv, hgl, hk]
  exact hs.upd_of s4
 ·have hR : seenT l v j = (t, true) := by unfold seenT; rw [hS, if_neg hk]
  simp [g1, g2, g4, b2, b4, hi0, hvn, hj, hp, hq, ht, hgv, hgl, hk]
  refine hK _ _ ?_
  clear hK K
  rw [hR]
  simp
  refine PW.drawn (fun i => 0) [0, 2, 4, 1, 3, 5, 6, 7, 8, 9, 10] mixed_ (fun _ _ _ _ h => h) (by kernel_rfl) ?_
  simp [g1, g2, g4, b2, b4, hj, hp, hq, ht, hgv, hgl, h40, h41]
  exact hs.upd_of s4
end Go.Pv

namespace Go.Pv
open Go.Proofs
set_option linter.unusedVariables false
set_option linter.unusedSimpArgs false
set_option maxRecDepth 100000
set_option maxHeartbeats 1000000
def isS (t : Tk) (u : ByteArray) : Bool := decide (t.kind = 6 ∧ t.text = u)
def deepT (t : Tk) (d : Int) : Int := if isS t ⟨#[40]⟩ = true then d + 1 else if isS t ⟨#[41]⟩ = true then d - 1 else d
def callF (l : List Tk) (v : List Int) (k : Nat) : Nat → Nat → Int → Int × Bool
 | 0, _, _ => ((k : Int) + 1, false)
 | n + 1, i, d => if deepT (seenT l v i).1 d = 0 then ((i : Int) + 1, true) else callF l v k n (i + 1) (deepT (seenT l v i).1 d)
def callT (l : List Tk) (v : List Int) (k : Nat) : Int × Bool :=
 if (seenT l v ((k : Int) + 1)).2 = true ∧ isS (seenT l v ((k : Int) + 1)).1 ⟨#[40]⟩ = true then callF l v k (v.length - (k + 1)) (k + 1) 0 else ((k : Int) + 1, false)
def CLI (l : List Tk) (v : List Int) (k0 kv : VK) (k i2 : Nat) (base : St) (n : Nat) (e : Env) (s' : St) : Prop :=
 ∃ (i : Nat) (d : Int), i + n = v.length ∧ e 1 = .lit (.int .i64 k) ∧ e 2 = .pt i2 0 0 ∧ e 8 = .lit (.int .i64 d) ∧ e 9 = .lit (.int .i64 i) ∧ -(i : Int) ≤ d ∧ d ≤ i ∧ callF l v k n i d = callF l v k (v.length - (k + 1)) (k + 1) 0 ∧ base.sub s' ∧ s' i2 = some (.row 286 2 [[toks k0 l, ints kv v]])
theorem vcall_c (k0 kv : VK) (l : List Tk) (v : List Int) (k : Nat) (hv : ∀ p ∈ v, 0 ≤ p ∧ p < l.length) (hl : v.length ≤ 1000000) (hk : k < v.length) (s : St) : PCalls Tryz.prog 246 [viewV k0 kv l v, .lit (.int .i64 k)] s (fun r s' => s' = s ∧ r = .ret (.tup [.lit (.int .i64 (callT l v k).1), .lit (.bool (callT l v k).2)])) := by
 obtain ⟨C, hC⟩ : ∃ C, callT l v k = C := ⟨_, rfl⟩
 rw [hC]
 unfold callT at hC
 have w0 : IntKind.i64.wrap ((k : Int) + 1) = (k : Int) + 1 := wrap_i64 (by omega) (by omega)
 refine PCalls.of Tryz.func246 rfl (by rfl) (by simp [Tryz.ntmps246]) ?_
 refine pwC_sound _ _ _ _ ?_
 refine pwC_cut fun K hK => ?_
 simp [Tryz.ntmps246]
 intro i2 h2
 refine hK _ _ ?_
 clear hK K
 have b2 : (s.upd i2 (some (.row 286 2 [[toks k0 l, ints kv v]]))) i2 = some (.row 286 2 [[toks k0 l, ints kv v]]) := by simp
 generalize hσ : St.upd s i2 _ = σ at b2 ⊢
 have hs : s.sub σ := by rw [← hσ]; exact sub_refl.upd_of h2
 clear hσ
 refine pwC_cut fun K hK => ?_
 simp [b2, w0]
 refine (vtoken_c k0 kv l v ((k : Int) + 1) hv hl _).mono ?_
 rintro _ s1 ⟨hs1, rfl⟩
 rw [hs1]
 clear hs1 s1
 obtain ⟨T, hT⟩ : ∃ T, seenT l v ((k : Int) + 1) = T := ⟨_, rfl⟩
 rw [hT] at hC ⊢
 simp
 intro i6 h6
 have n2 : ¬ i2 = i6 := fun e => by subst e; rw [show σ i2 = none from h6] at b2; cases b2
 generalize hσ : St.upd σ _ _ = σ1
 have c2 : σ1 i2 = some (.row 286 2 [[toks k0 l, ints kv v]]) := by rw [← hσ, St.upd_ne _ _ n2]; exact b2
 have hs1 : s.sub σ1 := by rw [← hσ]; exact hs.upd_of (hs.fresh h6)
 clear hσ b2 hs
 cases hT2 : T.2 with
 | false =>
  rw [hT2] at hC
  rw [if_neg (by simp)] at hC
  subst hC
  clear hK
  simp [w0]
  exact hs1
 | true =>
  rw [hT2] at hC
  simp
  refine (gsign_c T.1 _ _).mono ?_
  rintro _ s1 ⟨hs1', rfl⟩
  rw [hs1']
  clear hs1' s1
  rw [show decide (T.1.kind = 6 ∧ T.1.text = ⟨#[40]⟩) = isS T.1 ⟨#[40]⟩ from rfl]
  cases hTs : isS T.1 ⟨#[40]⟩ with
  | false =>
   rw [hTs, if_neg (by simp)] at hC
   subst hC
   clear hK
   simp [w0]
   exact hs1
  | true =>
   rw [hTs, if_pos (by simp)] at hC
   simp
   refine hK _ _ ?_
   clear hK K
   generalize hE : Env.put _ _ _ = E
   have g1 : E 1 = .lit (.int .i64 k) := by rw [← hE]; simp
   have g2 : E 2 = .pt i2 0 0 := by rw [← hE]; simp
   clear hE
   refine pwC_cut fun K hK => ?_
   simp
   refine hK _ _ ?_
   clear hK K
   refine pwC_cut fun K hK => ?_
   refine pwC_cut fun K2 hK2 => ?_
   simp [g1, w0]
   refine hK2 _ _ ?_
   clear hK2 K2
   refine PW.loop (fun n e s' => CLI l v k0 kv k i2 s n e s') (v.length - (k + 1)) ⟨k + 1, 0, by omega, by simp [g1], by simp [g2], by simp, by simp, by omega, by omega, rfl, hs1, c2⟩ ?_
   rintro n e s' ⟨i, d, hi, e1, e2, e8, e9, hd1, hd2, hgo, hBs, d2⟩
   refine pwC_sound _ _ _ _ ?_
   by_cases hlt : i < v.length
   ·have hlt' : (i : Int) < v.length := by omega
    obtain ⟨n, rfl⟩ : ∃ m, n = m + 1 := ⟨n - 1, by omega⟩
    rw [callF] at hgo
    have w1 : IntKind.i64.wrap ((i : Int) + 1) = ((i + 1 : Nat) : Int) := by rw [wrap_i64 (by omega) (by omega)]; omega
    have wp : IntKind.i64.wrap (d + 1) = d + 1 := wrap_i64 (by omega) (by omega)
    have wm : IntKind.i64.wrap (d - 1) = d - 1 := wrap_i64 (by omega) (by omega)
    clear hK
    refine pwC_cut fun K hK => ?_
    simp [e9, e2, d2, hlt, hlt']
    refine hK _ _ ?_
    clear hK K
    refine pwC_cut fun K hK => ?_
    refine pwC_cut fun K2 hK2 => ?_
    simp [e9, e2, d2]
    refine (vtoken_c k0 kv l v (i : Int) hv hl _).mono ?_
    rintro _ s1 ⟨hs1', rfl⟩
    rw [hs1']
    clear hs1' s1
    obtain ⟨U, hU⟩ : ∃ U, seenT l v (i : Int) = U := ⟨_, rfl⟩
    rw [hU] at hgo ⊢
    simp
    intro i10 h10
    refine hK2 _ _ ?_
    clear hK2 K2
    have n10 : ¬ i2 = i10 := fun e => by subst e; rw [show s' i2 = none from h10] at d2; cases d2
    generalize hE : Env.put _ _ _ = F
    have f1 : F 1 = .lit (.int .i64 k) := by rw [← hE]; simp [e1]
    have f2 : F 2 = .pt i2 0 0 := by rw [← hE]; simp [e2]
    have f8 : F 8 = .lit (.int .i64 d) := by rw [← hE]; simp [e8]
    have f9 : F 9 = .lit (.int .i64 i) := by rw [← hE]; simp [e9]
    have f10 : F 10 = .pt i10 0 0 := by rw [← hE]; simp
    clear hE
    generalize hσ : St.upd s' _ _ = σ2
    have q2 : σ2 i2 = some (.row 286 2 [[toks k0 l, ints kv v]]) := by rw [← hσ, St.upd_ne _ _ n10]; exact d2
    have q10 : σ2 i10 = some (.row 32 4 [encTC U.1]) := by rw [← hσ]; simp
    have hBs2 : s.sub σ2 := by rw [← hσ]; exact hBs.upd_of (hBs.fresh h10)
    clear hσ
    refine pwC_cut fun K2 hK2 => ?_
    have tail : ∀ F : Env, F 1 = .lit (.int .i64 k) → F 2 = .pt i2 0 0 → F 8 = .lit (.int .i64 (deepT U.1 d)) → F 9 = .lit (.int .i64 i) → K2 F σ2 := by
     intro F f1 f2 f8 f9
     refine hK2 _ _ ?_
     clear hK2 K2
     have hdd : -(i : Int) - 1 ≤ deepT U.1 d ∧ deepT U.1 d ≤ i + 1 := by unfold deepT; split <;> (try split) <;> omega
     by_cases h0 : deepT U.1 d = 0
     ·rw [if_pos h0] at hgo
      have hC' : C = ((i : Int) + 1, true) := by rw [← hC, ← hgo]
      rw [hC']
      rw [h0] at f8
      clear hK
      simp [f8, f9, w1]
      exact hBs2
     ·rw [if_neg h0] at hgo
      simp [f8, f9, h0]
      refine hK _ _ ?_
      clear hK K
      simp [f9, w1]
      exact ⟨n, by omega, i + 1, deepT U.1 d, by omega, by simp [f1], by simp [f2], by simp [f8], by simp, by omega, by omega, hgo, hBs2, q2⟩
    clear hK2
    simp [f10, q10]
    refine (gsign_c U.1 _ _).mono ?_
    rintro _ s1 ⟨hs1', rfl⟩
    rw [hs1']
    clear hs1' s1
    rw [show decide (U.1.kind = 6 ∧ U.1.text = ⟨#[40]⟩) = isS U.1 ⟨#[40]⟩ from rfl]
    cases hU1 : isS U.1 ⟨#[40]⟩ with
    | true =>
     simp [f8, wp]
     exact tail _ (by simp [f1]) (by simp [f2]) (by simp [deepT, hU1]) (by simp [f9])
    | false =>
     simp [f10, q10]
     refine (gsign_c U.1 _ _).mono ?_
     rintro _ s1 ⟨hs1', rfl⟩
     rw [hs1']
     clear hs1' s1
     rw [show decide (U.1.kind = 6 ∧ U.1.text = ⟨#[41]⟩) = isS U.1 ⟨#[41]⟩ from rfl]
     cases hU2 : isS U.1 ⟨#[41]⟩ with
     | true =>
      simp [f8, wm]
      exact tail _ (by simp [f1]) (by simp [f2]) (by simp [deepT, hU1, hU2]) (by simp [f9])
     | false =>
      simp
      exact tail _ (by simp [f1]) (by simp [f2]) (by simp [deepT, hU1, hU2, f8]) (by simp [f9])
   ·have hlt' : ¬ (i : Int) < v.length := by omega
    have hn0 : n = 0 := by omega
    subst hn0
    have hC' : C = ((k : Int) + 1, false) := by rw [← hC, ← hgo]; rfl
    simp [e9, e2, d2, hlt, hlt']
    refine hK _ _ ?_
    clear hK K
    rw [hC']
    simp [e1, w0]
    exact hBs
end Go.Pv

namespace Go.Pv
open Go.Proofs
set_option linter.unusedVariables false
set_option linter.unusedSimpArgs false
set_option maxRecDepth 100000
set_option maxHeartbeats 1000000
def amongB (t : Tk) (ws : List ByteArray) : Bool := (decide (t.kind = 6) || decide (t.kind = 2)) && decide (0 ≤ hasI ws t.text)
theorem among_c (k : VK) (t : Tk) (ws : List ByteArray) (hl : ws.length ≤ 1000000) (s : St) : PCalls Tryz.prog 301 [encT t, strs k ws] s (fun r s' => s' = s ∧ r = .ret (.lit (.bool (amongB t ws)))) := by
 refine PCalls.of Tryz.func301 rfl (by rfl) (by simp [Tryz.ntmps301]) ?_
 refine pwC_sound _ _ _ _ ?_
 by_cases h6 : t.kind = 6
 ·simp [Tryz.ntmps301, h6, amongB]
  intro i1 h1
  refine (gcontains_c k ws t.text hl _).mono ?_
  rintro _ s1 ⟨hs1, rfl⟩
  rw [hs1]
  clear hs1 s1
  simp
  exact ⟨_, sub_refl.upd_of h1, rfl, fun _ => .inl h6⟩
 ·by_cases h2 : t.kind = 2
  ·simp [Tryz.ntmps301, h6, h2, amongB]
   intro i1 h1
   refine (gcontains_c k ws t.text hl _).mono ?_
   rintro _ s1 ⟨hs1, rfl⟩
   rw [hs1]
   clear hs1 s1
   simp
   exact ⟨_, sub_refl.upd_of h1, rfl, fun _ => .inr h2⟩
  ·simp [Tryz.ntmps301, h6, h2, amongB]
   intro i1 h1
   exact sub_refl.upd_of h1
def typesL : List ByteArray := [⟨#[99, 104, 97, 114]⟩, ⟨#[99, 111, 110, 115, 116]⟩, ⟨#[105, 110, 116]⟩, ⟨#[108, 111, 110, 103]⟩, ⟨#[115, 104, 111, 114, 116]⟩, ⟨#[115, 105, 103, 110, 101, 100]⟩, ⟨#[115, 116, 114, 117, 99, 116]⟩, ⟨#[117, 110, 105, 111, 110]⟩, ⟨#[117, 110, 115, 105, 103, 110, 101, 100]⟩, ⟨#[118, 111, 105, 100]⟩, ⟨#[118, 111, 108, 97, 116, 105, 108, 101]⟩, ⟨#[115, 116, 97, 116, 105, 99]⟩, ⟨#[101, 120, 116, 101, 114, 110]⟩, ⟨#[101, 110, 117, 109]⟩]
def typeB (t : Tk) : Bool := decide (t.kind = 2) && amongB t typesL
theorem typeKey_c (t : Tk) (s : St) : PCalls Tryz.prog 303 [encT t] s (fun r s' => s' = s ∧ r = .ret (.lit (.bool (typeB t)))) := by
 refine PCalls.of Tryz.func303 rfl (by rfl) (by simp [Tryz.ntmps303]) ?_
 refine pwC_sound _ _ _ _ ?_
 by_cases h2 : t.kind = 2
 ·obtain ⟨tk, tb, tt, ta⟩ := t
  have h2' : tk = 2 := h2
  subst h2'
  simp [Tryz.ntmps303, typeB]
  intro i1 h1
  refine (among_c .tight ⟨2, tb, tt, ta⟩ typesL (by decide) _).mono ?_
  rintro _ s1 ⟨hs1, rfl⟩
  rw [hs1]
  clear hs1 s1
  simp
  exact sub_refl.upd_of h1
 ·simp [Tryz.ntmps303, h2, typeB]
  intro i1 h1
  exact sub_refl.upd_of h1
def capBad (c : Int) (i : Nat) : Bool := (decide (c < 65) || decide (90 < c)) && decide (c ≠ 95) && (decide (c < 48) || decide (57 < c) || decide (i = 0))
def capF (s : ByteArray) : Nat → Nat → Bool → Bool
 | 0, _, b => b
 | n + 1, i, b => if capBad (bt s i) i = true then false else capF s n (i + 1) (b || (decide (65 ≤ bt s i) && decide (bt s i ≤ 90)))
def capB (s : ByteArray) : Bool := capF s s.size 0 false
def CPI (u : ByteArray) (base : St) (n : Nat) (e : Env) (s' : St) : Prop :=
 ∃ (j : Nat) (b : Bool), j + n = u.size ∧ e 0 = .lit (.string u) ∧ e 3 = .lit (.bool b) ∧ e 7 = .lit (.int .i64 (u.size : Nat)) ∧ e 8 = .lit (.int .i64 j) ∧ capF u n j b = capB u ∧ s' = base
theorem capital_c (u : ByteArray) (hu : u.size ≤ 1000000) (s : St) : PCalls Tryz.prog 302 [.lit (.string u)] s (fun r s' => s' = s ∧ r = .ret (.lit (.bool (capB u)))) := by
 refine PCalls.of Tryz.func302 rfl (by rfl) (by simp [Tryz.ntmps302]) ?_
 refine pwC_sound _ _ _ _ ?_
 refine pwC_cut fun K hK => ?_
 simp [Tryz.ntmps302]
 refine hK _ _ ?_
 clear hK K
 refine pwC_cut fun K hK => ?_
 simp
 refine hK _ _ ?_
 clear hK K
 refine pwC_cut fun K hK => ?_
 simp
 refine PW.loop (fun n e s' => CPI u s n e s') u.size ⟨0, false, by omega, by simp, by simp, by simp, by simp, rfl, rfl⟩ ?_
 rintro n e s' ⟨j, b, hj, e0, e3, e7, e8, hgo, rfl⟩
 refine pwC_sound _ _ _ _ ?_
 by_cases hlt : j < u.size
 ·have hlt' : (j : Int) < u.size := by omega
  obtain ⟨n, rfl⟩ : ∃ m, n = m + 1 := ⟨n - 1, by omega⟩
  rw [capF] at hgo
  have w1 : IntKind.i64.wrap ((j : Int) + 1) = ((j + 1 : Nat) : Int) := by rw [wrap_i64 (by omega) (by omega)]; omega
  clear hK
  refine pwC_cut fun K hK => ?_
  simp [e7, e8, hlt, hlt']
  refine hK _ _ ?_
  clear hK K
  refine pwC_cut fun K hK => ?_
  simp
  refine hK _ _ ?_
  clear hK K
  refine pwC_cut fun K hK => ?_
  refine pwC_cut fun K2 hK2 => ?_
  simp [e8]
  refine hK2 _ _ ?_
  clear hK2 K2
  refine pwC_cut fun K2 hK2 => ?_
  simp [e0, hlt]
  refine hK2 _ _ ?_
  clear hK2 K2
  generalize hcc : bt u j = c at *
  generalize hE : Env.put _ _ _ = F
  have f0 : F 0 = .lit (.string u) := by rw [← hE]; simp [e0]
  have f3 : F 3 = .lit (.bool b) := by rw [← hE]; simp [e3]
  have f4 : F 4 = .lit (.int .i64 j) := by rw [← hE]; simp
  have f5 : F 5 = .lit (.int .u8 c) := by rw [← hE]; simp
  have f7 : F 7 = .lit (.int .i64 (u.size : Nat)) := by rw [← hE]; simp [e7]
  have f8 : F 8 = .lit (.int .i64 j) := by rw [← hE]; simp [e8]
  clear hE
  refine pwC_cut fun K2 hK2 => ?_
  have tail : ∀ F : Env, F 0 = .lit (.string u) → F 3 = .lit (.bool (b || (decide (65 ≤ c) && decide (c ≤ 90)))) → F 4 = .lit (.int .i64 j) → F 5 = .lit (.int .u8 c) → F 7 = .lit (.int .i64 (u.size : Nat)) → F 8 = .lit (.int .i64 j) → K2 F s' := by
   intro F f0 f3 f4 f5 f7 f8
   refine hK2 _ _ ?_
   clear hK2 K2
   cases hb : capBad c j with
   | true =>
    rw [hb, if_pos rfl] at hgo
    clear hK
    rw [← hgo]
    have hbb : (c < 65 ∨ 90 < c) ∧ c ≠ 95 ∧ (c < 48 ∨ 57 < c ∨ j = 0) := by simp [capBad] at hb; omega
    obtain ⟨q1, q2, q3⟩ := hbb
    by_cases h1 : c < 65
    ·by_cases h4 : c < 48
     ·simp [f4, f5, h1, h4, q2]
     ·by_cases h5 : 57 < c
      ·simp [f4, f5, h1, h4, h5, q2]
      ·have h6 : j = 0 := by omega
       simp [f4, f5, h1, h4, h5, h6, q2]
    ·have h2 : 90 < c := by omega
     have h4 : ¬ c < 48 := by omega
     have h5 : 57 < c := by omega
     simp [f4, f5, h1, h2, h4, h5, q2]
   | false =>
    rw [hb, if_neg (by simp)] at hgo
    have nxt : ∀ F : Env, F 0 = .lit (.string u) → F 3 = .lit (.bool (b || (decide (65 ≤ c) && decide (c ≤ 90)))) → F 7 = .lit (.int .i64 (u.size : Nat)) → F 8 = .lit (.int .i64 j) → K F s' := by
     intro F f0 f3 f7 f8
     refine hK _ _ ?_
     clear hK K
     simp [f8, w1]
     exact ⟨n, by omega, j + 1, _, by omega, by simp [f0], by simp [f3], by simp [f7], by simp, hgo, rfl⟩
    have hbb : ¬ ((c < 65 ∨ 90 < c) ∧ c ≠ 95 ∧ (c < 48 ∨ 57 < c ∨ j = 0)) := by simp [capBad] at hb; omega
    clear hK
    by_cases h1 : c < 65
    ·by_cases h4 : c < 48
     ·omega
     ·have h5 : ¬ 57 < c := by omega
      have h6 : ¬ j = 0 := by omega
      have h3 : ¬ c = 95 := by omega
      simp [f4, f5, h1, h3, h4, h5, h6]
      exact nxt _ (by simp [f0]) (by simp [f3]) (by simp [f7]) (by simp [f8])
    ·by_cases h2 : 90 < c
     ·have h3 : c = 95 := by omega
      simp [f4, f5, h1, h2, h3]
      exact nxt _ (by simp [f0]) (by simp [f3]) (by simp [f7]) (by simp [f8])
     ·simp [f4, f5, h1, h2]
      exact nxt _ (by simp [f0]) (by simp [f3]) (by simp [f7]) (by simp [f8])
  clear hK2
  cases b with
  | true =>
   simp [f3]
   exact tail _ (by simp [f0]) (by simp) (by simp [f4]) (by simp [f5]) (by simp [f7]) (by simp [f8])
  | false =>
   by_cases h1 : 65 ≤ c
   ·by_cases h2 : c ≤ 90
    ·simp [f3, f5, h1, h2]
     exact tail _ (by simp [f0]) (by simp [h1, h2]) (by simp [f4]) (by simp [f5]) (by simp [f7]) (by simp [f8])
    ·simp [f3, f5, h1, h2]
     exact tail _ (by simp [f0]) (by simp [h1, h2]) (by simp [f4]) (by simp [f5]) (by simp [f7]) (by simp [f8])
   ·simp [f3, f5, h1]
    exact tail _ (by simp [f0]) (by simp [h1]) (by simp [f4]) (by simp [f5]) (by simp [f7]) (by simp [f8])
 ·have hlt' : ¬ (j : Int) < u.size := by omega
  have hn0 : n = 0 := by omega
  subst hn0
  simp [e7, e8, hlt, hlt']
  refine hK _ _ ?_
  clear hK K
  simp [e3]
  exact ⟨_, sub_refl, rfl, hgo⟩
end Go.Pv

namespace Go.Pv
open Go.Proofs
set_option linter.unusedVariables false
set_option linter.unusedSimpArgs false
set_option maxRecDepth 100000
set_option maxHeartbeats 1000000
theorem sc_bool {P : Program} {imp : List Nat} {f : FuncId} {args : List SV} {st : SS} {b : St} {K : SV → SS → St → Prop} {Kp : List PanicEntry → SS → St → Prop} {ps : List PV} {v : Bool} (h : ∀ s, b.sub s → PCalls P f ps s fun r s' => s' = s ∧ r = .ret (.lit (.bool v))) (ha : args = pvs ps) (hl : ps.all PV.live = true)
  (hT : v = true → K (.av (.pv (.lit (.bool true)))) st b) (hF : v = false → K (.av (.pv (.lit (.bool false)))) st b) : SC P imp f args st b K Kp := by
 refine sc_pure h ha hl ?_
 cases v with
 | true => exact hT rfl
 | false => exact hF rfl
structure Arnd where
 name : ByteArray
 call : Bool
 last : Tk
 next : Tk
 first : Bool
 outer : Bool
@[reducible] def encA (x : Arnd) : PV := .agg ([.lit (.string x.name), .lit (.bool x.call)] ++ encTC x.last ++ encTC x.next ++ [.lit (.bool x.first), .lit (.bool x.outer)])
@[reducible] def w_lastLoop : List ByteArray := [⟨#[59]⟩, ⟨#[123]⟩, ⟨#[125]⟩, ⟨#[41]⟩, ⟨#[101, 108, 115, 101]⟩, ⟨#[100, 111]⟩, ⟨#[58]⟩]
@[reducible] def w_open : List ByteArray := [⟨#[123]⟩]
@[reducible] def w_end : List ByteArray := [⟨#[59]⟩, ⟨#[125]⟩]
@[reducible] def w_lastSt : List ByteArray := [⟨#[59]⟩, ⟨#[123]⟩, ⟨#[125]⟩, ⟨#[101, 108, 115, 101]⟩, ⟨#[100, 111]⟩, ⟨#[58]⟩]
@[reducible] def w_ew : List ByteArray := [⟨#[101, 108, 115, 101]⟩, ⟨#[119, 104, 105, 108, 101]⟩]
@[reducible] def w_nx1 : List ByteArray := [⟨#[123]⟩, ⟨#[125]⟩, ⟨#[42]⟩, ⟨#[43, 43]⟩, ⟨#[45, 45]⟩]
@[reducible] def w_nx2 : List ByteArray := [⟨#[123]⟩, ⟨#[125]⟩, ⟨#[43, 43]⟩, ⟨#[45, 45]⟩]
@[reducible] def w_cl : List ByteArray := [⟨#[41]⟩, ⟨#[93]⟩]
@[reducible] def w_nx3 : List ByteArray := [⟨#[59]⟩, ⟨#[123]⟩, ⟨#[44]⟩, ⟨#[61]⟩]
def loopB (x : Arnd) : Bool := x.call && amongB x.next w_open && !x.first && amongB x.last w_lastLoop
def declB (x : Arnd) : Bool := x.call && x.outer && capB x.name && (x.first || amongB x.last w_end) && !amongB x.next w_open
def keyB (x : Arnd) : Bool := decide (x.next.kind = 2) && !amongB x.next w_ew
def stmtB (x : Arnd) : Bool := bif x.first || !amongB x.last w_lastSt || !capB x.name then false else bif x.call then keyB x || decide (x.next.kind = 1) || amongB x.next w_nx1 else keyB x && !typeB x.next || amongB x.next w_nx2
def attrB (x : Arnd) : Bool := bif !capB x.name then false else bif !x.first && (amongB x.last w_cl || decide (x.last.kind = 1)) && amongB x.next w_nx3 then true else !x.call && (decide (x.next.kind = 1) || typeB x.next) && (x.first || amongB x.last w_end)
theorem gloop_c (x : Arnd) (s : St) : PCalls Tryz.prog 280 [encA x] s (fun r s' => s' = s ∧ r = .ret (.lit (.bool (loopB x)))) := by
 obtain ⟨n, c, l, y, f, o⟩ := x
 refine PCalls.fun (D := []) ti_ok Tryz.func280 rfl (by kernel_rfl) ?_
 cases c with
 | false =>
  exact ⟨rfl, by (try dsimp only at *); first | (simp [loopB]; done) | omega⟩
 | true =>
  refine sc_bool (fun s _ => among_c .tight _ w_open (by decide) s) rfl rfl (fun h1 => ?_) (fun h1 => ?_)
  ·cases f with
   | false =>
    refine sc_bool (fun s _ => among_c .tight _ w_lastLoop (by decide) s) rfl rfl (fun h2 => ?_) (fun h2 => ?_)
    ·exact ⟨rfl, by (try dsimp only at *); first | (simp [loopB, h1, h2]; done) | omega⟩
    ·exact ⟨rfl, by (try dsimp only at *); first | (simp [loopB, h1, h2]; done) | omega⟩
   | true =>
    exact ⟨rfl, by (try dsimp only at *); first | (simp [loopB, h1]; done) | omega⟩
  ·exact ⟨rfl, by (try dsimp only at *); first | (simp [loopB, h1]; done) | omega⟩
theorem gdecl_c (x : Arnd) (hn : x.name.size ≤ 1000000) (s : St) : PCalls Tryz.prog 281 [encA x] s (fun r s' => s' = s ∧ r = .ret (.lit (.bool (declB x)))) := by
 obtain ⟨n, c, l, y, f, o⟩ := x
 refine PCalls.fun (D := []) ti_ok Tryz.func281 rfl (by kernel_rfl) ?_
 cases c with
 | false =>
  exact ⟨rfl, by (try dsimp only at *); first | (simp [declB]; done) | omega⟩
 | true =>
  cases o with
  | false =>
   exact ⟨rfl, by (try dsimp only at *); first | (simp [declB]; done) | omega⟩
  | true =>
   refine sc_bool (fun s _ => capital_c n hn s) rfl rfl (fun h1 => ?_) (fun h1 => ?_)
   ·cases f with
    | false =>
     refine sc_bool (fun s _ => among_c .tight _ w_end (by decide) s) rfl rfl (fun h2 => ?_) (fun h2 => ?_)
     ·refine sc_bool (fun s _ => among_c .tight _ w_open (by decide) s) rfl rfl (fun h3 => ?_) (fun h3 => ?_)
      ·exact ⟨rfl, by (try dsimp only at *); first | (simp [declB, h1, h2, h3]; done) | omega⟩
      ·exact ⟨rfl, by (try dsimp only at *); first | (simp [declB, h1, h2, h3]; done) | omega⟩
     ·exact ⟨rfl, by (try dsimp only at *); first | (simp [declB, h1, h2]; done) | omega⟩
    | true =>
     refine sc_bool (fun s _ => among_c .tight _ w_open (by decide) s) rfl rfl (fun h3 => ?_) (fun h3 => ?_)
     ·exact ⟨rfl, by (try dsimp only at *); first | (simp [declB, h1, h3]; done) | omega⟩
     ·exact ⟨rfl, by (try dsimp only at *); first | (simp [declB, h1, h3]; done) | omega⟩
   ·exact ⟨rfl, by (try dsimp only at *); first | (simp [declB, h1]; done) | omega⟩
theorem gstmt_c (x : Arnd) (hn : x.name.size ≤ 1000000) (s : St) : PCalls Tryz.prog 282 [encA x] s (fun r s' => s' = s ∧ r = .ret (.lit (.bool (stmtB x)))) := by
 obtain ⟨n, c, l, y, f, o⟩ := x
 refine PCalls.fun (D := []) ti_ok Tryz.func282 rfl (by kernel_rfl) ?_
 cases f with
 | false =>
  refine sc_bool (fun s _ => among_c .tight _ w_lastSt (by decide) s) rfl rfl (fun h1 => ?_) (fun h1 => ?_)
  ·refine sc_bool (fun s _ => capital_c n hn s) rfl rfl (fun h2 => ?_) (fun h2 => ?_)
   ·rintro (_ | _) h3
    ·replace h3 := of_decide_eq_false h3
     cases c with
     | false =>
      refine sc_bool (fun s _ => among_c .tight _ w_nx2 (by decide) s) rfl rfl (fun h6 => ?_) (fun h6 => ?_)
      ·exact ⟨rfl, by (try dsimp only at *); first | (simp [stmtB, keyB, h1, h2, h3, h6]; done) | omega⟩
      ·exact ⟨rfl, by (try dsimp only at *); first | (simp [stmtB, keyB, h1, h2, h3, h6]; done) | omega⟩
     | true =>
      rintro (_ | _) h5
      ·replace h5 := of_decide_eq_false h5
       refine sc_bool (fun s _ => among_c .tight _ w_nx1 (by decide) s) rfl rfl (fun h6 => ?_) (fun h6 => ?_)
       ·exact ⟨rfl, by (try dsimp only at *); first | (simp [stmtB, keyB, h1, h2, h3, h5, h6]; done) | omega⟩
       ·exact ⟨rfl, by (try dsimp only at *); first | (simp [stmtB, keyB, h1, h2, h3, h5, h6]; done) | omega⟩
      ·replace h5 := of_decide_eq_true h5
       exact ⟨rfl, by (try dsimp only at *); first | (simp [stmtB, keyB, h1, h2, h3, h5]; done) | omega⟩
    ·replace h3 := of_decide_eq_true h3
     refine sc_bool (fun s _ => among_c .tight _ w_ew (by decide) s) rfl rfl (fun h4 => ?_) (fun h4 => ?_)
     ·cases c with
      | false =>
       refine sc_bool (fun s _ => among_c .tight _ w_nx2 (by decide) s) rfl rfl (fun h6 => ?_) (fun h6 => ?_)
       ·exact ⟨rfl, by (try dsimp only at *); first | (simp [stmtB, keyB, h1, h2, h3, h4, h6]; done) | omega⟩
       ·exact ⟨rfl, by (try dsimp only at *); first | (simp [stmtB, keyB, h1, h2, h3, h4, h6]; done) | omega⟩
      | true =>
       rintro (_ | _) h5
       ·replace h5 := of_decide_eq_false h5
        refine sc_bool (fun s _ => among_c .tight _ w_nx1 (by decide) s) rfl rfl (fun h6 => ?_) (fun h6 => ?_)
        ·exact ⟨rfl, by (try dsimp only at *); first | (simp [stmtB, keyB, h1, h2, h3, h4, h5, h6]; done) | omega⟩
        ·exact ⟨rfl, by (try dsimp only at *); first | (simp [stmtB, keyB, h1, h2, h3, h4, h5, h6]; done) | omega⟩
       ·replace h5 := of_decide_eq_true h5
        exact ⟨rfl, by (try dsimp only at *); first | (simp [stmtB, keyB, h1, h2, h3, h4, h5]; done) | omega⟩
     ·cases c with
      | false =>
       refine sc_bool (fun s _ => typeKey_c _ s) rfl rfl (fun h7 => ?_) (fun h7 => ?_)
       ·refine sc_bool (fun s _ => among_c .tight _ w_nx2 (by decide) s) rfl rfl (fun h6 => ?_) (fun h6 => ?_)
        ·exact ⟨rfl, by (try dsimp only at *); first | (simp [stmtB, keyB, h1, h2, h3, h4, h7, h6]; done) | omega⟩
        ·exact ⟨rfl, by (try dsimp only at *); first | (simp [stmtB, keyB, h1, h2, h3, h4, h7, h6]; done) | omega⟩
       ·exact ⟨rfl, by (try dsimp only at *); first | (simp [stmtB, keyB, h1, h2, h3, h4, h7]; done) | omega⟩
      | true =>
       exact ⟨rfl, by (try dsimp only at *); first | (simp [stmtB, keyB, h1, h2, h3, h4]; done) | omega⟩
   ·exact ⟨rfl, by (try dsimp only at *); first | (simp [stmtB, keyB, h1, h2]; done) | omega⟩
  ·exact ⟨rfl, by (try dsimp only at *); first | (simp [stmtB, keyB, h1]; done) | omega⟩
 | true =>
  exact ⟨rfl, by (try dsimp only at *); first | (simp [stmtB, keyB]; done) | omega⟩
theorem gattr_c (x : Arnd) (hn : x.name.size ≤ 1000000) (s : St) : PCalls Tryz.prog 283 [encA x] s (fun r s' => s' = s ∧ r = .ret (.lit (.bool (attrB x)))) := by
 obtain ⟨n, c, l, y, f, o⟩ := x
 refine PCalls.fun (D := []) ti_ok Tryz.func283 rfl (by kernel_rfl) ?_
 refine sc_bool (fun s _ => capital_c n hn s) rfl rfl (fun h1 => ?_) (fun h1 => ?_)
 ·cases f with
  | false =>
   refine sc_bool (fun s _ => among_c .tight _ w_cl (by decide) s) rfl rfl (fun h2 => ?_) (fun h2 => ?_)
   ·refine sc_bool (fun s _ => among_c .tight _ w_nx3 (by decide) s) rfl rfl (fun h5 => ?_) (fun h5 => ?_)
    ·exact ⟨rfl, by (try dsimp only at *); first | (simp [attrB, h1, h2, h5]; done) | omega⟩
    ·cases c with
     | false =>
      rintro (_ | _) h6
      ·replace h6 := of_decide_eq_false h6
       refine sc_bool (fun s _ => typeKey_c _ s) rfl rfl (fun h7 => ?_) (fun h7 => ?_)
       ·refine sc_bool (fun s _ => among_c .tight _ w_end (by decide) s) rfl rfl (fun h8 => ?_) (fun h8 => ?_)
        ·exact ⟨rfl, by (try dsimp only at *); first | (simp [attrB, h1, h2, h5, h6, h7, h8]; done) | omega⟩
        ·exact ⟨rfl, by (try dsimp only at *); first | (simp [attrB, h1, h2, h5, h6, h7, h8]; done) | omega⟩
       ·exact ⟨rfl, by (try dsimp only at *); first | (simp [attrB, h1, h2, h5, h6, h7]; done) | omega⟩
      ·replace h6 := of_decide_eq_true h6
       refine sc_bool (fun s _ => among_c .tight _ w_end (by decide) s) rfl rfl (fun h8 => ?_) (fun h8 => ?_)
       ·exact ⟨rfl, by (try dsimp only at *); first | (simp [attrB, h1, h2, h5, h6, h8]; done) | omega⟩
       ·exact ⟨rfl, by (try dsimp only at *); first | (simp [attrB, h1, h2, h5, h6, h8]; done) | omega⟩
     | true =>
      exact ⟨rfl, by (try dsimp only at *); first | (simp [attrB, h1, h2, h5]; done) | omega⟩
   ·rintro (_ | _) h3
    ·replace h3 := of_decide_eq_false h3
     cases c with
     | false =>
      rintro (_ | _) h6
      ·replace h6 := of_decide_eq_false h6
       refine sc_bool (fun s _ => typeKey_c _ s) rfl rfl (fun h7 => ?_) (fun h7 => ?_)
       ·refine sc_bool (fun s _ => among_c .tight _ w_end (by decide) s) rfl rfl (fun h8 => ?_) (fun h8 => ?_)
        ·exact ⟨rfl, by (try dsimp only at *); first | (simp [attrB, h1, h2, h3, h6, h7, h8]; done) | omega⟩
        ·exact ⟨rfl, by (try dsimp only at *); first | (simp [attrB, h1, h2, h3, h6, h7, h8]; done) | omega⟩
       ·exact ⟨rfl, by (try dsimp only at *); first | (simp [attrB, h1, h2, h3, h6, h7]; done) | omega⟩
      ·replace h6 := of_decide_eq_true h6
       refine sc_bool (fun s _ => among_c .tight _ w_end (by decide) s) rfl rfl (fun h8 => ?_) (fun h8 => ?_)
       ·exact ⟨rfl, by (try dsimp only at *); first | (simp [attrB, h1, h2, h3, h6, h8]; done) | omega⟩
       ·exact ⟨rfl, by (try dsimp only at *); first | (simp [attrB, h1, h2, h3, h6, h8]; done) | omega⟩
     | true =>
      exact ⟨rfl, by (try dsimp only at *); first | (simp [attrB, h1, h2, h3]; done) | omega⟩
    ·replace h3 := of_decide_eq_true h3
     refine sc_bool (fun s _ => among_c .tight _ w_nx3 (by decide) s) rfl rfl (fun h5 => ?_) (fun h5 => ?_)
     ·exact ⟨rfl, by (try dsimp only at *); first | (simp [attrB, h1, h2, h3, h5]; done) | omega⟩
     ·cases c with
      | false =>
       rintro (_ | _) h6
       ·replace h6 := of_decide_eq_false h6
        refine sc_bool (fun s _ => typeKey_c _ s) rfl rfl (fun h7 => ?_) (fun h7 => ?_)
        ·refine sc_bool (fun s _ => among_c .tight _ w_end (by decide) s) rfl rfl (fun h8 => ?_) (fun h8 => ?_)
         ·exact ⟨rfl, by (try dsimp only at *); first | (simp [attrB, h1, h2, h3, h5, h6, h7, h8]; done) | omega⟩
         ·exact ⟨rfl, by (try dsimp only at *); first | (simp [attrB, h1, h2, h3, h5, h6, h7, h8]; done) | omega⟩
        ·exact ⟨rfl, by (try dsimp only at *); first | (simp [attrB, h1, h2, h3, h5, h6, h7]; done) | omega⟩
       ·replace h6 := of_decide_eq_true h6
        refine sc_bool (fun s _ => among_c .tight _ w_end (by decide) s) rfl rfl (fun h8 => ?_) (fun h8 => ?_)
        ·exact ⟨rfl, by (try dsimp only at *); first | (simp [attrB, h1, h2, h3, h5, h6, h8]; done) | omega⟩
        ·exact ⟨rfl, by (try dsimp only at *); first | (simp [attrB, h1, h2, h3, h5, h6, h8]; done) | omega⟩
      | true =>
       exact ⟨rfl, by (try dsimp only at *); first | (simp [attrB, h1, h2, h3, h5]; done) | omega⟩
  | true =>
   cases c with
   | false =>
    rintro (_ | _) h6
    ·replace h6 := of_decide_eq_false h6
     refine sc_bool (fun s _ => typeKey_c _ s) rfl rfl (fun h7 => ?_) (fun h7 => ?_)
     ·exact ⟨rfl, by (try dsimp only at *); first | (simp [attrB, h1, h6, h7]; done) | omega⟩
     ·exact ⟨rfl, by (try dsimp only at *); first | (simp [attrB, h1, h6, h7]; done) | omega⟩
    ·replace h6 := of_decide_eq_true h6
     exact ⟨rfl, by (try dsimp only at *); first | (simp [attrB, h1, h6]; done) | omega⟩
   | true =>
    exact ⟨rfl, by (try dsimp only at *); first | (simp [attrB, h1]; done) | omega⟩
 ·exact ⟨rfl, by (try dsimp only at *); first | (simp [attrB, h1]; done) | omega⟩
end Go.Pv

namespace Go.Pv
open Go.Proofs
set_option linter.unusedVariables false
set_option linter.unusedSimpArgs false
set_option maxRecDepth 100000
set_option maxHeartbeats 1000000
structure AscV (n : Nat) (v : List Int) : Prop where
 rng : ∀ p ∈ v, 0 ≤ p ∧ p < n
 up : ∀ (i : Nat) (p q : Int), v[i]? = some p → v[i + 1]? = some q → p < q
def openV (l : List Tk) (v : List Int) (kk kv : VK) (k : Nat) : PV := match seenAt l v k with
 | some t => if t.kind = 1 then .tup [viewV kk kv l v, .lit (.int .i64 0)] else .tup [.agg [.vec .nil [], .vec .nil []], .lit (.int .i64 4)]
 | none => .tup [.agg [.vec .nil [], .vec .nil []], .lit (.int .i64 4)]
theorem incN {i : Nat} (h : i ≤ 1000000000) : IntKind.i64.wrap ((i : Int) + 1) = ((i + 1 : Nat) : Int) := by rw [wrap_i64 (by omega) (by omega)]; omega
@[reducible] def oenv (kk kv : VK) (l : List Tk) (v : List Int) (k i : Nat) : SE := [(0, .av (.pv (toks kk l))), (1, .av (.pv (ints kv v))), (2, .av (.pv (.lit (.int .i64 k)))), (6, .av (.cell 0 0)), (10, .av (.pv (ints kv v))), (11, .av (.pv (.lit (.int .i64 ((v.map fun n => PV.lit (.int .i64 n)).length : Nat))))), (12, .av (.pv (.lit (.int .i64 (i : Nat)))))]
theorem gopen_c (kk kv : VK) (l : List Tk) (v : List Int) (k : Nat) (hv : AscV l.length v) (hl : v.length ≤ 1000000) (hk : k < v.length) (s : St) : PCalls Tryz.prog 244 [toks kk l, ints kv v, .lit (.int .i64 k)] s (fun r s' => s' = s ∧ r = .ret (openV l v kk kv k)) := by
 refine PCalls.fun (D := []) ti_ok Tryz.func244 rfl (by kernel_rfl) ?_
 refine sw_loop (D := []) ti_ok (by kernel_rfl) (fun n env st b => ∃ i : Nat, i + n = v.length ∧ b = s ∧ env = oenv kk kv l v k i ∧ st = [some (.cel 286 2 [.pv (.vec .nil []), .pv (.vec .nil [])])]) v.length ⟨[0], [0, 1, 2, 6, 10, 11, 12], rfl, 0, by omega, rfl, rfl, rfl⟩ ?_
 rintro n env st b ⟨i, hi, rfl, rfl, rfl⟩
 rintro (_ | _) ht
 ·rw [List.length_map] at ht
  rintro (_ | _) h1
  rotate_left
  ·have := of_decide_eq_true h1; omega
  rintro (_ | _) h2
  rotate_left
  ·have := of_decide_eq_true h2; simp at this; omega
  have hg := List.getElem?_eq_getElem hk
  obtain ⟨p, hp⟩ : ∃ p, v[k] = p := ⟨_, rfl⟩
  rw [hp] at hg
  have hr := hv.rng p (List.mem_of_getElem? hg)
  obtain ⟨q, rfl⟩ : ∃ q : Nat, p = q := ⟨p.toNat, by omega⟩
  have hq : q < l.length := by omega
  have hgl := List.getElem?_eq_getElem hq
  obtain ⟨t, ht2⟩ : ∃ t, l[q] = t := ⟨_, rfl⟩
  rw [ht2] at hgl
  have hS : seenAt l v k = if t.kind = 0 then none else some t := by
   unfold seenAt
   rw [if_neg (by omega)]
   simp [List.getD, hg, hgl]
  refine ⟨.lit (.int .i64 (q : Nat)), ⟨by omega, by rw [Int.toNat_natCast, List.getElem?_map, hg]; rfl, rfl⟩, ?_⟩
  refine ⟨encT t, ⟨by omega, by rw [Int.toNat_natCast, List.getElem?_map, hgl]; rfl, rfl⟩, ?_⟩
  rintro (_ | _) h3
  ·have h3 : ¬ t.kind = 1 := of_decide_eq_false h3
   exact ⟨rfl, by
    unfold openV
    rw [hS]
    by_cases h0 : t.kind = 0
    ·rw [if_pos h0]; rfl
    ·rw [if_neg h0]; simp only [h3, if_false]; rfl⟩
  ·have h3 : t.kind = 1 := of_decide_eq_true h3
   exact ⟨rfl, by unfold openV; rw [hS, if_neg (by omega)]; simp only [h3, if_true]; rfl⟩
 rw [List.length_map] at ht
 have hlt : i < v.length := by have := of_decide_eq_true ht; omega
 have hg := List.getElem?_eq_getElem hlt
 obtain ⟨p, hp⟩ : ∃ p, v[i] = p := ⟨_, rfl⟩
 rw [hp] at hg
 have hr := hv.rng p (List.mem_of_getElem? hg)
 refine ⟨.lit (.int .i64 p), ⟨by omega, by rw [Int.toNat_natCast, List.getElem?_map, hg]; rfl, rfl⟩, ?_⟩
 rintro (_ | _) h1
 rotate_left
 ·have := of_decide_eq_true h1; omega
 rintro (_ | _) h2
 rotate_left
 ·have := of_decide_eq_true h2; simp at this; omega
 rintro (_ | _) h3
 ·exact ⟨n - 1, by omega, [0], [0, 1, 2, 6, 10, 11, 12], rfl, i + 1, by omega, rfl, by unfold oenv; rw [← incN (show i ≤ 1000000000 by omega)]; rfl, rfl⟩
 have h3 : 0 < i := by have := of_decide_eq_true h3; omega
 obtain ⟨j, rfl⟩ : ∃ j, i = j + 1 := ⟨i - 1, by omega⟩
 have hj : j < v.length := by omega
 have hgj := List.getElem?_eq_getElem hj
 have hup := hv.up j _ p hgj hg
 refine ⟨.lit (.int .i64 v[j]), ⟨by rw [wrap_i64 (by omega) (by omega)]; omega, by rw [wrap_i64 (by omega) (by omega), show (((j + 1 : Nat) : Int) - 1).toNat = j by omega, List.getElem?_map, hgj]; rfl, rfl⟩, ?_⟩
 rintro (_ | _) h4
 rotate_left
 ·have := of_decide_eq_true h4; omega
 exact ⟨n - 1, by omega, [0], [0, 1, 2, 6, 10, 11, 12], rfl, j + 1 + 1, by omega, rfl, by unfold oenv; rw [← incN (show j + 1 ≤ 1000000000 by omega)]; rfl, rfl⟩
def depthF (l : List Tk) (v : List Int) : Nat → Int
 | 0 => 0
 | i + 1 => if isS (seenT l v (i : Nat)).1 ⟨#[123]⟩ = true then depthF l v i + 1 else if isS (seenT l v (i : Nat)).1 ⟨#[125]⟩ = true then max 0 (depthF l v i - 1) else depthF l v i
def guessA (x : Arnd) : Int := if loopB x = true then 1 else if declB x = true then 4 else if stmtB x = true then 2 else if attrB x = true then 3 else 0
def arndT (l : List Tk) (v : List Int) (k : Nat) : Arnd := ⟨(seenT l v k).1.text, (callT l v k).2, (seenT l v ((k : Int) - 1)).1, (seenT l v (callT l v k).1).1, !(seenT l v ((k : Int) - 1)).2, decide (depthF l v k = 0)⟩
def guessT (l : List Tk) (v : List Int) (k : Nat) : Int := guessA (arndT l v k)
theorem depthF_rng (l : List Tk) (v : List Int) : ∀ i, 0 ≤ depthF l v i ∧ depthF l v i ≤ i
 | 0 => ⟨by show (0:Int) ≤ 0; omega, by show (0:Int) ≤ 0; omega⟩
 | i + 1 => by
  have := depthF_rng l v i
  unfold depthF
  split
  ·omega
  ·split <;> omega
theorem seenT_text {l : List Tk} {n : Nat} (h : ∀ t ∈ l, t.text.size ≤ n) (v : List Int) (i : Int) : (seenT l v i).1.text.size ≤ n := by
 unfold seenT
 split
 ·rename_i t ht
  unfold seenAt at ht
  split at ht
  ·cases ht
  ·split at ht
   ·rename_i u hu
    split at ht
    ·cases ht
    ·cases ht; exact h _ (List.mem_of_getElem? hu)
   ·cases ht
 ·exact Nat.zero_le _
@[reducible] def gvL (kk kv : VK) (l : List Tk) (v : List Int) : Option Loc := some (.cel 286 2 [.pv (toks kk l), .pv (ints kv v)])
@[reducible] def gaL (t : ByteArray) (c : Bool) (x y : Tk) (f : Bool) : Option Loc := some (.cel 323 12 (([PV.lit (.string t), PV.lit (.bool c)] ++ encTC x ++ encTC y ++ [PV.lit (.bool f), PV.lit (.bool false)]).map .pv))
@[reducible] def genv2 (k : Nat) (i d : Int) : SE := [(2, .av (.cell 0 0)), (9, .av (.cell 1 0)), (12, .av (.pv (.lit (.int .i64 d)))), (51, .av (.pv (.lit (.int .i64 (k : Nat))))), (52, .av (.pv (.lit (.int .i64 i))))]
theorem gguess_c (kk kv : VK) (l : List Tk) (v : List Int) (k : Nat) (hv : AscV l.length v) (hx : ∀ t ∈ l, t.text.size ≤ 1000000) (hl : v.length ≤ 1000000) (hk : k < v.length) (s : St) : PCalls Tryz.prog 245 [viewV kk kv l v, .lit (.int .i64 k)] s (fun r s' => s' = s ∧ r = .ret (.lit (.int .i64 (guessT l v k)))) := by
 obtain ⟨G, hG⟩ : ∃ G, guessT l v k = G := ⟨_, rfl⟩
 rw [hG]
 have w1 : IntKind.i64.wrap ((k : Int) - 1) = (k : Int) - 1 := wrap_i64 (by omega) (by omega)
 have hn := seenT_text hx v k
 unfold guessT arndT at hG
 obtain ⟨X, hX⟩ : ∃ X, seenT l v k = X := ⟨_, rfl⟩
 obtain ⟨C, hC⟩ : ∃ C, callT l v k = C := ⟨_, rfl⟩
 obtain ⟨Y, hY⟩ : ∃ Y, seenT l v ((k : Int) - 1) = Y := ⟨_, rfl⟩
 obtain ⟨Z, hZ⟩ : ∃ Z, seenT l v C.1 = Z := ⟨_, rfl⟩
 rw [hX, hC, hY, hZ] at hG
 rw [hX] at hn
 refine PCalls.fun (D := []) ti_ok Tryz.func245 rfl (by kernel_rfl) ?_
 refine sc_pure (ps := [viewV kk kv l v, .lit (.int .i64 k)]) (v := PV.tup [encT X.1, .lit (.bool X.2)]) (fun s _ => by rw [← hX]; exact vtoken_c kk kv l v k hv.rng hl s) rfl rfl ?_
 refine sc_pure (ps := [viewV kk kv l v, .lit (.int .i64 k)]) (v := PV.tup [.lit (.int .i64 C.1), .lit (.bool C.2)]) (fun s _ => by rw [← hC]; exact vcall_c kk kv l v k hv.rng hl hk s) rfl rfl ?_
 refine sc_pure (ps := [viewV kk kv l v, .lit (.int .i64 (IntKind.i64.wrap ((k : Int) - 1)))]) (v := PV.tup [encT Y.1, .lit (.bool Y.2)]) (fun s _ => by rw [w1, ← hY]; exact vtoken_c kk kv l v _ hv.rng hl s) rfl rfl ?_
 refine sc_pure (ps := [viewV kk kv l v, .lit (.int .i64 C.1)]) (v := PV.tup [encT Z.1, .lit (.bool Z.2)]) (fun s _ => by rw [← hZ]; exact vtoken_c kk kv l v _ hv.rng hl s) rfl rfl ?_
 refine sw_loop (D := []) ti_ok (by kernel_rfl) (fun n env st b => ∃ i : Nat, i + n = k ∧ b = s ∧ env = genv2 k (i : Nat) (depthF l v i) ∧ st = [gvL kk kv l v, gaL X.1.text C.2 Y.1 Z.1 (!Y.2)]) k ⟨[0, 2], [2, 9, 12, 51, 52], rfl, 0, by omega, rfl, rfl, rfl⟩ ?_
 rintro n env st b ⟨i, hi, rfl, rfl, rfl⟩
 rintro (_ | _) ht
 ·have : i = k := by have := of_decide_eq_false ht; omega
  subst this
  intro o ho
  rw [ho] at hG
  refine sc_bool (ps := [encA ⟨X.1.text, C.2, Y.1, Z.1, !Y.2, o⟩]) (fun s _ => gloop_c _ s) rfl rfl (fun h1 => ?_) (fun h1 => ?_)
  ·exact ⟨rfl, by rw [← hG]; simp [guessA, h1]⟩
  refine sc_bool (ps := [encA ⟨X.1.text, C.2, Y.1, Z.1, !Y.2, o⟩]) (fun s _ => gdecl_c _ hn s) rfl rfl (fun h2 => ?_) (fun h2 => ?_)
  ·exact ⟨rfl, by rw [← hG]; simp [guessA, h1, h2]⟩
  refine sc_bool (ps := [encA ⟨X.1.text, C.2, Y.1, Z.1, !Y.2, o⟩]) (fun s _ => gstmt_c _ hn s) rfl rfl (fun h3 => ?_) (fun h3 => ?_)
  ·exact ⟨rfl, by rw [← hG]; simp [guessA, h1, h2, h3]⟩
  refine sc_bool (ps := [encA ⟨X.1.text, C.2, Y.1, Z.1, !Y.2, o⟩]) (fun s _ => gattr_c _ hn s) rfl rfl (fun h4 => ?_) (fun h4 => ?_)
  ·exact ⟨rfl, by rw [← hG]; simp [guessA, h1, h2, h3, h4]⟩
  ·exact ⟨rfl, by rw [← hG]; simp [guessA, h1, h2, h3, h4]⟩
 have hlt : i < k := by have := of_decide_eq_true ht; omega
 obtain ⟨T, hT⟩ : ∃ T, seenT l v (i : Nat) = T := ⟨_, rfl⟩
 have hd := depthF_rng l v i
 obtain ⟨D, hD⟩ : ∃ D, depthF l v i = D := ⟨_, rfl⟩
 rw [hD] at hd ⊢
 refine sc_pure (ps := [viewV kk kv l v, .lit (.int .i64 i)]) (v := PV.tup [encT T.1, .lit (.bool T.2)]) (fun s _ => by rw [← hT]; exact vtoken_c kk kv l v i hv.rng hl s) rfl rfl ?_
 refine sc_bool (ps := [encT T.1, .lit (.string ⟨#[123]⟩)]) (v := isS T.1 ⟨#[123]⟩) (fun s _ => gsign_c T.1 _ s) rfl rfl (fun h1 => ?_) (fun h1 => ?_)
 ·refine ⟨n - 1, by omega, [0, 1], [2, 9, 12, 51, 52], rfl, i + 1, by omega, rfl, ?_, rfl⟩
  have : depthF l v (i + 1) = D + 1 := by rw [depthF, hT, if_pos h1, hD]
  rw [this]
  have wD : IntKind.i64.wrap (D + 1) = D + 1 := wrap_i64 (by omega) (by omega)
  exact (show genv2 k (IntKind.i64.wrap ((i : Int) + 1)) (IntKind.i64.wrap (D + 1)) = genv2 k ((i + 1 : Nat) : Int) (D + 1) by rw [incN (by omega), wD])
 refine sc_bool (ps := [encT T.1, .lit (.string ⟨#[125]⟩)]) (v := isS T.1 ⟨#[125]⟩) (fun s _ => gsign_c T.1 _ s) rfl rfl (fun h2 => ?_) (fun h2 => ?_)
 ·refine ⟨n - 1, by omega, [0, 1], [2, 9, 12, 51, 52], rfl, i + 1, by omega, rfl, ?_, rfl⟩
  have : depthF l v (i + 1) = max 0 (D - 1) := by rw [depthF, hT, if_neg (by simp [h1]), if_pos h2, hD]
  rw [this]
  have wD : IntKind.i64.wrap (D - 1) = D - 1 := wrap_i64 (by omega) (by omega)
  exact (show genv2 k (IntKind.i64.wrap ((i : Int) + 1)) (max 0 (IntKind.i64.wrap (D - 1))) = genv2 k ((i + 1 : Nat) : Int) (max 0 (D - 1)) by rw [incN (by omega), wD])
 ·refine ⟨n - 1, by omega, [0, 1], [2, 9, 12, 51, 52], rfl, i + 1, by omega, rfl, ?_, rfl⟩
  have : depthF l v (i + 1) = D := by rw [depthF, hT, if_neg (by simp [h1]), if_neg (by simp [h2]), hD]
  rw [this]
  exact (show genv2 k (IntKind.i64.wrap ((i : Int) + 1)) D = genv2 k ((i + 1 : Nat) : Int) D by rw [incN (by omega)])
def guessV (l : List Tk) (v : List Int) (k : Nat) : PV := match seenAt l v k with
 | some t => if t.kind = 1 then .tup [.lit (.int .i64 (guessT l v k)), .lit (.int .i64 0)] else .tup [.lit (.int .i64 0), .lit (.int .i64 4)]
 | none => .tup [.lit (.int .i64 0), .lit (.int .i64 4)]
theorem Guess_c (kk kv : VK) (l : List Tk) (v : List Int) (k : Nat) (hv : AscV l.length v) (hx : ∀ t ∈ l, t.text.size ≤ 1000000) (hl : v.length ≤ 1000000) (hk : k < v.length) (s : St) : PCalls Tryz.prog 182 [toks kk l, ints kv v, .lit (.int .i64 k)] s (fun r s' => s' = s ∧ r = .ret (guessV l v k)) := by
 refine PCalls.fun (D := []) ti_ok Tryz.func182 rfl (by kernel_rfl) ?_
 have bad : openV l v kk kv k = .tup [.agg [.vec .nil [], .vec .nil []], .lit (.int .i64 4)] → guessV l v k = .tup [.lit (.int .i64 0), .lit (.int .i64 4)] → Pv.sx Tryz.prog TI0 Tryz.f182.ntmps [] [] Tryz.f182.body.get! (argE 0 (pvs [toks kk l, ints kv v, .lit (.int .i64 k)])) [] s (endQ TI0 [] Tryz.f182.results.toList (fun r s' => s' = s ∧ r = .ret (guessV l v k))) := fun h1 h2 => by
  refine sc_pure (ps := [toks kk l, ints kv v, .lit (.int .i64 k)]) (v := PV.tup [.agg [.vec .nil [], .vec .nil []], .lit (.int .i64 4)]) (fun s _ => by rw [← h1]; exact gopen_c kk kv l v k hv hl hk s) rfl rfl ?_
  rintro (_ | _) h0
  ·exact ⟨rfl, by rw [h2]; rfl⟩
  ·exact absurd h0 (by decide)
 cases hS : seenAt l v k with
 | none => exact bad (by unfold openV; rw [hS]) (by unfold guessV; rw [hS])
 | some t =>
  by_cases h1 : t.kind = 1
  ·refine sc_pure (ps := [toks kk l, ints kv v, .lit (.int .i64 k)]) (v := PV.tup [viewV kk kv l v, .lit (.int .i64 0)]) (fun s _ => by have := gopen_c kk kv l v k hv hl hk s; unfold openV at this; rw [hS] at this; simp only [h1, if_true] at this; exact this) rfl rfl ?_
   rintro (_ | _) h0
   ·exact absurd h0 (by decide)
   refine sc_pure (ps := [viewV kk kv l v, .lit (.int .i64 k)]) (v := .lit (.int .i64 (guessT l v k))) (fun s _ => gguess_c kk kv l v k hv hx hl hk s) rfl rfl ?_
   exact ⟨rfl, by unfold guessV; rw [hS]; simp only [h1, if_true]; rfl⟩
  ·exact bad (by unfold openV; rw [hS]; simp [h1]) (by unfold guessV; rw [hS]; simp [h1])
end Go.Pv

namespace Go.Pv
open Go.Proofs
set_option linter.unusedVariables false
set_option linter.unusedSimpArgs false
set_option maxRecDepth 100000
set_option maxHeartbeats 1000000
theorem Call_c (kk kv : VK) (l : List Tk) (v : List Int) (k : Nat) (t : Tk) (hv : AscV l.length v) (hl : v.length ≤ 1000000) (hk : k < v.length) (hS : seenAt l v k = some t) (h1 : t.kind = 1) (s : St) : PCalls Tryz.prog 183 [toks kk l, ints kv v, .lit (.int .i64 k)] s (fun r s' => s' = s ∧ r = .ret (.tup [.lit (.int .i64 (callT l v k).1), .lit (.int .i64 0)])) := by
 refine PCalls.fun (D := []) ti_ok Tryz.func183 rfl (by kernel_rfl) ?_
 refine sc_pure (ps := [toks kk l, ints kv v, .lit (.int .i64 k)]) (v := PV.tup [viewV kk kv l v, .lit (.int .i64 0)]) (fun s _ => by have := gopen_c kk kv l v k hv hl hk s; unfold openV at this; rw [hS] at this; simp only [h1, if_true] at this; exact this) rfl rfl ?_
 rintro (_ | _) h0
 ·exact absurd h0 (by decide)
 refine sc_pure (ps := [viewV kk kv l v, .lit (.int .i64 k)]) (v := PV.tup [.lit (.int .i64 (callT l v k).1), .lit (.bool (callT l v k).2)]) (fun s _ => vcall_c kk kv l v k hv.rng hl hk s) rfl rfl ?_
 exact ⟨rfl, rfl⟩
theorem callF_rng (l : List Tk) (v : List Int) (k N : Nat) (hk : k < N) : ∀ (n i : Nat) (d : Int), k + 1 ≤ i → i + n ≤ N → (k : Int) + 1 ≤ (callF l v k n i d).1 ∧ (callF l v k n i d).1 ≤ N
 | 0, i, d, hi, hn => ⟨Int.le_refl _, by show (k : Int) + 1 ≤ N; omega⟩
 | n + 1, i, d, hi, hn => by
  unfold callF
  split
  ·show (k : Int) + 1 ≤ (i : Int) + 1 ∧ (i : Int) + 1 ≤ N; omega
  ·exact callF_rng l v k N hk n (i + 1) _ (by omega) (by omega)
theorem callT_rng (l : List Tk) (v : List Int) (k : Nat) (hk : k < v.length) : (k : Int) + 1 ≤ (callT l v k).1 ∧ (callT l v k).1 ≤ v.length := by
 unfold callT
 split
 ·exact callF_rng l v k v.length hk _ _ _ (by omega) (by omega)
 ·exact ⟨Int.le_refl _, by show (k : Int) + 1 ≤ _; omega⟩
def tokV (l : List Tk) (v : List Int) (k : Nat) : Tk := l.getD (v.getD k 0).toNat zeroT
def gsV (l : List Tk) (v : List Int) (k : Nat) : Int := if (tokV l v k).kind = 1 then guessT l v k else 0
def sightF (l : List Tk) (v : List Int) : Nat → Nat → List (Nat × Int)
 | 0, _ => []
 | n + 1, k => if k < v.length then (if gsV l v k = 3 then sightF l v n (callT l v k).1.toNat else if (tokV l v k).kind ≠ 0 then (k, gsV l v k) :: sightF l v n (k + 1) else sightF l v n (k + 1)) else []
theorem sightF_fuel (l : List Tk) (v : List Int) : ∀ (n m k : Nat), v.length - k ≤ n → v.length - k ≤ m → sightF l v n k = sightF l v m k
 | 0, 0, k, _, _ => rfl
 | 0, m + 1, k, h1, h2 => by unfold sightF; rw [if_neg (by omega)]
 | n + 1, 0, k, h1, h2 => by unfold sightF; rw [if_neg (by omega)]
 | n + 1, m + 1, k, h1, h2 => by
  unfold sightF
  by_cases hk : k < v.length
  ·have := callT_rng l v k hk
   rw [if_pos hk, if_pos hk, sightF_fuel l v n m (k + 1) (by omega) (by omega), sightF_fuel l v n m (callT l v k).1.toNat (by omega) (by omega)]
  ·rw [if_neg hk, if_neg hk]
def sightL (l : List Tk) (v : List Int) : List (Nat × Int) := sightF l v v.length 0
structure SiteV (l : List Tk) (v : List Int) : Prop where
 asc : AscV l.length v
 line : ∀ k, k < v.length → (tokV l v k).kind ≠ 7
 last : ∀ k, k + 1 < v.length → (tokV l v k).kind ≠ 0
theorem tokV_get {l : List Tk} {v : List Int} (hv : AscV l.length v) {k : Nat} (hk : k < v.length) : ∃ q : Nat, v[k]? = some (q : Int) ∧ q < l.length ∧ l[q]? = some (tokV l v k) := by
 have hg := List.getElem?_eq_getElem hk
 have hr := hv.rng _ (List.getElem_mem hk)
 refine ⟨v[k].toNat, by rw [hg]; congr 1; omega, by omega, ?_⟩
 unfold tokV
 simp only [List.getD, hg, Option.getD]
 rw [List.getElem?_eq_getElem (show v[k].toNat < l.length by omega)]
theorem seenAt_tokV {l : List Tk} {v : List Int} (hv : AscV l.length v) {k : Nat} (hk : k < v.length) : seenAt l v k = if (tokV l v k).kind = 0 then none else some (tokV l v k) := by
 obtain ⟨q, h1, h2, h3⟩ := tokV_get hv hk
 unfold seenAt
 rw [if_neg (by omega)]
 have e : v.getD (k : Int).toNat 0 = (q : Int) := by simp [List.getD, h1]
 rw [e, Int.toNat_natCast, h3]
def svL (v : List Int) (S : List (Nat × Int)) : List Int := S.map fun x => v.getD x.1 0
def sgL (S : List (Nat × Int)) : List Int := S.map fun x => x.2
end Go.Pv

namespace Go.Pv
open Go.Proofs
set_option linter.unusedVariables false
set_option linter.unusedSimpArgs false
set_option maxRecDepth 100000
set_option maxHeartbeats 4000000
def iRw (l : List Int) : List (List PV) := l.map fun n => [.lit (.int .i64 n)]
@[reducible] def s1env (kk kv : VK) (l : List Tk) (v : List Int) (p i : Int) : SE := [(0, .av (.pv (toks kk l))), (1, .av (.pv (ints kv v))), (7, .av (.pv (.lit (.int .i64 p)))), (14, .av (.pv (ints kv v))), (15, .av (.pv (.lit (.int .i64 ((v.map fun n => PV.lit (.int .i64 n)).length : Nat))))), (16, .av (.pv (.lit (.int .i64 i))))]
@[reducible] def s2env (kk kv : VK) (l : List Tk) (v : List Int) (p q : SV) (i : Int) : SE := [(0, .av (.pv (toks kk l))), (1, .av (.pv (ints kv v))), (10, p), (11, q), (12, .av (.pv (.lit (.int .i64 i))))]
theorem sight_c (kk kv : VK) (l : List Tk) (v : List Int) (hv : SiteV l v) (hx : ∀ t ∈ l, t.text.size ≤ 1000000) (hl : v.length ≤ 1000000) (s : St) : PCalls Tryz.prog 119 [toks kk l, ints kv v] s (fun r s' => s' = s ∧ ∃ k0 : VK, r = .ret (.tup [ints k0 (svL v (sightL l v)), ints k0 (sgL (sightL l v)), .lit (.int .i64 0)])) := by
 refine PCalls.funF 2 (D := []) ti_ok Tryz.func119 rfl (by kernel_rfl) ?_
 have tokG : ∀ k, k < v.length → ∃ q : Nat, v[k]? = some (q : Int) ∧ q < l.length ∧ l[q]? = some (tokV l v k) := fun k hk => tokV_get hv.asc hk
 refine sw_loop (D := []) ti_ok (by kernel_rfl) (fun n env st b => ∃ (i : Nat) (p : Int), i + n = v.length ∧ (∀ q, v[i]? = some q → p < q) ∧ b = s ∧ env = s1env kk kv l v p (i : Nat) ∧ st = []) v.length ⟨[], [0, 1, 7, 14, 15, 16], rfl, 0, -1, by omega, fun q hq => by have := hv.asc.rng q (List.mem_of_getElem? hq); omega, rfl, rfl, rfl⟩ ?_
 rintro n env st b ⟨i, p, hi, hp, hb, rfl, rfl⟩
 subst b
 rintro (_ | _) ht
 rotate_left
 ·rw [List.length_map] at ht
  have hlt : i < v.length := by have := of_decide_eq_true ht; omega
  obtain ⟨q, h1, h2, h3⟩ := tokG i hlt
  have hpq := hp _ h1
  refine ⟨.lit (.int .i64 (q : Nat)), ⟨by omega, by rw [Int.toNat_natCast, List.getElem?_map, h1]; rfl, rfl⟩, ?_⟩
  rintro (_ | _) c1
  rotate_left
  ·have := of_decide_eq_true c1; omega
  rintro (_ | _) c2
  rotate_left
  ·have := of_decide_eq_true c2; rw [List.length_map] at this; omega
  refine ⟨encT (tokV l v i), ⟨by omega, by rw [Int.toNat_natCast, List.getElem?_map, h3]; rfl, rfl⟩, ?_⟩
  rintro (_ | _) c3
  rotate_left
  ·exact absurd (of_decide_eq_true c3) (hv.line i hlt)
  refine ⟨encT (tokV l v i), ⟨by omega, by rw [Int.toNat_natCast, List.getElem?_map, h3]; rfl, rfl⟩, ?_⟩
  have nx : s1env kk kv l v (q : Int) (IntKind.i64.wrap ((i : Int) + 1)) = s1env kk kv l v (q : Int) ((i + 1 : Nat) : Int) := by rw [incN (by omega)]
  have up : ∀ q', v[i + 1]? = some q' → (q : Int) < q' := fun q' hq' => hv.asc.up i _ _ h1 hq'
  rintro (_ | _) c4
  ·exact ⟨n - 1, by omega, [], [0, 1, 7, 14, 15, 16], rfl, i + 1, q, by omega, up, rfl, nx, rfl⟩
  rintro (_ | _) c5
  ·exact ⟨n - 1, by omega, [], [0, 1, 7, 14, 15, 16], rfl, i + 1, q, by omega, up, rfl, nx, rfl⟩
  ·have c5 := of_decide_eq_true c5
   rw [List.length_map, incN (by omega)] at c5
   exact absurd (of_decide_eq_true c4) (hv.last i (by omega))
 refine sw_loop (D := []) ti_ok (by kernel_rfl) (fun n env st b => ∃ (k : Nat) (L : List (Nat × Int)), k + n = v.length ∧ L ++ sightF l v (v.length - k) k = sightL l v ∧ L.length ≤ k ∧ b = s ∧ ((L = [] ∧ env = s2env kk kv l v (.av (.pv (.vec .nil []))) (.av (.pv (.vec .nil []))) (k : Nat) ∧ st = []) ∨ (L ≠ [] ∧ env = s2env kk kv l v (.av (.own 0)) (.av (.own 1)) (k : Nat) ∧ st = [some (.lst 3 1 (iRw (svL v L))), some (.lst 3 1 (iRw (sgL L)))]))) v.length ⟨[], [0, 1, 10, 11, 12], rfl, 0, [], by omega, by rw [Nat.sub_zero]; rfl, by simp, rfl, .inl ⟨rfl, rfl, rfl⟩⟩ ?_
 rintro m env st b ⟨k, L, hk, hL, hLk, hb, hor⟩
 subst b
 have stepA : ∀ hkl : k < v.length, gsV l v k = 3 → L ++ sightF l v (v.length - (callT l v k).1.toNat) (callT l v k).1.toNat = sightL l v := fun hkl hg => by
  have hr := callT_rng l v k hkl
  rw [← hL]
  congr 1
  rw [show v.length - k = (v.length - k - 1) + 1 by omega]
  conv => rhs; unfold sightF
  rw [if_pos hkl, if_pos hg]
  exact sightF_fuel l v _ _ _ (by omega) (by omega)
 have stepN : ∀ hkl : k < v.length, gsV l v k ≠ 3 → (tokV l v k).kind = 0 → L ++ sightF l v (v.length - (k + 1)) (k + 1) = sightL l v := fun hkl hg h0 => by
  rw [← hL]
  congr 1
  rw [show v.length - k = (v.length - k - 1) + 1 by omega]
  conv => rhs; unfold sightF
  rw [if_pos hkl, if_neg hg, if_neg (by simp [h0])]
  exact sightF_fuel l v _ _ _ (by omega) (by omega)
 have stepS : ∀ hkl : k < v.length, gsV l v k ≠ 3 → (tokV l v k).kind ≠ 0 → (L ++ [(k, gsV l v k)]) ++ sightF l v (v.length - (k + 1)) (k + 1) = sightL l v := fun hkl hg h0 => by
  rw [← hL, List.append_assoc]
  congr 1
  rw [show v.length - k = (v.length - k - 1) + 1 by omega]
  conv => rhs; unfold sightF
  rw [if_pos hkl, if_neg hg, if_pos h0]
  exact congrArg _ (sightF_fuel l v _ _ _ (by omega) (by omega))
 have fin : ¬ k < v.length → L = sightL l v := fun h => by
  rw [← hL, show v.length - k = 0 by omega]
  show L = L ++ []
  simp
 have snocV : ∀ q : Nat, v[k]? = some (q : Int) → svL v (L ++ [(k, gsV l v k)]) = svL v L ++ [(q : Int)] := fun q h => by simp [svL, List.getD, h]
 have snocG : sgL (L ++ [(k, gsV l v k)]) = sgL L ++ [gsV l v k] := by simp [sgL]
 have rowS : ∀ (l : List Int) (n : Int), iRw (l ++ [n]) = iRw l ++ [[.lit (.int .i64 n)]] := fun l n => by simp [iRw]
 rcases hor with ⟨hL0, rfl, rfl⟩ | ⟨hL0, rfl, rfl⟩
 ·rintro (_ | _) ht2
  ·rw [List.length_map] at ht2
   have := fin (by have := of_decide_eq_false ht2; omega)
   exact .inl (.inl ⟨rfl, .nil, by rw [← this, hL0]; rfl⟩)
  rw [List.length_map] at ht2
  have hkl : k < v.length := by have := of_decide_eq_true ht2; omega
  obtain ⟨q, h1, h2, h3⟩ := tokG k hkl
  have hS := seenAt_tokV hv.asc hkl
  have hr := callT_rng l v k hkl
  have ix : ∃ y : PV, (0 ≤ ((k : Nat) : Int) ∧ (v.map fun n => PV.lit (.int .i64 n))[((k : Nat) : Int).toNat]? = some y ∧ y.width = 1) := ⟨.lit (.int .i64 (q : Nat)), by omega, by rw [Int.toNat_natCast, List.getElem?_map, h1]; rfl, rfl⟩
  have nx : ∀ p q : SV, s2env kk kv l v p q (IntKind.i64.wrap ((k : Int) + 1)) = s2env kk kv l v p q ((k + 1 : Nat) : Int) := fun p q => by rw [incN (by omega)]
  refine ⟨.lit (.int .i64 (q : Nat)), ⟨by omega, by rw [Int.toNat_natCast, List.getElem?_map, h1]; rfl, rfl⟩, ?_⟩
  refine ⟨encT (tokV l v k), ⟨by omega, by rw [Int.toNat_natCast, List.getElem?_map, h3]; rfl, rfl⟩, ?_⟩
  rintro (_ | _) c1
  ·have c1 : ¬ (tokV l v k).kind = 1 := of_decide_eq_false c1
   have hg : gsV l v k = 0 := by unfold gsV; rw [if_neg c1]
   rintro (_ | _) c0
   rotate_left
   ·exact absurd c0 (by decide)
   refine ⟨.lit (.int .i64 (q : Nat)), ⟨by omega, by rw [Int.toNat_natCast, List.getElem?_map, h1]; rfl, rfl⟩, ?_⟩
   refine ⟨encT (tokV l v k), ⟨by omega, by rw [Int.toNat_natCast, List.getElem?_map, h3]; rfl, rfl⟩, ?_⟩
   rintro (_ | _) c2
   ·have c2 : ¬ (tokV l v k).kind = 0 := of_decide_eq_false c2
    have hst := stepS hkl (by rw [hg]; decide) c2
    refine ⟨.lit (.int .i64 (q : Nat)), ⟨by omega, by rw [Int.toNat_natCast, List.getElem?_map, h1]; rfl, rfl⟩, ?_⟩
    refine ⟨[[.lit (.int .i64 (q : Nat))]], rfl, (by simp), ?_⟩
    refine ⟨[[.lit (.int .i64 0)]], rfl, (by simp), ?_⟩
    refine ⟨m - 1, by omega, [0, 1], [0, 1, 10, 11, 12], rfl, k + 1, L ++ [(k, gsV l v k)], by omega, hst, by simp; omega, rfl, .inr ⟨by simp, nx _ _, ?_⟩⟩
    rw [snocV q h1, snocG, rowS, rowS, hg]
    subst hL0; rfl
   ·have c2 : (tokV l v k).kind = 0 := of_decide_eq_true c2
    exact ⟨m - 1, by omega, [], [0, 1, 10, 11, 12], rfl, k + 1, L, by omega, stepN hkl (by rw [hg]; decide) c2, by omega, rfl, .inl ⟨hL0, nx _ _, rfl⟩⟩
  ·have c1 : (tokV l v k).kind = 1 := of_decide_eq_true c1
   have hg : gsV l v k = guessT l v k := by unfold gsV; rw [if_pos c1]
   rw [if_neg (by omega)] at hS
   have hG : guessV l v k = .tup [.lit (.int .i64 (guessT l v k)), .lit (.int .i64 0)] := by unfold guessV; rw [hS]; simp only [c1, if_true]
   refine sc_pure (ps := [toks kk l, ints kv v, .lit (.int .i64 (k : Nat))]) (v := PV.tup [.lit (.int .i64 (guessT l v k)), .lit (.int .i64 0)]) (fun s2 _ => by rw [← hG]; exact Guess_c kk kv l v k hv.asc hx hl hkl s2) rfl rfl ?_
   rintro (_ | _) c3
   rotate_left
   ·have c3 : guessT l v k = 3 := of_decide_eq_true c3
    refine sc_pure (ps := [toks kk l, ints kv v, .lit (.int .i64 (k : Nat))]) (v := PV.tup [.lit (.int .i64 (callT l v k).1), .lit (.int .i64 0)]) (fun s2 _ => Call_c kk kv l v k _ hv.asc hl hkl hS c1 s2) rfl rfl ?_
    exact ⟨v.length - (callT l v k).1.toNat, by omega, [], [0, 1, 10, 11, 12], rfl, (callT l v k).1.toNat, L, by omega, stepA hkl (by rw [hg, c3]), by omega, rfl, .inl ⟨hL0, (show s2env kk kv l v (.av (.pv (.vec .nil []))) (.av (.pv (.vec .nil []))) (callT l v k).1 = s2env kk kv l v (.av (.pv (.vec .nil []))) (.av (.pv (.vec .nil []))) (((callT l v k).1.toNat : Nat) : Int) by congr 9; omega), rfl⟩⟩
   have c3 : ¬ guessT l v k = 3 := of_decide_eq_false c3
   refine ⟨.lit (.int .i64 (q : Nat)), ⟨by omega, by rw [Int.toNat_natCast, List.getElem?_map, h1]; rfl, rfl⟩, ?_⟩
   refine ⟨encT (tokV l v k), ⟨by omega, by rw [Int.toNat_natCast, List.getElem?_map, h3]; rfl, rfl⟩, ?_⟩
   rintro (_ | _) c2
   rotate_left
   ·have c2 : (tokV l v k).kind = 0 := of_decide_eq_true c2
    omega
   have c2 : ¬ (tokV l v k).kind = 0 := of_decide_eq_false c2
   have hst := stepS hkl (by rw [hg]; exact c3) c2
   refine ⟨.lit (.int .i64 (q : Nat)), ⟨by omega, by rw [Int.toNat_natCast, List.getElem?_map, h1]; rfl, rfl⟩, ?_⟩
   refine ⟨[[.lit (.int .i64 (q : Nat))]], rfl, (by simp), ?_⟩
   refine ⟨[[.lit (.int .i64 (guessT l v k))]], rfl, (by simp), ?_⟩
   refine ⟨m - 1, by omega, [0, 1], [0, 1, 10, 11, 12], rfl, k + 1, L ++ [(k, gsV l v k)], by omega, hst, by simp; omega, rfl, .inr ⟨by simp, nx _ _, ?_⟩⟩
   rw [snocV q h1, snocG, rowS, rowS, hg]
   subst hL0; rfl
 ·rintro (_ | _) ht2
  ·rw [List.length_map] at ht2
   have hf := fin (by have := of_decide_eq_false ht2; omega)
   refine .inr ⟨0, (svL v L).map fun n => .lit (.int .i64 n), _, _, _, rfl, by rw [List.map_map]; rfl, .inr ⟨1, (sgL L).map fun n => .lit (.int .i64 n), _, _, _, rfl, by rw [List.map_map]; rfl, rfl, .any, ?_⟩⟩
   rw [← hf]
   rfl
  have lenV : (svL v L).length = L.length := by simp [svL]
  have lenG : (sgL L).length = L.length := by simp [sgL]
  have lenR : ∀ x : List Int, (iRw x).length = x.length := fun x => by simp [iRw]
  rw [List.length_map] at ht2
  have hkl : k < v.length := by have := of_decide_eq_true ht2; omega
  obtain ⟨q, h1, h2, h3⟩ := tokG k hkl
  have hS := seenAt_tokV hv.asc hkl
  have hr := callT_rng l v k hkl
  have ix : ∃ y : PV, (0 ≤ ((k : Nat) : Int) ∧ (v.map fun n => PV.lit (.int .i64 n))[((k : Nat) : Int).toNat]? = some y ∧ y.width = 1) := ⟨.lit (.int .i64 (q : Nat)), by omega, by rw [Int.toNat_natCast, List.getElem?_map, h1]; rfl, rfl⟩
  have nx : ∀ p q : SV, s2env kk kv l v p q (IntKind.i64.wrap ((k : Int) + 1)) = s2env kk kv l v p q ((k + 1 : Nat) : Int) := fun p q => by rw [incN (by omega)]
  refine ⟨.lit (.int .i64 (q : Nat)), ⟨by omega, by rw [Int.toNat_natCast, List.getElem?_map, h1]; rfl, rfl⟩, ?_⟩
  refine ⟨encT (tokV l v k), ⟨by omega, by rw [Int.toNat_natCast, List.getElem?_map, h3]; rfl, rfl⟩, ?_⟩
  rintro (_ | _) c1
  ·have c1 : ¬ (tokV l v k).kind = 1 := of_decide_eq_false c1
   have hg : gsV l v k = 0 := by unfold gsV; rw [if_neg c1]
   rintro (_ | _) c0
   rotate_left
   ·exact absurd c0 (by decide)
   refine ⟨.lit (.int .i64 (q : Nat)), ⟨by omega, by rw [Int.toNat_natCast, List.getElem?_map, h1]; rfl, rfl⟩, ?_⟩
   refine ⟨encT (tokV l v k), ⟨by omega, by rw [Int.toNat_natCast, List.getElem?_map, h3]; rfl, rfl⟩, ?_⟩
   rintro (_ | _) c2
   ·have c2 : ¬ (tokV l v k).kind = 0 := of_decide_eq_false c2
    have hst := stepS hkl (by rw [hg]; decide) c2
    refine ⟨.lit (.int .i64 (q : Nat)), ⟨by omega, by rw [Int.toNat_natCast, List.getElem?_map, h1]; rfl, rfl⟩, ?_⟩
    refine ⟨[[.lit (.int .i64 (q : Nat))]], rfl, (by rw [lenR, lenV]; show (2 * (_ + 1) + 1000) * 8 ≤ _; omega), ?_⟩
    refine ⟨[[.lit (.int .i64 0)]], rfl, (by rw [lenR, lenG]; show (2 * (_ + 1) + 1000) * 8 ≤ _; omega), ?_⟩
    refine ⟨m - 1, by omega, [2, 3], [0, 1, 10, 11, 12], rfl, k + 1, L ++ [(k, gsV l v k)], by omega, hst, by simp; omega, rfl, .inr ⟨by simp, nx _ _, ?_⟩⟩
    rw [snocV q h1, snocG, rowS, rowS, hg]
    rfl
   ·have c2 : (tokV l v k).kind = 0 := of_decide_eq_true c2
    exact ⟨m - 1, by omega, [0, 1], [0, 1, 10, 11, 12], rfl, k + 1, L, by omega, stepN hkl (by rw [hg]; decide) c2, by omega, rfl, .inr ⟨hL0, nx _ _, rfl⟩⟩
  ·have c1 : (tokV l v k).kind = 1 := of_decide_eq_true c1
   have hg : gsV l v k = guessT l v k := by unfold gsV; rw [if_pos c1]
   rw [if_neg (by omega)] at hS
   have hG : guessV l v k = .tup [.lit (.int .i64 (guessT l v k)), .lit (.int .i64 0)] := by unfold guessV; rw [hS]; simp only [c1, if_true]
   refine sc_pure (ps := [toks kk l, ints kv v, .lit (.int .i64 (k : Nat))]) (v := PV.tup [.lit (.int .i64 (guessT l v k)), .lit (.int .i64 0)]) (fun s2 _ => by rw [← hG]; exact Guess_c kk kv l v k hv.asc hx hl hkl s2) rfl rfl ?_
   rintro (_ | _) c3
   rotate_left
   ·have c3 : guessT l v k = 3 := of_decide_eq_true c3
    refine sc_pure (ps := [toks kk l, ints kv v, .lit (.int .i64 (k : Nat))]) (v := PV.tup [.lit (.int .i64 (callT l v k).1), .lit (.int .i64 0)]) (fun s2 _ => Call_c kk kv l v k _ hv.asc hl hkl hS c1 s2) rfl rfl ?_
    exact ⟨v.length - (callT l v k).1.toNat, by omega, [0, 1], [0, 1, 10, 11, 12], rfl, (callT l v k).1.toNat, L, by omega, stepA hkl (by rw [hg, c3]), by omega, rfl, .inr ⟨hL0, (show s2env kk kv l v (.av (.own 0)) (.av (.own 1)) (callT l v k).1 = s2env kk kv l v (.av (.own 0)) (.av (.own 1)) (((callT l v k).1.toNat : Nat) : Int) by congr 9; omega), rfl⟩⟩
   have c3 : ¬ guessT l v k = 3 := of_decide_eq_false c3
   refine ⟨.lit (.int .i64 (q : Nat)), ⟨by omega, by rw [Int.toNat_natCast, List.getElem?_map, h1]; rfl, rfl⟩, ?_⟩
   refine ⟨encT (tokV l v k), ⟨by omega, by rw [Int.toNat_natCast, List.getElem?_map, h3]; rfl, rfl⟩, ?_⟩
   rintro (_ | _) c2
   rotate_left
   ·have c2 : (tokV l v k).kind = 0 := of_decide_eq_true c2
    omega
   have c2 : ¬ (tokV l v k).kind = 0 := of_decide_eq_false c2
   have hst := stepS hkl (by rw [hg]; exact c3) c2
   refine ⟨.lit (.int .i64 (q : Nat)), ⟨by omega, by rw [Int.toNat_natCast, List.getElem?_map, h1]; rfl, rfl⟩, ?_⟩
   refine ⟨[[.lit (.int .i64 (q : Nat))]], rfl, (by rw [lenR, lenV]; show (2 * (_ + 1) + 1000) * 8 ≤ _; omega), ?_⟩
   refine ⟨[[.lit (.int .i64 (guessT l v k))]], rfl, (by rw [lenR, lenG]; show (2 * (_ + 1) + 1000) * 8 ≤ _; omega), ?_⟩
   refine ⟨m - 1, by omega, [2, 3], [0, 1, 10, 11, 12], rfl, k + 1, L ++ [(k, gsV l v k)], by omega, hst, by simp; omega, rfl, .inr ⟨by simp, nx _ _, ?_⟩⟩
   rw [snocV q h1, snocG, rowS, rowS, hg]
   rfl
end Go.Pv

namespace Go.Pv
open Go.Proofs
set_option linter.unusedVariables false
set_option linter.unusedSimpArgs false
set_option maxRecDepth 100000
structure Cx where
 kl : VK
 kv : VK
 kg : VK
 l : List Tk
 v : List Nat
 g : List Int
 en : Nat
 it : Nat
 ty : List ByteArray
 mp : PV
@[reducible] def zT : Tk := ⟨0, ⟨#[]⟩, ⟨#[]⟩, 0⟩
def Cx.tk (c : Cx) (i : Nat) : Tk := match c.v[i]? with
 | some p => (match c.l[p]? with
  | some t => t
  | none => zT)
 | none => zT
def Cx.place (c : Cx) (i : Nat) : Nat := match c.v[i]? with
 | some p => p
 | none => c.en
def Cx.behind (c : Cx) (i : Nat) : Nat := match i with
 | 0 => c.place 0
 | i + 1 => (match c.v[i]? with
  | some p => p + 1
  | none => 0)
def Cx.is (c : Cx) (i : Nat) (u : ByteArray) : Bool := (decide ((c.tk i).kind = 6) || decide ((c.tk i).kind = 2)) && decide ((c.tk i).text = u)
structure Cx.ok (c : Cx) : Prop where
 v : ∀ p ∈ c.v, p < c.l.length
 l : c.l.length ≤ 1000000000
 vl : c.v.length ≤ 1000000
 tx : ∀ t ∈ c.l, t.text.size ≤ 1000000
 en : c.en ≤ 1000000000
 gl : c.g.length = c.v.length
 mp : c.mp = .lit (.map none)
@[reducible] def natL (k : VK) (l : List Nat) : PV := .vec k (l.map fun p => .lit (.int .i64 (p : Nat)))
@[reducible] def rdCells (c : Cx) (at_ : Int) (n : Int) : List PV := [toks c.kl c.l, natL c.kv c.v, ints c.kg c.g, .mp c.it, .lit (.int .i64 at_), .lit (.int .i64 (c.en : Nat)), .lit (.int .i64 n), c.mp]
@[reducible] def rdRow (c : Cx) (at_ : Int) (n : Int) : Blk := .row 126 8 [rdCells c at_ n]
theorem wrapN {n : Int} (h0 : 0 ≤ n) (h1 : n ≤ 1000000000000) : IntKind.i64.wrap n = n := wrap_i64 (by omega) (by omega)
section
variable {c : Cx} {s : St} {ir : Nat} {at_ n : Nat} {k : Int}
theorem outS_rd {b : St} {ty sz : Nat} {cs : List PV} (hl : cs.all PV.live = true) {x : SS} : outS b [ir] (some (.cel ty sz (cs.map .pv)) :: x) = some (b.upd ir (some (.row ty sz [cs]))) := by
 have : ∀ cs : List PV, cs.all PV.live = true → allPv (cs.map .pv) = some cs := by
  intro cs
  induction cs with
  | nil => intro _; rfl
  | cons a cs ih =>
   intro h
   rw [List.all_cons, Bool.and_eq_true] at h
   simp [allPv, h.1, ih h.2]
 simp only [outS, this cs hl]
theorem rd_live (hc : c.ok) (a m : Int) : (rdCells c a m).all PV.live = true := by
 have : c.mp.live = true := by rw [hc.mp]; rfl
 rw [show (rdCells c a m).all PV.live = (c.mp.live && true) from rfl, this]; rfl
theorem rd_end (hc : c.ok) {a m : Int} {K : St → Prop} {x : SS} (h : K (s.upd ir (some (rdRow c a m)))) : okS (outS (s.upd ir none) [ir] (some (.cel 126 8 ((rdCells c a m).map .pv)) :: x)) K := by
 rw [outS_rd (rd_live hc a m), St.upd_upd]
 exact h
theorem tk_some {i p : Nat} (h : c.v[i]? = some p) (hc : c.ok) : c.l[p]? = some (c.tk i) := by
 have hp := hc.v p (List.mem_of_getElem? h)
 unfold Cx.tk
 rw [h]
 simp only [List.getElem?_eq_getElem hp]
def Cx.known (c : Cx) (u : ByteArray) : Bool := c.ty.any fun x => decide (x = u)
def Cx.env (c : Cx) (s : St) : Prop := ∃ es, s c.it = some (.dict es) ∧ ∀ u, dget es u = if c.known u = true then some (PV.lit (.bool true)) else none
theorem Cx.env.sub {s' : St} (h : c.env s) (hs : s.sub s') : c.env s' := by
 obtain ⟨es, h1, h2⟩ := h
 exact ⟨es, hs _ _ h1, h2⟩
theorem Cx.env.upd (h : c.env s) {a m : Int} (hs : s ir = some (rdRow c a m)) (x : Option Blk) : c.env (s.upd ir x) := by
 obtain ⟨es, h1, h2⟩ := h
 refine ⟨es, ?_, h2⟩
 rw [St.upd_ne _ _ (fun e => by rw [e, hs] at h1; cases h1)]
 exact h1
inductive Out (α : Type) where
 | fuel
 | bad
 | ok (a : α) (i : Nat)
def flt : PanicEntry := { v := .iface 247 (.agg #[]), recovered := false }
def RQ (c : Cx) (f : FuncId) (xs : List PV) (at_ : Nat) (v : PV) : Prop := ∀ (s : St) (ir : Nat) (k : Int), c.env s → s ir = some (rdRow c at_ k) → PCalls Tryz.prog f (.pt ir 0 0 :: xs) s fun r s' => s' = s ∧ r = .ret v
def MR (c : Cx) (s : St) (ir : Nat) (o : Out PV) (r : Res) (s' : St) : Prop := match o with
 | .fuel => True
 | .bad => ∃ a' k', s' = s.upd ir (some (rdRow c a' k')) ∧ r = .pan [flt]
 | .ok p i => ∃ k', s' = s.upd ir (some (rdRow c (i : Nat) k')) ∧ r = .ret p
def MG (c : Cx) (f : FuncId) (xs : Nat → List PV) (at_ : Nat) (o : Out PV) : Prop := o ≠ .fuel → ∀ (s : St) (ir : Nat) (k : Int), c.env s → s ir = some (rdRow c at_ k) → PCalls Tryz.prog f (.pt ir 0 0 :: xs ir) s (MR c s ir o)
def MC (c : Cx) (f : FuncId) (xs : List PV) (at_ : Nat) (o : Out PV) : Prop := MG c f (fun _ => xs) at_ o
end
@[reducible] def rdLoc (c : Cx) (a m : Int) : Option Loc := some (.cel 126 8 ((rdCells c a m).map .pv))
def OutK (c : Cx) (st : SS) (j : Nat) (b : St) (K : SV → SS → St → Prop) (Kp : List PanicEntry → SS → St → Prop) : Out PV → Prop
 | .fuel => False
 | .bad => ∀ a' k', nm (st.set j (rdLoc c a' k')) fun st' => Kp [flt] st' b
 | .ok p i => ∀ k', nm (st.set j (rdLoc c (i : Nat) k')) fun st' => K (.av (.pv p)) st' b
section
variable {c : Cx} {imp : List Nat} {st : SS} {b : St} {K : SV → SS → St → Prop} {Kp : List PanicEntry → SS → St → Prop} {f : FuncId} {args : List SV}
theorem sc_q {j at_ : Nat} {aI m : Int} {xs : List PV} {v : PV} (hq : RQ c f xs at_ v) (hc : c.ok) (he : c.env b) (hst : st[j]? = some (rdLoc c aI m)) (ha : args = .av (.cell j 0) :: pvs xs) (hI : aI = (at_ : Nat)) (hl : xs.all PV.live = true) (hK : K (.av (.pv v)) st b) : SC Tryz.prog imp f args st b K Kp := by
 subst hI
 intro σ s qs hR hA
 subst ha
 obtain ⟨q, qs', rfl, h1, h2⟩ := hA.cons_inv
 obtain ⟨ps, p1, p2⟩ := hR.loc j _ hst
 have := avs_live (rd_live hc _ _) p1
 subst this
 rw [pvs_rel hl h2, show q = .pt (σ j) 0 0 from h1.2]
 refine (hq s (σ j) m (he.sub hR.sub) p2).mono ?_
 rintro _ s' ⟨rfl, rfl⟩
 exact liftV0 hR (v := .av (.pv v)) (Or.inr rfl) hK
theorem sc_g {j at_ : Nat} {aI m : Int} {xs : Nat → List PV} {vs : List SV} {o : Out PV} (hq : MG c f xs at_ o) (hc : c.ok) (he : c.env b) (hst : st[j]? = some (rdLoc c aI m)) (ha : args = .av (.cell j 0) :: vs) (hI : aI = (at_ : Nat)) (hl : ∀ σ ps, All2 (SVR σ st) vs ps → ps = xs (σ j))
  (hK : OutK c st j b K Kp o) : SC Tryz.prog imp f args st b K Kp := by
 subst hI
 intro σ s qs hR hA
 subst ha
 obtain ⟨q, qs', rfl, h1, h2⟩ := hA.cons_inv
 obtain ⟨ps, p1, p2⟩ := hR.loc j _ hst
 have := avs_live (rd_live hc _ _) p1
 subst this
 rw [hl σ _ h2, show q = .pt (σ j) 0 0 from h1.2]
 refine (hq (fun e => by subst e; exact hK.elim) s (σ j) m (he.sub hR.sub) p2).mono ?_
 intro r s' hr
 cases o with
 | fuel => exact hK.elim
 | bad =>
  obtain ⟨a', k', rfl, rfl⟩ := hr
  have hk := hK a' k'
  rw [nm_eq] at hk
  obtain ⟨k1, k2⟩ := hR.set (cs' := (rdCells c a' k').map .pv) hst pv_cells
  exact ⟨σ, _, b, k1, k2, hk⟩
 | ok p i =>
  obtain ⟨k', rfl, rfl⟩ := hr
  have hk := hK k'
  rw [nm_eq] at hk
  obtain ⟨k1, k2⟩ := hR.set (cs' := (rdCells c (i : Nat) k').map .pv) hst pv_cells
  exact ⟨σ, _, b, .av (.pv p), k1, k2, Or.inr rfl, hk⟩
theorem sc_m {j at_ : Nat} {aI m : Int} {xs : List PV} {o : Out PV} (hq : MC c f xs at_ o) (hc : c.ok) (he : c.env b) (hst : st[j]? = some (rdLoc c aI m)) (ha : args = .av (.cell j 0) :: pvs xs) (hI : aI = (at_ : Nat)) (hl : xs.all PV.live = true)
  (hK : OutK c st j b K Kp o) : SC Tryz.prog imp f args st b K Kp :=
 sc_g hq hc he hst ha hI (fun σ ps h => pvs_rel hl h) hK
theorem sc_f {j at_ : Nat} {aI m : Int} {w v : PV} {g : FuncId} (hq : ∀ (s : St) (ir : Nat) (k : Int), c.env s → s ir = some (rdRow c at_ k) → PCalls Tryz.prog f [w, .fn g [.pt ir 0 0] []] s fun r s' => s' = s ∧ r = .ret v) (hc : c.ok) (he : c.env b) (hst : st[j]? = some (rdLoc c aI m)) (ha : args = [.av (.pv w), .fnc g [.cell j 0] []]) (hI : aI = (at_ : Nat)) (hl : w.live = true) (hK : K (.av (.pv v)) st b) : SC Tryz.prog imp f args st b K Kp := by
 subst hI
 intro σ s qs hR hA
 subst ha
 obtain ⟨q, qs', rfl, h1, h2⟩ := hA.cons_inv
 obtain ⟨q2, qs2, rfl, h3, h4⟩ := h2.cons_inv
 obtain ⟨ps, p1, p2⟩ := hR.loc j _ hst
 have := avs_live (rd_live hc _ _) p1
 subst this
 obtain ⟨a', b', rfl, h5, h6⟩ := h3
 obtain ⟨x, xs, rfl, h7, h8⟩ := h5.cons_inv
 rw [h4.nil_inv, h8.nil_inv, h6.nil_inv, pvS h1 hl, show x = .pt (σ j) 0 0 from h7.2]
 refine (hq s (σ j) m (he.sub hR.sub) p2).mono ?_
 rintro _ s' ⟨rfl, rfl⟩
 exact liftV0 hR (v := .av (.pv v)) (Or.inr rfl) hK
theorem sc_ok {j at_ i : Nat} {aI m : Int} {xs : List PV} {p : PV} (hq : MC c f xs at_ (.ok p i)) (hc : c.ok) (he : c.env b) (hst : st[j]? = some (rdLoc c aI m)) (ha : args = .av (.cell j 0) :: pvs xs) (hI : aI = (at_ : Nat)) (hl : xs.all PV.live = true)
  (hK : ∀ k', nm (st.set j (rdLoc c (i : Nat) k')) fun st' => K (.av (.pv p)) st' b) : SC Tryz.prog imp f args st b K Kp := sc_m hq hc he hst ha hI hl hK
theorem sc_bad {j at_ : Nat} {aI m : Int} {xs : List PV} (hq : MC c f xs at_ .bad) (hc : c.ok) (he : c.env b) (hst : st[j]? = some (rdLoc c aI m)) (ha : args = .av (.cell j 0) :: pvs xs) (hI : aI = (at_ : Nat)) (hl : xs.all PV.live = true)
  (hK : ∀ a' k', nm (st.set j (rdLoc c a' k')) fun st' => Kp [flt] st' b) : SC Tryz.prog imp f args st b K Kp := sc_m hq hc he hst ha hI hl hK
end
section
variable {c : Cx} {s : St} {ir : Nat} {at_ n : Nat} {k : Int}
theorem rq_of {f : FuncId} {fn : Func} {code : Code} {D : Ord} {xs : List PV} {v : PV} (hf : Tryz.prog.funcs[f]? = some fn) (hb : fn.body = some code) (hn : ((fn.name != "runtime.NumGoroutine") && Nat.ble (xs.length + 1) fn.ntmps && dOk fn.ntmps code && dOkD D) = true)
  (h : ∀ (s : St) (ir : Nat) (k : Int), c.env (s.upd ir none) → s ir = some (rdRow c at_ k) → sx Tryz.prog TI0 fn.ntmps [ir] D code (argE 0 (.av (.cell 0 0) :: pvs xs)) [rdLoc c at_ k] (s.upd ir none) (endQ TI0 [ir] fn.results.toList fun r s' => s' = s ∧ r = .ret v)) : RQ c f xs at_ v := fun s ir k he hs =>
 PCalls.obj ti_ok hs hf hb hn (h s ir k (he.upd hs _) hs)
theorem mc_of {f : FuncId} {fn : Func} {code : Code} {D : Ord} {xs : List PV} {o : Out PV} (hf : Tryz.prog.funcs[f]? = some fn) (hb : fn.body = some code) (hn : ((fn.name != "runtime.NumGoroutine") && Nat.ble (xs.length + 1) fn.ntmps && dOk fn.ntmps code && dOkD D) = true)
  (h : ∀ (s : St) (ir : Nat) (k : Int), c.env (s.upd ir none) → s ir = some (rdRow c at_ k) → sx Tryz.prog TI0 fn.ntmps [ir] D code (argE 0 (.av (.cell 0 0) :: pvs xs)) [rdLoc c at_ k] (s.upd ir none) (endQ TI0 [ir] fn.results.toList (MR c s ir o))) : MC c f xs at_ o := fun _ s ir k he hs =>
 PCalls.obj ti_ok hs hf hb hn (h s ir k (he.upd hs _) hs)
theorem peek_c (hc : c.ok) (h0 : at_ ≤ 1000000000) (h1 : n ≤ 1000000000) : RQ c 256 [.lit (.int .i64 (n : Nat))] at_ (encT (c.tk (at_ + n))) := by
 have w : IntKind.i64.wrap ((at_ : Int) + n) = ((at_ + n : Nat) : Int) := by rw [wrapN (by omega) (by omega)]; omega
 refine rq_of (D := [(1, ([0, 1, 2, 4, 6, 7, 8, 3, 5, 9, 10, 11], [], [])), (3, ([0, 1, 2, 4, 5, 6, 8, 9, 10, 12, 3, 7, 11, 13, 14, 15, 16, 17, 18], [], []))]) Tryz.func256 rfl (by kernel_rfl) fun s ir k he hs => ?_
 refine ⟨by kernel_rfl, ?_⟩
 rintro (_ | _) ht
 ·rw [w, List.length_map] at ht
  have hlt : at_ + n < c.v.length := by have := of_decide_eq_false ht; omega
  have hp := List.getElem?_eq_getElem hlt
  refine ⟨by kernel_rfl, ?_⟩
  refine ⟨.lit (.int .i64 ((c.v[at_ + n] : Nat) : Int)), ⟨by omega, by rw [w, Int.toNat_natCast, List.getElem?_map, hp]; rfl, rfl⟩, ?_⟩
  refine ⟨encT (c.tk (at_ + n)), ⟨by omega, by rw [Int.toNat_natCast, List.getElem?_map, tk_some hp hc]; rfl, rfl⟩, ?_⟩
  refine rd_end hc ?_
  exact ⟨St.upd_self hs, rfl⟩
 ·rw [w, List.length_map] at ht
  have hle : c.v.length ≤ at_ + n := by have := of_decide_eq_true ht; omega
  refine rd_end hc ?_
  refine ⟨St.upd_self hs, ?_⟩
  have : c.tk (at_ + n) = zT := by unfold Cx.tk; rw [List.getElem?_eq_none hle]
  rw [this]
  rfl
theorem tok_c (hc : c.ok) (h0 : at_ ≤ 1000000000) : RQ c 200 [] at_ (encT (c.tk at_)) := by
 refine rq_of (D := []) Tryz.func200 rfl (by kernel_rfl) fun s ir k he hs => ?_
 refine sc_q (peek_c hc h0 (n := 0) (by omega)) hc he rfl rfl rfl rfl ?_
 refine rd_end hc ?_
 exact ⟨St.upd_self hs, rfl⟩
theorem place_c (hc : c.ok) (h0 : at_ ≤ 1000000000) : RQ c 69 [] at_ (.lit (.int .i64 (c.place at_ : Nat))) := by
 refine rq_of (D := [(1, ([0, 1, 2, 4, 5, 6, 3, 7, 8, 9], [], [])), (2, ([0, 1, 2, 4, 5, 6, 3, 7, 8, 9, 10], [], []))]) Tryz.func69 rfl (by kernel_rfl) fun s ir k he hs => ?_
 refine ⟨by kernel_rfl, ?_⟩
 rintro (_ | _) ht
 ·rw [List.length_map] at ht
  have hle : c.v.length ≤ at_ := by have := of_decide_eq_false ht; omega
  refine rd_end hc ?_
  refine ⟨St.upd_self hs, ?_⟩
  have : c.place at_ = c.en := by unfold Cx.place; rw [List.getElem?_eq_none hle]
  rw [this]; rfl
 ·rw [List.length_map] at ht
  have hlt : at_ < c.v.length := by have := of_decide_eq_true ht; omega
  have hp := List.getElem?_eq_getElem hlt
  refine ⟨by kernel_rfl, ?_⟩
  refine ⟨.lit (.int .i64 ((c.v[at_] : Nat) : Int)), ⟨by omega, by rw [Int.toNat_natCast, List.getElem?_map, hp]; rfl, rfl⟩, ?_⟩
  refine rd_end hc ?_
  refine ⟨St.upd_self hs, ?_⟩
  have : c.place at_ = c.v[at_] := by unfold Cx.place; rw [hp]
  rw [this]; rfl
theorem behind_c (hc : c.ok) (h0 : at_ ≤ c.v.length) : RQ c 129 [] at_ (.lit (.int .i64 (c.behind at_ : Nat))) := by
 have hvl := hc.vl
 refine rq_of (D := [(3, ([0, 1, 2, 4, 5, 6, 3, 7, 8, 9, 10, 11, 12], [], []))]) Tryz.func129 rfl (by kernel_rfl) fun s ir k he hs => ?_
 rintro (_ | _) ht
 ·have hne : at_ ≠ 0 := by have := of_decide_eq_false ht; omega
  obtain ⟨i, rfl⟩ : ∃ i, at_ = i + 1 := ⟨at_ - 1, by omega⟩
  have hp := List.getElem?_eq_getElem (show i < c.v.length by omega)
  have hlt := hc.v _ (List.mem_of_getElem? hp)
  have hl := hc.l
  have w : IntKind.i64.wrap (((i + 1 : Nat) : Int) - 1) = (i : Nat) := by rw [wrapN (by omega) (by omega)]; omega
  have w2 : IntKind.i64.wrap ((c.v[i] : Nat) + 1 : Int) = ((c.v[i] + 1 : Nat) : Int) := by rw [wrapN (by omega) (by omega)]; omega
  refine ⟨by kernel_rfl, ?_⟩
  refine ⟨.lit (.int .i64 ((c.v[i] : Nat) : Int)), ⟨by omega, by rw [w, Int.toNat_natCast, List.getElem?_map, hp]; rfl, rfl⟩, ?_⟩
  refine rd_end hc ?_
  refine ⟨St.upd_self hs, ?_⟩
  have : c.behind (i + 1) = c.v[i] + 1 := by unfold Cx.behind; simp only [hp]
  rw [this, ← w2]; rfl
 ·have hz : at_ = 0 := by have := of_decide_eq_true ht; omega
  subst hz
  refine sc_q (place_c hc (by omega)) hc he rfl rfl rfl rfl ?_
  refine rd_end hc ?_
  exact ⟨St.upd_self hs, rfl⟩
theorem is_c (hc : c.ok) (h0 : at_ ≤ 1000000000) (u : ByteArray) : RQ c 189 [.lit (.string u)] at_ (.lit (.bool (c.is at_ u))) := by
 refine rq_of (D := []) Tryz.func189 rfl (by kernel_rfl) fun s ir k he hs => ?_
 refine sc_q (tok_c hc h0) hc he rfl rfl rfl rfl ?_
 rintro (_ | _) h1
 ·rintro (_ | _) h2
  ·refine rd_end hc ⟨St.upd_self hs, ?_⟩
   rw [show c.is at_ u = false by simp [Cx.is, h1, h2]]; rfl
  ·rintro t h3
   refine rd_end hc ⟨St.upd_self hs, ?_⟩
   rw [show c.is at_ u = t by simp [Cx.is, h1, h2, h3]]; rfl
 ·rintro t h3
  refine rd_end hc ⟨St.upd_self hs, ?_⟩
  rw [show c.is at_ u = t by simp [Cx.is, h1, h3]]; rfl
end
end Go.Pv

namespace Go.Pv
open Go.Proofs
set_option linter.unusedVariables false
set_option linter.unusedSimpArgs false
set_option maxRecDepth 100000
section
variable {c : Cx} {s : St} {ir : Nat} {at_ n : Nat} {k : Int}
theorem wrong_c {aI : Int} {p : PV} (hs : s ir = some (rdRow c aI k)) : PCalls Tryz.prog 194 [p] s fun r s' => s' = s ∧ r = .pan [flt] := by
 refine PCalls.of Tryz.func194 rfl (by rfl) (by simp [Tryz.ntmps194]) ?_
 intro r B g a w hr hH hE hd
 refine wpR_region ?_
 have hN : ∀ (t : Nat), t < 4 → ∀ u : Tmp, some t = some u → u < Tryz.f194.ntmps := fun t ht u hu => by cases hu; exact ht
 have h1 : ∀ w : World, (Instr.build 247 #[]).run Tryz.prog w = .ok (.agg #[]) w := fun w => by
  obtain ⟨u, hu, hv⟩ := bld_sound (P := Tryz.prog) (w := w) (g := g) (N := 0) (e := fun _ => .junk) (a := { tmps := #[], defers := [] }) ⟨rfl, fun t => .junk _⟩ (t := 247) (parts := #[]) (r := .agg []) (by kernel_rfl)
  have hu' : (Instr.build 247 #[]).run Tryz.prog w = .ok u w := by simpa using hu
  rw [hu']
  cases hv with
  | agg _ vs hl h1 h2 =>
   have : vs = #[] := Array.eq_empty_of_size_eq_zero (by simpa using hl)
   rw [this]
 have h2 : ∀ (v : Value) (w : World), (Instr.makeInterface 247 v).run Tryz.prog w = .ok (.iface 247 v) w := fun v w => run_makeInterface w _ v (by kernel_rfl)
 unfold wpListR
 rw [if_pos (by rfl)]
 refine ⟨fun c hc => (by cases hc), ?_⟩
 have e1 : (execOp a.eval ⟨some 2, .build 247 #[], 247, "parse.go:55", #[], none⟩).run Tryz.prog w = .ok (.value (.agg #[])) w := by
  simp only [execOp, List.map_toArray, List.map_nil, Sem.run_bind, h1, Result.andThen_ok, Sem.run_pure]
 rw [e1]
 show wpListR _ _ _ _ _ _
 have hE1 := hE.put (d := some 2) (fun u hu => by cases hu; decide) (p := .junk) (v := .agg #[]) (.junk _)
 generalize ha1 : a.put (some 2) (.agg #[]) = a1 at hE1
 have hd1 : a1.defers = a.defers := by rw [← ha1]; rfl
 unfold wpListR
 rw [if_pos (by rfl)]
 refine ⟨fun c hc => (by cases hc), ?_⟩
 have hv1 : a1.eval (.tmp 2) = .agg #[] := by
  rw [← ha1]
  simp only [Act.put, Act.eval]
  have := hE.size
  rw [Array.getD_eq_getD_getElem?, Array.getElem?_setIfInBounds]
  simp [this]
 have e2 : (execOp a1.eval ⟨some 3, .makeInterface 247 (.tmp 2), 20, "parse.go:55", #[{ on := 0, ground := .data }], none⟩).run Tryz.prog w = .ok (.value (.iface 247 (.agg #[]))) w := by
  simp only [execOp, Sem.run_bind, hv1, h2, Result.andThen_ok, Sem.run_pure]
 rw [e2]
 show wpListR _ _ _ _ _ _
 have hE2 := hE1.put (d := some 3) (fun u hu => by cases hu; decide) (p := .junk) (v := .iface 247 (.agg #[])) (.junk _)
 generalize ha2 : a1.put (some 3) (.iface 247 (.agg #[])) = a2 at hE2
 have hd2 : a2.defers = a.defers := by rw [← ha2, ← hd1]; rfl
 unfold wpListR
 rw [if_pos (by rfl)]
 refine ⟨fun c hc => (by cases hc), ?_⟩
 have hv2 : a2.eval (.tmp 3) = .iface 247 (.agg #[]) := by
  rw [← ha2]
  simp only [Act.put, Act.eval]
  have := hE1.size
  rw [Array.getD_eq_getD_getElem?, Array.getElem?_setIfInBounds]
  simp [this]
 have e3 : (execOp a2.eval ⟨none, .panic (.tmp 3), 0, "parse.go:55", #[{ on := 1, ground := .data }], none⟩).run Tryz.prog w = .halt (.panic (.iface 247 (.agg #[]))) w := by
  simp only [execOp, Sem.run_bind, hv2, run_panic_iface]
  rfl
 rw [e3]
 exact ⟨_, s, g, .refl _ _, hH, hE2, by rw [hd2]; exact hd, s, sub_refl, rfl, rfl⟩
theorem wrong_m : MC c 194 [] at_ .bad := fun _ s ir k he hs =>
 (wrong_c hs).mono fun r s' h => ⟨at_, k, by rw [h.1]; exact (St.upd_self hs).symm, h.2⟩
theorem Cx.ok.lt (hc : c.ok) {u : ByteArray} (h : c.is at_ u = true) : at_ < c.v.length := by
 rcases Nat.lt_or_ge at_ c.v.length with h1 | h1
 ·exact h1
 ·exfalso
  have : c.tk at_ = zT := by unfold Cx.tk; rw [List.getElem?_eq_none h1]
  simp [Cx.is, this] at h
theorem Cx.ok.ltk (hc : c.ok) (h : (c.tk at_).kind ≠ 0) : at_ < c.v.length := by
 rcases Nat.lt_or_ge at_ c.v.length with h1 | h1
 ·exact h1
 ·exfalso
  have : c.tk at_ = zT := by unfold Cx.tk; rw [List.getElem?_eq_none h1]
  exact h (by rw [this])
theorem inc (h0 : at_ ≤ 1000000000) : IntKind.i64.wrap ((at_ : Int) + 1) = ((at_ + 1 : Nat) : Int) := by rw [wrapN (by omega) (by omega)]; omega
def Cx.eat (c : Cx) (at_ : Nat) (u : ByteArray) : Nat := bif c.is at_ u then at_ + 1 else at_
theorem eat_c (hc : c.ok) (h0 : at_ ≤ 1000000000) (u : ByteArray) : MC c 198 [.lit (.string u)] at_ (.ok (.lit (.bool (c.is at_ u))) (c.eat at_ u)) := by
 unfold Cx.eat
 obtain ⟨t, ht⟩ : ∃ t, c.is at_ u = t := ⟨_, rfl⟩
 have hq := is_c hc h0 u
 rw [ht] at hq ⊢
 refine mc_of (D := []) Tryz.func198 rfl (by kernel_rfl) fun s ir k he hs => ?_
 refine sc_q hq hc he rfl rfl rfl rfl ?_
 cases t
 ·refine rd_end hc ⟨k, rfl, rfl⟩
 ·refine rd_end hc ⟨k, ?_, rfl⟩
  show s.upd ir (some (rdRow c (IntKind.i64.wrap ((at_ : Int) + 1)) k)) = _
  rw [inc h0]; rfl
theorem want_c (hc : c.ok) (h0 : at_ ≤ 1000000000) (u : ByteArray) : MC c 184 [.lit (.string u)] at_ (if c.is at_ u = true then .ok (.tup []) (at_ + 1) else .bad) := by
 have hq := eat_c hc h0 u
 unfold Cx.eat at hq
 obtain ⟨t, ht⟩ : ∃ t, c.is at_ u = t := ⟨_, rfl⟩
 rw [ht] at hq ⊢
 refine mc_of (D := []) Tryz.func184 rfl (by kernel_rfl) fun s ir k he hs => ?_
 refine sc_ok hq hc he rfl rfl rfl rfl fun k' => ?_
 cases t
 ·refine sc_bad wrong_m hc he rfl rfl rfl rfl fun a' k' => ?_
  exact rd_end hc ⟨a', k', rfl, rfl⟩
 ·exact rd_end hc ⟨k', rfl, rfl⟩
theorem name_c (hc : c.ok) (h0 : at_ ≤ 1000000000) : MC c 188 [] at_ (if (c.tk at_).kind = 1 then .ok (.lit (.string (c.tk at_).text)) (at_ + 1) else .bad) := by
 refine mc_of (D := []) Tryz.func188 rfl (by kernel_rfl) fun s ir k he hs => ?_
 refine sc_q (tok_c hc h0) hc he rfl rfl rfl rfl ?_
 rintro (_ | _) h1
 ·rw [if_neg (of_decide_eq_false h1)]
  refine sc_bad wrong_m hc he rfl rfl rfl rfl fun a' k' => ?_
  exact rd_end hc ⟨a', k', rfl, rfl⟩
 ·rw [if_pos (of_decide_eq_true h1)]
  refine rd_end hc ⟨k, ?_, rfl⟩
  show s.upd ir (some (rdRow c (IntKind.i64.wrap ((at_ : Int) + 1)) k)) = _
  rw [inc h0]
theorem sign_c (hc : c.ok) (h0 : at_ ≤ 1000000000) (h1 : n ≤ 1000000000) (u : ByteArray) : RQ c 252 [.lit (.int .i64 (n : Nat)), .lit (.string u)] at_ (.lit (.bool (decide ((c.tk (at_ + n)).kind = 6) && decide ((c.tk (at_ + n)).text = u)))) := by
 refine rq_of (D := []) Tryz.func252 rfl (by kernel_rfl) fun s ir k he hs => ?_
 refine sc_q (peek_c hc h0 h1) hc he rfl rfl rfl rfl ?_
 rintro (_ | _) h2
 ·refine rd_end hc ⟨St.upd_self hs, ?_⟩
  rw [h2]; rfl
 ·rintro t h3
  refine rd_end hc ⟨St.upd_self hs, ?_⟩
  rw [h2, h3]; rfl
def Cx.nodeN (c : Cx) (op : Int) (u : ByteArray) (fr at_ : Nat) (l : List Nd) : Nd := ⟨op, u, 0, fr, (max (c.behind at_) fr : Nat), l⟩
theorem MC.wk {f : FuncId} {xs : List PV} {p p' : PV} {i : Nat} (h : MC c f xs at_ (.ok p i)) (hw : Wk p p') : MC c f xs at_ (.ok p' i) := fun _ s ir k he hs => by
 refine (h (by simp) s ir k he hs).conv (fun q s' hq => ?_) (fun ch s' hq => ?_)
 ·obtain ⟨k', rfl, hr⟩ := hq
  cases hr
  exact ⟨p', _, .wk (.cons hw .nil), k', rfl, rfl⟩
 ·obtain ⟨k', _, hr⟩ := hq
  cases hr
theorem node_c (hc : c.ok) (h0 : at_ ≤ c.v.length) (op : Int) (u : ByteArray) (fr : Nat) (kk : VK) (l : List Nd) (ps : List PV) (hp : ps = l.map enc) : MC c 71 [.lit (.int .i64 op), .lit (.string u), .lit (.int .i64 (fr : Nat)), .vec kk ps] at_ (.ok (encU (c.nodeN op u fr at_ l)) at_) := by
 have hvl := hc.vl
 subst hp
 refine MC.wk (p := .agg [.lit (.int .i64 op), .lit (.string u), .lit (.int .i64 0), .lit (.int .i64 (fr : Nat)), .lit (.int .i64 (max ((c.behind at_ : Nat) : Int) ((fr : Nat) : Int))), .vec kk (l.map enc)]) ?_ ?_
 ·refine mc_of (D := []) Tryz.func71 rfl (by kernel_rfl) fun s ir k he hs => ?_
  refine sc_q (behind_c hc h0) hc he rfl rfl rfl rfl ?_
  exact rd_end hc ⟨IntKind.i64.wrap (k + 1), rfl, rfl⟩
 ·have : ((max (c.behind at_) fr : Nat) : Int) = max ((c.behind at_ : Nat) : Int) ((fr : Nat) : Int) := by omega
  simp only [encU, Cx.nodeN, this]
  exact .aggs (.cons (.refl _) (.cons (.refl _) (.cons (.refl _) (.cons (.refl _) (.cons (.refl _) (.cons (.any kk _) .nil))))))
end
@[reducible] def strL (k : VK) (l : List ByteArray) : PV := .vec k (l.map fun u => .lit (.string u))
def Cx.idx (c : Cx) (at_ : Nat) : List ByteArray → Nat → Int
 | [], _ => -1
 | u :: r, i => if c.is at_ u = true then (i : Nat) else c.idx at_ r (i + 1)
section
variable {c : Cx} {s : St} {ir : Nat} {at_ n : Nat} {k : Int}
theorem SRel.oneF {i : Nat} (hs : s i = some (rdRow c at_ k)) (v : PV) {f : FuncId} : All2 (SVR (fun _ => i) [rdLoc c at_ k]) [.av (.pv v), .fnc f [.cell 0 0] []] [v, .fn f [.pt i 0 0] []] :=
 .cons (Or.inr rfl) (.cons ⟨[.pt i 0 0], [], rfl, .cons ⟨by simp, rfl⟩ .nil, .nil⟩ .nil)
theorem idx_c (hc : c.ok) (h0 : at_ ≤ 1000000000) (he : c.env s) (hs : s ir = some (rdRow c at_ k)) (kk : VK) (l : List ByteArray) (hl : l.length ≤ 1000000) : PCalls Tryz.prog 304 [strL kk l, .fn 189 [.pt ir 0 0] []] s fun r s' => s' = s ∧ r = .ret (.lit (.int .i64 (c.idx at_ l 0))) := by
 refine PCalls.sx (D := []) ti_ok (SRel.one hs) (SRel.oneF hs _) Tryz.func304 rfl (by kernel_rfl) ?_
 have heb := he.upd hs none
 refine sw_loop (D := []) ti_ok (by kernel_rfl) (fun n env st b => ∃ i : Nat, i + n = l.length ∧ env = [(0, .av (.pv (strL kk l))), (1, .fnc 189 [.cell 0 0] []), (7, .av (.pv (.lit (.int .i64 ((l.map fun u => PV.lit (.string u)).length : Nat))))), (8, .av (.pv (.lit (.int .i64 (i : Nat)))))] ∧ st = [rdLoc c at_ k] ∧ b = s.upd ir none ∧ c.idx at_ (l.drop i) i = c.idx at_ l 0) l.length ⟨[0], [0, 1, 7, 8], rfl, 0, by omega, rfl, rfl, rfl, rfl⟩ ?_
 rintro n env st b ⟨i, hi, rfl, rfl, rfl, hx⟩
 rintro (_ | _) ht
 ·rw [List.length_map] at ht
  have hle : l.length ≤ i := by have := of_decide_eq_false ht; omega
  rw [List.drop_eq_nil_of_le hle] at hx
  refine rd_end hc ⟨St.upd_self hs, ?_⟩
  rw [← hx]; rfl
 ·rw [List.length_map] at ht
  have hlt : i < l.length := by have := of_decide_eq_true ht; omega
  have hg := List.getElem?_eq_getElem hlt
  rw [List.drop_eq_getElem_cons hlt, Cx.idx] at hx
  refine ⟨.lit (.string l[i]), ⟨by omega, by rw [Int.toNat_natCast, List.getElem?_map, hg]; rfl, rfl⟩, ?_⟩
  refine sc_q (is_c hc h0 l[i]) hc heb rfl rfl rfl rfl ?_
  cases hb : c.is at_ l[i] with
  | true =>
   rw [hb, if_pos rfl] at hx
   refine rd_end hc ⟨St.upd_self hs, ?_⟩
   rw [← hx]; rfl
  | false =>
   rw [hb, if_neg (by simp)] at hx
   refine ⟨n - 1, by omega, [0], [0, 1, 7, 8], rfl, i + 1, by omega, ?_, rfl, rfl, hx⟩
   rw [← inc (show i ≤ 1000000000 by omega)]; rfl
theorem hit_c (hc : c.ok) (h0 : at_ ≤ 1000000000) (he : c.env s) (hs : s ir = some (rdRow c at_ k)) (kk : VK) (l : List ByteArray) (hl : l.length ≤ 1000000) : PCalls Tryz.prog 286 [strL kk l, .fn 189 [.pt ir 0 0] []] s fun r s' => s' = s ∧ r = .ret (.lit (.bool (decide (0 ≤ c.idx at_ l 0)))) := by
 refine PCalls.sx (D := []) ti_ok (SRel.one hs) (SRel.oneF hs _) Tryz.func286 rfl (by kernel_rfl) ?_
 refine sc_f (fun s ir k he hs => idx_c hc h0 he hs kk l hl) hc (he.upd hs _) rfl rfl rfl rfl ?_
 rintro t rfl
 exact rd_end hc ⟨St.upd_self hs, rfl⟩
def Cx.among (c : Cx) (at_ : Nat) (l : List ByteArray) : Bool := decide (0 ≤ c.idx at_ l 0)
theorem amongR_c (hc : c.ok) (h0 : at_ ≤ 1000000000) (kk : VK) (l : List ByteArray) (hl : l.length ≤ 1000000) : RQ c 250 [strL kk l] at_ (.lit (.bool (c.among at_ l))) := by
 refine rq_of (D := []) Tryz.func250 rfl (by kernel_rfl) fun s ir k he hs => ?_
 refine sc_f (fun s ir k he hs => hit_c hc h0 he hs kk l hl) hc he rfl rfl rfl rfl ?_
 exact rd_end hc ⟨St.upd_self hs, rfl⟩
end
def basesL : List ByteArray := [⟨#[105, 110, 116]⟩, ⟨#[99, 104, 97, 114]⟩, ⟨#[115, 104, 111, 114, 116]⟩, ⟨#[108, 111, 110, 103]⟩, ⟨#[115, 105, 103, 110, 101, 100]⟩, ⟨#[117, 110, 115, 105, 103, 110, 101, 100]⟩, ⟨#[118, 111, 105, 100]⟩]
def assignsL : List ByteArray := [⟨#[61]⟩, ⟨#[43, 61]⟩, ⟨#[45, 61]⟩, ⟨#[42, 61]⟩, ⟨#[47, 61]⟩, ⟨#[37, 61]⟩, ⟨#[38, 61]⟩, ⟨#[124, 61]⟩, ⟨#[94, 61]⟩, ⟨#[60, 60, 61]⟩, ⟨#[62, 62, 61]⟩]
def levelsL : List (List ByteArray) := [[⟨#[124, 124]⟩], [⟨#[38, 38]⟩], [⟨#[124]⟩], [⟨#[94]⟩], [⟨#[38]⟩], [⟨#[61, 61]⟩, ⟨#[33, 61]⟩], [⟨#[60]⟩, ⟨#[60, 61]⟩, ⟨#[62]⟩, ⟨#[62, 61]⟩], [⟨#[60, 60]⟩, ⟨#[62, 62]⟩], [⟨#[43]⟩, ⟨#[45]⟩], [⟨#[42]⟩, ⟨#[47]⟩, ⟨#[37]⟩]]
theorem bases_c (s : St) : PCalls Tryz.prog 284 [] s fun r s' => s' = s ∧ r = .ret (strL .tight basesL) :=
 PCalls.fun (D := []) ti_ok Tryz.func284 rfl (by kernel_rfl) (by exact ⟨rfl, rfl⟩)
theorem assigns_c (s : St) : PCalls Tryz.prog 269 [] s fun r s' => s' = s ∧ r = .ret (strL .tight assignsL) :=
 PCalls.fun (D := []) ti_ok Tryz.func269 rfl (by kernel_rfl) (by exact ⟨rfl, rfl⟩)
theorem levels_c (s : St) : PCalls Tryz.prog 310 [] s fun r s' => s' = s ∧ r = .ret (.agg (levelsL.map fun l => strL .tight l)) :=
 PCalls.fun (D := []) ti_ok Tryz.func310 rfl (by kernel_rfl) (by exact ⟨rfl, rfl⟩)
end Go.Pv

namespace Go.Pv
set_option linter.unusedVariables false
def Out.bind {α β : Type} (o : Out α) (f : α → Nat → Out β) : Out β := match o with
 | .fuel => .fuel
 | .bad => .bad
 | .ok a i => f a i
@[simp] theorem Out.bind_fuel {α β : Type} (f : α → Nat → Out β) : Out.bind .fuel f = .fuel := rfl
@[simp] theorem Out.bind_bad {α β : Type} (f : α → Nat → Out β) : Out.bind .bad f = .bad := rfl
@[simp] theorem Out.bind_ok {α β : Type} (a : α) (i : Nat) (f : α → Nat → Out β) : Out.bind (.ok a i) f = f a i := rfl
def Out.map {α β : Type} (o : Out α) (f : α → β) : Out β := match o with
 | .fuel => .fuel
 | .bad => .bad
 | .ok a i => .ok (f a) i
@[simp] theorem Out.map_fuel {α β : Type} (f : α → β) : Out.map .fuel f = .fuel := rfl
@[simp] theorem Out.map_bad {α β : Type} (f : α → β) : Out.map .bad f = .bad := rfl
@[simp] theorem Out.map_ok {α β : Type} (a : α) (i : Nat) (f : α → β) : Out.map (.ok a i) f = .ok (f a) i := rfl
inductive Nm where
 | always | typed | casted
inductive NT where
 | expr | assign | choice | binary (k : Nat) | cast | unary | post | primary | value | initial | sizes
 | args (f : Nd) (fr : Nat)
 | dclr (b : Bool) | dclrs (b : Bool) | decl (m : Nm)
 | stat | block | other (fr : Nat) | loop (fr : Nat) | marked | nested | used (b : Bool)
def qualsL : List ByteArray := [⟨#[99, 111, 110, 115, 116]⟩, ⟨#[118, 111, 108, 97, 116, 105, 108, 101]⟩]
def tagsL : List ByteArray := [⟨#[115, 116, 114, 117, 99, 116]⟩, ⟨#[117, 110, 105, 111, 110]⟩, ⟨#[101, 110, 117, 109]⟩]
def beginL : List ByteArray := [⟨#[99, 111, 110, 115, 116]⟩, ⟨#[118, 111, 108, 97, 116, 105, 108, 101]⟩, ⟨#[115, 116, 114, 117, 99, 116]⟩, ⟨#[117, 110, 105, 111, 110]⟩, ⟨#[101, 110, 117, 109]⟩]
def wordsL : List ByteArray := [⟨#[115, 116, 97, 116, 105, 99]⟩, ⟨#[101, 120, 116, 101, 114, 110]⟩, ⟨#[99, 111, 110, 115, 116]⟩, ⟨#[118, 111, 108, 97, 116, 105, 108, 101]⟩]
def unaryL : List ByteArray := [⟨#[33]⟩, ⟨#[126]⟩, ⟨#[45]⟩, ⟨#[43]⟩, ⟨#[42]⟩, ⟨#[38]⟩, ⟨#[43, 43]⟩, ⟨#[45, 45]⟩]
def blank : ByteArray := ⟨#[32]⟩
namespace Cx
variable (c : Cx)
def kind (i : Nat) : Int := (c.tk i).kind
def text (i : Nat) : ByteArray := (c.tk i).text
def sg (i : Nat) (u : ByteArray) : Bool := decide ((c.tk i).kind = 6) && decide ((c.tk i).text = u)
def skip (p : Nat → Bool) (i : Nat) : Nat := scanW p c.v.length i
def quals (i : Nat) : Nat := c.skip (fun j => c.among j qualsL) i
def first (l : List ByteArray) (i : Nat) : Option ByteArray := l.find? fun u => c.is i u
def wordsF (l : List ByteArray) : Nat → Nat → ByteArray → ByteArray × Nat
 | 0, i, a => (a, i)
 | n + 1, i, a => if c.among i l = true then wordsF l n (i + 1) ((if a = ⟨#[]⟩ then a else a ++ blank) ++ c.text i) else (a, i)
def words (l : List ByteArray) (i : Nat) : ByteArray × Nat := c.wordsF l (c.v.length - i) i ⟨#[]⟩
def typed (i : Nat) : Bool := c.known (c.text i) || decide (c.kind (i + 1) = 1) || (let k := c.skip (fun j => c.sg j ⟨#[42]⟩) (i + 1)
 decide (k ≠ i + 1) && decide (c.kind k = 1) && (c.sg (k + 1) ⟨#[61]⟩ || c.sg (k + 1) ⟨#[59]⟩ || c.sg (k + 1) ⟨#[44]⟩ || c.sg (k + 1) ⟨#[91]⟩))
def casted (i : Nat) : Bool := c.known (c.text i) || (let k := c.skip (fun j => c.sg j ⟨#[42]⟩) (i + 1)
 decide (i + 1 < k) && c.sg k ⟨#[41]⟩)
def nm (m : Nm) (i : Nat) : Bool := match m with
 | .always => true
 | .typed => c.typed i
 | .casted => c.casted i
def begins (m : Nm) (i : Nat) : Bool := c.among i beginL || c.among i basesL || (decide (c.kind i = 1) && c.nm m i)
def base (m : Nm) (i0 : Nat) : Out ByteArray :=
 let i := c.quals i0
 if c.among i tagsL = true then (if c.kind (i + 1) = 1 then .ok (c.text i ++ (blank ++ c.text (i + 1))) (c.quals (i + 2)) else .bad)
 else if c.among i basesL = true then .ok (c.words basesL i).1 (c.quals (c.words basesL i).2)
 else if c.kind i = 1 ∧ c.nm m i = true then .ok (c.text i) (c.quals (i + 1))
 else .bad
def starsF : Nat → Nat → Nat → Nat × Nat
 | 0, i, k => (k, i)
 | n + 1, i, k => if c.is i ⟨#[42]⟩ = true then starsF n (c.quals (i + 1)) (k + 1) else (k, i)
def stars (i : Nat) : Nat × Nat := c.starsF (c.v.length - i) i 0
def starred (m : Nm) (i : Nat) : Out Nd := (c.base m i).bind fun u j => .ok { c.nodeN 10 u (c.place i) (c.stars j).2 [] with n := ((c.stars j).1 : Nat) } (c.stars j).2
def simple (m : Nm) (i : Nat) : Out Nd := (c.base m i).bind fun u j => .ok (c.nodeN 10 u (c.place i) j []) j
def ahead (i : Nat) : Bool := c.is i ⟨#[40]⟩ && c.begins .casted (i + 1)
def guessed (i : Nat) : Int := if c.kind i = 1 then (match c.g[i]? with
 | some g => g
 | none => 0) else 0
def strsF : Nat → Nat → ByteArray → ByteArray × Nat
 | 0, i, a => (a, i)
 | n + 1, i, a => if c.kind i = 5 then strsF n (i + 1) (a ++ (blank ++ c.text i)) else (a, i)
def want (i : Nat) (u : ByteArray) {α : Type} (f : Nat → Out α) : Out α := if c.is i u = true then f (i + 1) else .bad
def commas (p : Nat → Out Nd) : Nat → List Nd → Nat → Out (List Nd)
 | 0, _, _ => .fuel
 | n + 1, acc, i => if c.is i ⟨#[44]⟩ = true then (p (i + 1)).bind fun x j => commas p n (acc ++ [x]) j else .ok acc i
section
variable (p : NT → Nat → Out Nd) (n : Nat)
def exprS (i : Nat) : Out Nd := (p .assign i).bind fun x j => if c.is j ⟨#[44]⟩ = true then (c.commas (p .assign) n [x] j).bind fun l j => .ok (c.nodeN 65 ⟨#[]⟩ (c.place i) j l) j else .ok x j
def assignS (i : Nat) : Out Nd := (p .choice i).bind fun x j => match c.first assignsL j with
 | some u => (p .assign (j + 1)).bind fun y j => .ok (c.nodeN 58 u (c.place i) j [x, y]) j
 | none => .ok x j
def choiceS (i : Nat) : Out Nd := (p (.binary 0) i).bind fun x j => if c.is j ⟨#[63]⟩ = true then (p .expr (j + 1)).bind fun y j => c.want j ⟨#[58]⟩ fun j => (p .choice j).bind fun z j => .ok (c.nodeN 59 ⟨#[]⟩ (c.place i) j [x, y, z]) j else .ok x j
def binF (k : Nat) (fr : Nat) : Nat → Nd → Nat → Out Nd
 | 0, _, _ => .fuel
 | n + 1, x, i => match c.first (levelsL.getD k []) i with
  | none => .ok x i
  | some u => (p (.binary (k + 1)) (i + 1)).bind fun y j => binF k fr n (c.nodeN 55 u fr j [x, y]) j
def binaryS (k : Nat) (i : Nat) : Out Nd := if k = 10 then p .cast i else (p (.binary (k + 1)) i).bind fun x j => c.binF p k (c.place i) n x j
def castS (i : Nat) : Out Nd := if c.ahead i = true then (c.starred .casted (i + 1)).bind fun t j => c.want j ⟨#[41]⟩ fun j => (p .cast j).bind fun x j => .ok (c.nodeN 63 ⟨#[]⟩ (c.place i) j [t, x]) j else p .unary i
def unaryS (i : Nat) : Out Nd :=
 if c.is i ⟨#[115, 105, 122, 101, 111, 102]⟩ = true then (if c.ahead (i + 1) = true then (c.starred .casted (i + 2)).bind fun t j => c.want j ⟨#[41]⟩ fun j => .ok (c.nodeN 64 ⟨#[]⟩ (c.place i) j [t]) j
  else (p .unary (i + 1)).bind fun x j => .ok (c.nodeN 56 ⟨#[115, 105, 122, 101, 111, 102]⟩ (c.place i) j [x]) j)
 else match c.first unaryL i with
  | some u => (p .cast (i + 1)).bind fun x j => .ok (c.nodeN 56 u (c.place i) j [x]) j
  | none => p .post i
def primaryS (i : Nat) : Out Nd :=
 if c.kind i = 1 then .ok (c.nodeN 50 (c.text i) (c.place i) (i + 1) []) (i + 1)
 else if c.kind i = 3 then .ok (c.nodeN 51 (c.text i) (c.place i) (i + 1) []) (i + 1)
 else if c.kind i = 4 then .ok (c.nodeN 52 (c.text i) (c.place i) (i + 1) []) (i + 1)
 else if c.kind i = 5 then .ok (c.nodeN 53 (c.strsF (c.v.length - (i + 1)) (i + 1) (c.text i)).1 (c.place i) (c.strsF (c.v.length - (i + 1)) (i + 1) (c.text i)).2 []) (c.strsF (c.v.length - (i + 1)) (i + 1) (c.text i)).2
 else c.want i ⟨#[40]⟩ fun j => (p .expr j).bind fun x j => c.want j ⟨#[41]⟩ fun j => .ok (c.nodeN 54 ⟨#[]⟩ (c.place i) j [x]) j
def postF (fr : Nat) : Nat → Nd → Nat → Out Nd
 | 0, _, _ => .fuel
 | n + 1, x, i =>
  if c.is i ⟨#[40]⟩ = true then (p (.args x fr) i).bind fun y j => postF fr n y j
  else if c.is i ⟨#[91]⟩ = true then (p .expr (i + 1)).bind fun y j => c.want j ⟨#[93]⟩ fun j => postF fr n (c.nodeN 61 ⟨#[]⟩ fr j [x, y]) j
  else if c.among i [⟨#[46]⟩, ⟨#[45, 62]⟩] = true then (if c.kind (i + 1) = 1 then postF fr n (c.nodeN 62 (c.text i ++ (blank ++ c.text (i + 1))) fr (i + 2) [x]) (i + 2) else .bad)
  else if c.among i [⟨#[43, 43]⟩, ⟨#[45, 45]⟩] = true then postF fr n (c.nodeN 57 (c.text i) fr (i + 1) [x]) (i + 1)
  else .ok x i
def postS (i : Nat) : Out Nd := (p .primary i).bind fun x j => c.postF p (c.place i) n x j
def argsS (f : Nd) (fr : Nat) (i : Nat) : Out Nd := c.want i ⟨#[40]⟩ fun i =>
 (if c.is i ⟨#[41]⟩ = true then (.ok [f] i : Out (List Nd)) else (p .assign i).bind fun x j => c.commas (p .assign) n [f, x] j).bind fun l j => c.want j ⟨#[41]⟩ fun j => .ok (c.nodeN 60 ⟨#[]⟩ fr j l) j
def sizesF : Nat → List Nd → Nat → Out (List Nd)
 | 0, _, _ => .fuel
 | n + 1, acc, i => if c.is i ⟨#[91]⟩ = true then (if c.is (i + 1) ⟨#[93]⟩ = true then (.ok [] (i + 1) : Out (List Nd)) else (p .expr (i + 1)).bind fun x j => .ok [x] j).bind fun l j => c.want j ⟨#[93]⟩ fun j => sizesF n (acc ++ [c.nodeN 11 ⟨#[]⟩ (c.place i) j l]) j else .ok acc i
def initialS (i : Nat) : Out Nd := (p .value i).bind fun x j => .ok (c.nodeN 9 ⟨#[]⟩ (c.place i) j [x]) j
def valueF : Nat → List Nd → Nat → Out (List Nd)
 | 0, _, _ => .fuel
 | n + 1, acc, i => if c.is i ⟨#[125]⟩ = true then .ok acc i else (p .value i).bind fun x j => if c.is j ⟨#[44]⟩ = true then valueF n (acc ++ [x]) (j + 1) else .ok (acc ++ [x]) j
def valueS (i : Nat) : Out Nd := if c.is i ⟨#[123]⟩ = true then (c.valueF p n [] (i + 1)).bind fun l j => c.want j ⟨#[125]⟩ fun j => .ok (c.nodeN 66 ⟨#[]⟩ (c.place i) j l) j else p .assign i
def listN (l : List Nd) : Nd := ⟨0, ⟨#[]⟩, 0, 0, 0, l⟩
def dclrS (b : Bool) (i : Nat) : Out Nd :=
 let k := c.skip (fun j => c.is j ⟨#[42]⟩) i
 if c.kind k = 1 then (p .sizes (k + 1)).bind fun l j => (if b = true ∧ c.is j ⟨#[61]⟩ = true then (p .initial (j + 1)).bind fun x j => .ok (l.l ++ [x]) j else (.ok l.l j : Out (List Nd))).bind fun l j => .ok { c.nodeN 8 (c.text k) (c.place i) j l with n := ((k - i : Nat) : Int) } j
 else .bad
def dclrsS (b : Bool) (i : Nat) : Out Nd := (p (.dclr b) i).bind fun x j => (c.commas (p (.dclr b)) n [x] j).bind fun l j => c.want j ⟨#[59]⟩ fun j => .ok (listN l) j
def declS (m : Nm) (i : Nat) : Out Nd := (c.simple m (c.words wordsL i).2).bind fun t j => (p (.dclrs true) j).bind fun l j => .ok (c.nodeN 3 (c.words wordsL i).1 (c.place i) j (t :: l.l)) j
def nestedS (i : Nat) : Out Nd := c.want i ⟨#[40]⟩ fun i => (p .expr i).bind fun x j => c.want j ⟨#[41]⟩ fun j => .ok x j
def usedS (b : Bool) (i : Nat) : Out Nd := if c.kind i = 1 then (if c.is (i + 1) ⟨#[40]⟩ = true then p (.args (c.nodeN 50 (c.text i) (c.place i) (i + 1) []) (c.place i)) (i + 1) else if b = true then .bad else .ok (c.nodeN 50 (c.text i) (c.place i) (i + 1) []) (i + 1)) else .bad
def markedS (i : Nat) : Out Nd := if c.is i ⟨#[125]⟩ = true then .ok ⟨34, ⟨#[]⟩, 0, (c.place i : Nat), (c.place i : Nat), []⟩ i else p .stat i
def blockF : Nat → List Nd → Nat → Out (List Nd)
 | 0, _, _ => .fuel
 | n + 1, acc, i => if c.is i ⟨#[125]⟩ = true then .ok acc i else (p .stat i).bind fun x j => blockF n (acc ++ [x]) j
def blockS (i : Nat) : Out Nd := c.want i ⟨#[123]⟩ fun j => (c.blockF p n [] j).bind fun l j => c.want j ⟨#[125]⟩ fun j => .ok (c.nodeN 20 ⟨#[]⟩ (c.place i) j l) j
def partN (op : Int) (fr i : Nat) (l : List Nd) : Nd := match l with
 | [] => ⟨op, ⟨#[]⟩, 0, fr, fr, []⟩
 | x :: l => c.nodeN op ⟨#[]⟩ fr i (x :: l)
def perhaps (u : ByteArray) (i : Nat) : Out (List Nd) := if c.is i u = true then .ok [] i else (p .expr i).bind fun x j => .ok [x] j
def loopS (fr : Nat) (i : Nat) : Out Nd := c.want i ⟨#[40]⟩ fun i =>
 (if (c.among i [⟨#[115, 116, 97, 116, 105, 99]⟩, ⟨#[101, 120, 116, 101, 114, 110]⟩] || c.begins .typed i) = true then (p (.decl .typed) i).bind fun d j => (.ok [c.nodeN 37 ⟨#[]⟩ (c.place i) j [d]] j : Out (List Nd))
 else (c.perhaps p ⟨#[59]⟩ i).bind fun l j => c.want j ⟨#[59]⟩ fun j' => .ok [c.partN 37 (c.place i) j l] j').bind fun l i =>
 (c.perhaps p ⟨#[59]⟩ i).bind fun t j => c.want j ⟨#[59]⟩ fun j' =>
 (c.perhaps p ⟨#[41]⟩ j').bind fun u k => c.want k ⟨#[41]⟩ fun k' =>
 (p .stat k').bind fun x m => .ok (c.nodeN 24 ⟨#[]⟩ fr m (l ++ [c.partN 38 (c.place i) j t, c.partN 39 (c.place j') k u, x])) m
def otherS (fr : Nat) (i : Nat) : Out Nd :=
 if c.kind i = 1 ∧ c.sg (i + 1) ⟨#[58]⟩ = true then (p .marked (i + 2)).bind fun x j => .ok (c.nodeN 28 (c.text i) fr j [x]) j
 else if c.guessed i = 1 then (p (.used true) i).bind fun u j => (p .stat j).bind fun x j => .ok (c.nodeN 36 ⟨#[]⟩ fr j [u, x]) j
 else if c.guessed i = 2 then (p (.used false) i).bind fun u j => .ok (c.nodeN 35 ⟨#[]⟩ fr j [u]) j
 else if (c.among i [⟨#[115, 116, 97, 116, 105, 99]⟩, ⟨#[101, 120, 116, 101, 114, 110]⟩] || c.begins .typed i) = true then p (.decl .typed) i
 else (p .expr i).bind fun x j => c.want j ⟨#[59]⟩ fun j => .ok (c.nodeN 33 ⟨#[]⟩ fr j [x]) j
def statS (i : Nat) : Out Nd :=
 if c.kind i = 2 ∧ c.text i = ⟨#[98, 114, 101, 97, 107]⟩ then c.want (i + 1) ⟨#[59]⟩ fun j => .ok (c.nodeN 31 ⟨#[]⟩ (c.place i) j []) j
 else if c.kind i = 2 ∧ c.text i = ⟨#[99, 111, 110, 116, 105, 110, 117, 101]⟩ then c.want (i + 1) ⟨#[59]⟩ fun j => .ok (c.nodeN 32 ⟨#[]⟩ (c.place i) j []) j
 else if c.is i ⟨#[123]⟩ = true then p .block i
 else if c.is i ⟨#[59]⟩ = true then .ok (c.nodeN 34 ⟨#[]⟩ (c.place i) (i + 1) []) (i + 1)
 else if c.is i ⟨#[105, 102]⟩ = true then (p .nested (i + 1)).bind fun x j => (p .stat j).bind fun y j => if c.is j ⟨#[101, 108, 115, 101]⟩ = true then (p .stat (j + 1)).bind fun z j => .ok (c.nodeN 21 ⟨#[]⟩ (c.place i) j [x, y, z]) j else .ok (c.nodeN 21 ⟨#[]⟩ (c.place i) j [x, y]) j
 else if c.is i ⟨#[119, 104, 105, 108, 101]⟩ = true then (p .nested (i + 1)).bind fun x j => (p .stat j).bind fun y j => .ok (c.nodeN 22 ⟨#[]⟩ (c.place i) j [x, y]) j
 else if c.is i ⟨#[115, 119, 105, 116, 99, 104]⟩ = true then (p .nested (i + 1)).bind fun x j => (p .stat j).bind fun y j => .ok (c.nodeN 25 ⟨#[]⟩ (c.place i) j [x, y]) j
 else if c.is i ⟨#[100, 111]⟩ = true then (p .stat (i + 1)).bind fun x j => c.want j ⟨#[119, 104, 105, 108, 101]⟩ fun j => (p .nested j).bind fun y j => c.want j ⟨#[59]⟩ fun j => .ok (c.nodeN 23 ⟨#[]⟩ (c.place i) j [x, y]) j
 else if c.is i ⟨#[102, 111, 114]⟩ = true then p (.loop (c.place i)) (i + 1)
 else if c.is i ⟨#[99, 97, 115, 101]⟩ = true then (p .expr (i + 1)).bind fun x j => c.want j ⟨#[58]⟩ fun j => (p .marked j).bind fun y j => .ok (c.nodeN 26 ⟨#[]⟩ (c.place i) j [x, y]) j
 else if c.is i ⟨#[100, 101, 102, 97, 117, 108, 116]⟩ = true then c.want (i + 1) ⟨#[58]⟩ fun j => (p .marked j).bind fun y j => .ok (c.nodeN 27 ⟨#[]⟩ (c.place i) j [y]) j
 else if c.is i ⟨#[103, 111, 116, 111]⟩ = true then (if c.kind (i + 1) = 1 then c.want (i + 2) ⟨#[59]⟩ fun j => .ok (c.nodeN 29 (c.text (i + 1)) (c.place i) j []) j else .bad)
 else if c.is i ⟨#[114, 101, 116, 117, 114, 110]⟩ = true then (if c.is (i + 1) ⟨#[59]⟩ = true then (.ok [] (i + 1) : Out (List Nd)) else (p .expr (i + 1)).bind fun x j => .ok [x] j).bind fun l j => c.want j ⟨#[59]⟩ fun j => .ok (c.nodeN 30 ⟨#[]⟩ (c.place i) j l) j
 else p (.other (c.place i)) i
def step : NT → Nat → Out Nd
 | .expr => c.exprS p n
 | .assign => c.assignS p
 | .choice => c.choiceS p
 | .binary k => c.binaryS p n k
 | .cast => c.castS p
 | .unary => c.unaryS p
 | .post => c.postS p n
 | .primary => c.primaryS p
 | .value => c.valueS p n
 | .initial => c.initialS p
 | .sizes => fun i => (c.sizesF p n [] i).bind fun l j => .ok (listN l) j
 | .args f fr => c.argsS p n f fr
 | .dclr b => c.dclrS p b
 | .dclrs b => c.dclrsS p n b
 | .decl m => c.declS p m
 | .stat => c.statS p
 | .block => c.blockS p n
 | .other fr => c.otherS p fr
 | .loop fr => c.loopS p fr
 | .marked => c.markedS p
 | .nested => c.nestedS p
 | .used b => c.usedS p b
end
def run : Nat → NT → Nat → Out Nd
 | 0 => fun _ _ => .fuel
 | n + 1 => c.step (run n) n
end Cx
end Go.Pv

namespace Go.Pv
open Go.Proofs
set_option linter.unusedVariables false
set_option linter.unusedSimpArgs false
set_option maxRecDepth 100000
section
variable {c : Cx} {s : St} {ir : Nat} {at_ n : Nat} {k : Int}
theorem idx_is {i : Nat} : ∀ {l : List ByteArray} {m : Nat}, 0 ≤ c.idx i l m → ∃ u ∈ l, c.is i u = true
 | [], m, h => by simp [Cx.idx] at h
 | u :: l, m, h => by
  unfold Cx.idx at h
  split at h
  ·rename_i hu; exact ⟨u, List.mem_cons_self, hu⟩
  ·obtain ⟨v, h1, h2⟩ := idx_is h; exact ⟨v, List.mem_cons_of_mem _ h1, h2⟩
theorem among_lt (hc : c.ok) {i : Nat} {l : List ByteArray} (h : c.among i l = true) : i < c.v.length := by
 obtain ⟨u, _, hu⟩ := idx_is (of_decide_eq_true h)
 exact hc.lt hu
theorem text_le (hc : c.ok) (i : Nat) : (c.tk i).text.size ≤ 1000000 := by
 cases h : c.v[i]? with
 | none =>
  have : c.tk i = zT := by unfold Cx.tk; rw [h]
  rw [this]; show 0 ≤ _; omega
 | some p => exact hc.tx _ (List.mem_of_getElem? (tk_some h hc))
theorem wordsF_stop {l : List ByteArray} {f i : Nat} {a : ByteArray} (h : c.among i l = false) : c.wordsF l f i a = (a, i) := by
 cases f with
 | zero => rfl
 | succ f => unfold Cx.wordsF; rw [h, if_neg (by simp)]
theorem wordsF_go {l : List ByteArray} {i : Nat} {a : ByteArray} (hc : c.ok) (h : c.among i l = true) : c.wordsF l (c.v.length - i) i a = c.wordsF l (c.v.length - (i + 1)) (i + 1) ((if a = ⟨#[]⟩ then a else a ++ blank) ++ c.text i) := by
 have := among_lt hc h
 rw [show c.v.length - i = (c.v.length - (i + 1)) + 1 by omega]
 rw [Cx.wordsF, if_pos h]
theorem size_app (a b : ByteArray) : (a ++ b).size = a.size + b.size := ByteArray.size_append ..
theorem words_c (hc : c.ok) (h0 : at_ ≤ c.v.length) : MC c 191 [] at_ (.ok (.lit (.string (c.words wordsL at_).1)) (c.words wordsL at_).2) := by
 have hvl := hc.vl
 refine mc_of (D := []) Tryz.func191 rfl (by kernel_rfl) fun s ir k he hs => ?_
 refine sw_loop (D := []) ti_ok (by kernel_rfl) (fun n env st b => ∃ (j : Nat) (a : ByteArray) (k : Int), j + n = c.v.length ∧ a.size ≤ j * 1000001 ∧ env = [(0, .av (.cell 0 0)), (3, .av (.pv (.lit (.string a))))] ∧ st = [rdLoc c (j : Nat) k] ∧ b = s.upd ir none ∧ c.wordsF wordsL (c.v.length - j) j a = c.words wordsL at_) (c.v.length - at_) ⟨[0], [0, 3], rfl, at_, ⟨#[]⟩, k, by omega, Nat.zero_le _, rfl, rfl, rfl, rfl⟩ ?_
 rintro n env st b ⟨j, a, k, hj, ha, rfl, rfl, rfl, hx⟩
 obtain ⟨t, ht⟩ : ∃ t, c.among j wordsL = t := ⟨_, rfl⟩
 have hq := amongR_c hc (show j ≤ 1000000000 by omega) .tight wordsL (by decide)
 rw [ht] at hq
 refine sc_q hq hc he rfl rfl rfl rfl ?_
 cases t
 ·rw [wordsF_stop ht] at hx
  rw [← hx]
  exact rd_end hc ⟨k, rfl, rfl⟩
 ·have hlt := among_lt hc ht
  rw [wordsF_go hc ht] at hx
  have hb : a.size ≤ 2000000000000 := by omega
  have htx := text_le hc j
  rintro (_ | _) h1
  ·have h1 := of_decide_eq_false h1
   rw [if_neg h1] at hx
   refine ⟨by show a.size + 1 ≤ _; omega, ?_⟩
   refine sc_q (tok_c hc (show j ≤ 1000000000 by omega)) hc he rfl rfl rfl rfl ?_
   refine ⟨by rw [size_app]; show a.size + 1 + _ ≤ _; omega, ?_⟩
   refine ⟨n - 1, by omega, [0], [0, 3], rfl, j + 1, _, k, by omega, ?_, rfl, ?_, rfl, hx⟩
   ·rw [size_app, size_app]; show a.size + 1 + _ ≤ _; show _ + (c.tk j).text.size ≤ _; omega
   ·rw [← inc (show j ≤ 1000000000 by omega)]; rfl
  ·have h1 := of_decide_eq_true h1
   rw [if_pos h1] at hx
   refine sc_q (tok_c hc (show j ≤ 1000000000 by omega)) hc he rfl rfl rfl rfl ?_
   refine ⟨by omega, ?_⟩
   refine ⟨n - 1, by omega, [0], [0, 3], rfl, j + 1, _, k, by omega, ?_, rfl, ?_, rfl, hx⟩
   ·rw [size_app]; show _ + (c.tk j).text.size ≤ _; omega
   ·rw [← inc (show j ≤ 1000000000 by omega)]; rfl
theorem q1r {imp : List Nat} {σ : Nat → Nat} {st : SS} {b s : St} {j : Nat} {aI m : Int} {f : FuncId} {xs qs : List PV} {v : PV} (hq : RQ c f xs at_ v) (hc : c.ok) (he : c.env b) (hst : st[j]? = some (rdLoc c aI m)) (hI : aI = (at_ : Nat)) (hl : xs.all PV.live = true) (hR : SRel imp σ st b s) (hA : All2 (SVR σ st) (.av (.cell j 0) :: pvs xs) qs) : PCalls Tryz.prog f qs s fun r s' => s' = s ∧ r = .ret v := by
 subst hI
 obtain ⟨q, qs', rfl, h1, h2⟩ := hA.cons_inv
 obtain ⟨ps, p1, p2⟩ := hR.loc j _ hst
 have := avs_live (rd_live hc _ _) p1
 subst this
 rw [pvs_rel hl h2, show q = .pt (σ j) 0 0 from h1.2]
 exact hq s (σ j) m (he.sub hR.sub) p2
theorem sg_lt (hc : c.ok) {i : Nat} {u : ByteArray} (h : c.sg i u = true) : i < c.v.length := by
 rcases Nat.lt_or_ge i c.v.length with h1 | h1
 ·exact h1
 ·exfalso
  have : c.tk i = zT := by unfold Cx.tk; rw [List.getElem?_eq_none h1]
  simp [Cx.sg, this] at h
theorem skip_go {p : Nat → Bool} {i : Nat} (h : i < c.v.length) (hp : p i = true) : c.skip p i = c.skip p (i + 1) := scanW_step h hp
theorem skip_stop {p : Nat → Bool} {i : Nat} (hp : p i = false) : c.skip p i = i := scanW_stop hp
theorem signQ (hc : c.ok) (h0 : at_ ≤ 1000000000) (h1 : n ≤ 1000000000) (u : ByteArray) : RQ c 252 [.lit (.int .i64 (n : Nat)), .lit (.string u)] at_ (.lit (.bool (c.sg (at_ + n) u))) := sign_c hc h0 h1 u
@[reducible] def cN (c : Cx) : Cx := { c with mp := .lit (.map none) }
theorem Cx.ok.eqN (hc : c.ok) : c = cN c := by
 have := hc.mp
 cases c
 simp only [cN] at *
 rw [this]
theorem casted_c (hc : c.ok) (h0 : at_ ≤ c.v.length) : RQ c 318 [] at_ (.lit (.bool (c.casted at_))) := by
 have hvl := hc.vl
 obtain ⟨c, rfl⟩ : ∃ d, c = cN d := ⟨c, hc.eqN⟩
 refine rq_of (D := [(3, ([0, 1, 2, 4, 3, 5, 6, 7], [(5, 1)], []))]) Tryz.func318 rfl (by kernel_rfl) fun s ir k he hs => ?_
 obtain ⟨es, he1, he2⟩ := he
 have he : Cx.env (cN c) (s.upd ir none) := ⟨es, he1, he2⟩
 refine ⟨by kernel_rfl, ?_⟩
 refine ⟨_, fun σ s qs hR hA => q1r (j := 0) (xs := []) (tok_c hc (by omega)) hc he rfl rfl rfl hR hA, ?_⟩
 refine ⟨es, he1, fun r hr => ?_⟩
 rw [he2] at hr
 obtain ⟨t, ht⟩ : ∃ t, (cN c).known ((cN c).tk at_).text = t := ⟨_, rfl⟩
 rw [ht] at hr
 cases t
 ·cases hr
  refine sw_loop (D := []) ti_ok (by kernel_rfl) (fun n env st b => ∃ q : Nat, at_ + q + n = (cN c).v.length + 1 ∧ env = [(0, .av (.cell 0 0)), (3, .av (.pv (.lit (.int .i64 (q : Nat)))))] ∧ st = [rdLoc (cN c) at_ k] ∧ b = s.upd ir none ∧ (cN c).skip (fun j => (cN c).sg j ⟨#[42]⟩) (at_ + q) = (cN c).skip (fun j => (cN c).sg j ⟨#[42]⟩) (at_ + 1) ∧ 1 ≤ q) ((cN c).v.length - at_) ⟨[0], [0, 3], rfl, 1, by omega, rfl, rfl, rfl, rfl, Nat.le_refl _⟩ ?_
  rintro n env st b ⟨q, hq, rfl, rfl, rfl, hx, hq1⟩
  obtain ⟨u, hu⟩ : ∃ u, (cN c).sg (at_ + q) ⟨#[42]⟩ = u := ⟨_, rfl⟩
  have hsg := signQ (n := q) hc (show at_ ≤ 1000000000 by omega) (by omega) ⟨#[42]⟩
  rw [hu] at hsg
  refine sc_q hsg hc he rfl rfl rfl rfl ?_
  cases u
  ·rw [skip_stop hu] at hx
   have fin : ∀ w, ((decide (1 < q) && (cN c).sg (at_ + q) ⟨#[41]⟩) = w) → (cN c).casted at_ = w := fun w hw => by
    unfold Cx.casted Cx.text
    rw [ht, ← hx, ← hw]
    have : decide (at_ + 1 < at_ + q) = decide (1 < q) := by by_cases h : 1 < q <;> simp [h]
    simp only [this, Bool.false_or]
   rintro (_ | _) h1
   ·have h1 := of_decide_eq_false h1
    exact ⟨(St.upd_upd _ _ _ _).trans (St.upd_self hs), by rw [fin false (by simp; intro; omega)]; rfl⟩
   ·have h1 := of_decide_eq_true h1
    obtain ⟨w, hw⟩ : ∃ w, (cN c).sg (at_ + q) ⟨#[41]⟩ = w := ⟨_, rfl⟩
    have hsg := signQ (n := q) hc (show at_ ≤ 1000000000 by omega) (by omega) ⟨#[41]⟩
    rw [hw] at hsg
    refine sc_q hsg hc he rfl rfl rfl rfl ?_
    have h1' : 1 < q := by omega
    exact ⟨(St.upd_upd _ _ _ _).trans (St.upd_self hs), by rw [fin w (by rw [hw]; simp [h1'])]; rfl⟩
  ·have hlt := sg_lt hc hu
   rw [skip_go hlt hu] at hx
   refine ⟨n - 1, by omega, [0], [0, 3], rfl, q + 1, by omega, ?_, rfl, rfl, hx, by omega⟩
   rw [← inc (show q ≤ 1000000000 by omega)]; rfl
 ·cases hr
  exact ⟨(St.upd_upd _ _ _ _).trans (St.upd_self hs), by unfold Cx.casted Cx.text; rw [ht]; rfl⟩
end
end Go.Pv

namespace Go.Pv
open Go.Proofs
set_option linter.unusedVariables false
set_option linter.unusedSimpArgs false
set_option maxRecDepth 100000
def idxP (p : ByteArray → Bool) : List ByteArray → Nat → Int
 | [], _ => -1
 | u :: r, i => if p u = true then (i : Nat) else idxP p r (i + 1)
theorem idxP_any (p : ByteArray → Bool) : ∀ (l : List ByteArray) (i : Nat), decide (0 ≤ idxP p l i) = l.any p
 | [], i => rfl
 | u :: r, i => by
  unfold idxP
  rw [List.any_cons]
  split
  ·rename_i h; rw [h, Bool.true_or]; exact decide_eq_true (Int.natCast_nonneg _)
  ·rename_i h; rw [idxP_any p r (i + 1)]; simp [h]
section
variable {s : St} {f : FuncId} {caps : List PV} {p : ByteArray → Bool}
theorem idxG_c (kk : VK) (l : List ByteArray) (hl : l.length ≤ 1000000) (h : ∀ u ∈ l, PCalls Tryz.prog f (.lit (.string u) :: caps) s fun r s' => s' = s ∧ r = .ret (.lit (.bool (p u)))) : PCalls Tryz.prog 304 [strL kk l, .fn f [] caps] s fun r s' => s' = s ∧ r = .ret (.lit (.int .i64 (idxP p l 0))) := by
 refine PCalls.of Tryz.func304 rfl (by rfl) (by simp [Tryz.ntmps304]) ?_
 refine pwC_sound _ _ _ _ ?_
 simp [Tryz.ntmps304]
 refine PW.loop (fun n e s' => ∃ i : Nat, i + n = l.length ∧ e 0 = strL kk l ∧ e 1 = .fn f [] caps ∧ e 7 = .lit (.int .i64 l.length) ∧ e 8 = .lit (.int .i64 i) ∧ s' = s ∧ idxP p (l.drop i) i = idxP p l 0) l.length ⟨0, by omega, by simp, by simp, by simp, by simp, rfl, by simp⟩ ?_
 rintro n e s' ⟨i, hi, e0, e1, e7, e8, rfl, hx⟩
 refine pwC_sound _ _ _ _ ?_
 by_cases hlt : i < l.length
 ·have hlt' : (i : Int) < l.length := by omega
  have hg := List.getElem?_eq_getElem hlt
  have hm := List.getElem_mem hlt
  rw [List.drop_eq_getElem_cons hlt, idxP] at hx
  have w1 : IntKind.i64.wrap ((i : Int) + 1) = ((i + 1 : Nat) : Int) := by rw [wrap_i64 (by omega) (by omega)]; omega
  obtain ⟨u, hu⟩ : ∃ u, l[i] = u := ⟨_, rfl⟩
  rw [hu] at hg hx hm
  simp [e0, e1, e7, e8, hlt, hlt', hg, hu]
  refine (h u hm).mono ?_
  rintro _ s9 ⟨h9, rfl⟩
  rw [h9]
  clear h9 s9
  cases hp : p u with
  | true =>
   rw [hp, if_pos rfl] at hx
   simp [e8]
   rw [← hx]
   exact ⟨_, sub_refl, rfl, rfl⟩
  | false =>
   rw [hp, if_neg (by simp)] at hx
   simp [e0, e1, e7, e8, w1]
   exact ⟨n - 1, by omega, i + 1, by omega, by omega, hx⟩
 ·have hil : i = l.length := by omega
  subst hil
  rw [List.drop_length] at hx
  simp [e0, e1, e7, e8]
  rw [← hx]
  exact ⟨_, sub_refl, rfl, rfl⟩
theorem hitG_c (kk : VK) (l : List ByteArray) (hl : l.length ≤ 1000000) (h : ∀ u ∈ l, PCalls Tryz.prog f (.lit (.string u) :: caps) s fun r s' => s' = s ∧ r = .ret (.lit (.bool (p u)))) : PCalls Tryz.prog 286 [strL kk l, .fn f [] caps] s fun r s' => s' = s ∧ r = .ret (.lit (.bool (l.any p))) := by
 refine PCalls.of Tryz.func286 rfl (by rfl) (by simp [Tryz.ntmps286]) ?_
 refine pwC_sound _ _ _ _ ?_
 simp [Tryz.ntmps286]
 refine (idxG_c kk l hl h).mono ?_
 rintro _ s9 ⟨h9, rfl⟩
 rw [h9]
 clear h9 s9
 simp
 rw [← idxP_any p l 0]
 exact ⟨_, sub_refl, rfl, rfl⟩
end
section
variable {c : Cx} {s : St} {ir : Nat} {at_ n : Nat} {k : Int}
theorem ahead1_c (hc : c.ok) (h0 : at_ ≤ 1000000000) (h1 : n ≤ 100000000) (he : c.env s) (hs : s ir = some (rdRow c at_ k)) {i1 i2 : Nat} (b1 : s i1 = some (.row 121 1 [[.pt ir 0 0]])) (b2 : s i2 = some (.row 3 1 [[.lit (.int .i64 (n : Nat))]])) (u : ByteArray) :
  PCalls Tryz.prog 315 [.lit (.string u), .pt i1 0 0, .pt i2 0 0] s fun r s' => s' = s ∧ r = .ret (.lit (.bool (c.sg (at_ + (n + 1)) u))) := by
 refine PCalls.of Tryz.func315 rfl (by rfl) (by simp [Tryz.ntmps315]) ?_
 refine pwC_sound _ _ _ _ ?_
 have w1 : IntKind.i64.wrap ((n : Int) + 1) = ((n + 1 : Nat) : Int) := inc (by omega)
 simp [Tryz.ntmps315, b1, b2]
 rw [w1]
 refine (signQ (n := n + 1) hc h0 (by omega) u s ir k he hs).mono ?_
 rintro _ s9 ⟨h9, rfl⟩
 rw [h9]
 clear h9 s9
 simp
@[reducible] def boxLoc : Option Loc := some (.cel 121 1 [.cell 0 0])
@[reducible] def intLoc (q : Nat) : Option Loc := some (.cel 3 1 [.pv (.lit (.int .i64 (q : Nat)))])
theorem sc_hit {imp : List Nat} {b : St} {K : SV → SS → St → Prop} {Kp : List PanicEntry → SS → St → Prop} {kk : VK} {l : List ByteArray} {q : Nat} (hc : c.ok) (h0 : at_ ≤ 1000000000) (h1 : q ≤ 100000000) (he : c.env b) (hl : l.length ≤ 1000000)
  (hK : K (.av (.pv (.lit (.bool (l.any fun u => c.sg (at_ + (q + 1)) u))))) [rdLoc c at_ k, boxLoc, intLoc q] b) : SC Tryz.prog imp 286 [.av (.pv (strL kk l)), .fnc 315 [] [.cell 1 0, .cell 2 0]] [rdLoc c at_ k, boxLoc, intLoc q] b K Kp := by
 intro σ s qs hR hA
 obtain ⟨q1, qs1, rfl, a1, a2⟩ := hA.cons_inv
 obtain ⟨q2, qs2, rfl, a3, a4⟩ := a2.cons_inv
 rw [a4.nil_inv]
 obtain ⟨ps, p1, p2⟩ := hR.loc 0 _ rfl
 have := avs_live (rd_live hc _ _) p1
 subst this
 obtain ⟨ps1, p3, p4⟩ := hR.loc 1 _ rfl
 obtain ⟨x1, xs1, rfl, p5, p6⟩ := p3.cons_inv
 rw [p6.nil_inv, show x1 = .pt (σ 0) 0 0 from p5.2] at p4
 obtain ⟨ps2, p7, p8⟩ := hR.loc 2 _ rfl
 obtain ⟨x2, xs2, rfl, p9, p10⟩ := p7.cons_inv
 rw [p10.nil_inv] at p8
 obtain ⟨f', c', rfl, h5, h6⟩ := a3
 rw [h5.nil_inv]
 obtain ⟨y1, ys1, rfl, h7, h8⟩ := h6.cons_inv
 obtain ⟨y2, ys2, rfl, h9, h10⟩ := h8.cons_inv
 rw [h10.nil_inv, show y1 = .pt (σ 1) 0 0 from h7.2, show y2 = .pt (σ 2) 0 0 from h9.2, pvS a1 rfl]
 have hx2 : x2 = .lit (.int .i64 (q : Nat)) := pvR p9 rfl
 rw [hx2] at p8
 refine (hitG_c (p := fun u => c.sg (at_ + (q + 1)) u) kk l hl fun u hu => ahead1_c hc h0 h1 (he.sub hR.sub) p2 p4 p8 u).mono ?_
 rintro _ s' ⟨rfl, rfl⟩
 exact liftV0 hR (v := .av (.pv _)) (Or.inr rfl) hK
theorem typed_c (hc : c.ok) (h0 : at_ ≤ c.v.length) : RQ c 306 [] at_ (.lit (.bool (c.typed at_))) := by
 have hvl := hc.vl
 obtain ⟨c, rfl⟩ : ∃ d, c = cN d := ⟨c, hc.eqN⟩
 refine rq_of (D := [(3, ([0, 1, 2, 3, 4, 5, 6, 7, 8, 9, 10, 11, 12, 13], [(5, 1), (10, 1)], []))]) Tryz.func306 rfl (by kernel_rfl) fun s ir k he hs => ?_
 obtain ⟨es, he1, he2⟩ := he
 have he : Cx.env (cN c) (s.upd ir none) := ⟨es, he1, he2⟩
 refine ⟨by kernel_rfl, ?_⟩
 refine ⟨_, fun σ s qs hR hA => q1r (j := 0) (xs := []) (tok_c hc (by omega)) hc he rfl rfl rfl hR hA, ?_⟩
 refine ⟨es, he1, fun r hr => ?_⟩
 rw [he2] at hr
 obtain ⟨t, ht⟩ : ∃ t, (cN c).known ((cN c).tk at_).text = t := ⟨_, rfl⟩
 rw [ht] at hr
 cases t
 ·cases hr
  have hpk := peek_c (n := 1) hc (show at_ ≤ 1000000000 by omega) (by omega)
  refine ⟨_, fun σ s qs hR hA => q1r (j := 0) (xs := [.lit (.int .i64 1)]) hpk hc he rfl rfl rfl hR hA, ?_⟩
  rintro (_ | _) h1
  ·refine sw_loop (D := []) ti_ok (by kernel_rfl) (fun n env st b => ∃ q : Nat, at_ + q + n = (cN c).v.length + 1 ∧ env = [(1, .av (.cell 1 0)), (3, .av (.cell 2 0))] ∧ st = [rdLoc (cN c) at_ k, boxLoc, intLoc q] ∧ b = s.upd ir none ∧ (cN c).skip (fun j => (cN c).sg j ⟨#[42]⟩) (at_ + q) = (cN c).skip (fun j => (cN c).sg j ⟨#[42]⟩) (at_ + 1) ∧ 1 ≤ q) ((cN c).v.length - at_) ⟨[0, 1, 2], [1, 3], rfl, 1, by omega, rfl, rfl, rfl, rfl, Nat.le_refl _⟩ ?_
   rintro n env st b ⟨q, hq, rfl, rfl, rfl, hx, hq1⟩
   obtain ⟨u, hu⟩ : ∃ u, (cN c).sg (at_ + q) ⟨#[42]⟩ = u := ⟨_, rfl⟩
   have hsg := signQ (n := q) hc (show at_ ≤ 1000000000 by omega) (by omega) ⟨#[42]⟩
   rw [hu] at hsg
   refine sc_q (j := 0) hsg hc he rfl rfl rfl rfl ?_
   cases u
   ·rw [skip_stop hu] at hx
    have h1' : decide ((cN c).kind (at_ + 1) = 1) = false := h1
    have fin : ∀ w, (decide (q ≠ 1) && decide (((cN c).tk (at_ + q)).kind = 1) && ([⟨#[61]⟩, ⟨#[59]⟩, ⟨#[44]⟩, ⟨#[91]⟩] : List ByteArray).any fun u => (cN c).sg (at_ + (q + 1)) u) = w → (cN c).typed at_ = w := fun w hw => by
     unfold Cx.typed
     rw [show (cN c).text at_ = ((cN c).tk at_).text from rfl, ht, ← hx, h1', ← hw]
     have : decide (at_ + q ≠ at_ + 1) = decide (q ≠ 1) := by by_cases h : q = 1 <;> simp [h]
     simp only [this, Bool.false_or, List.any_cons, List.any_nil, Bool.or_false, Bool.or_assoc]
     rfl
    rintro (_ | _) h2
    ·have h2 : q ≠ 1 := by have := of_decide_eq_false h2; omega
     have hpk := peek_c (n := q) hc (show at_ ≤ 1000000000 by omega) (by omega)
     refine sc_q (j := 0) hpk hc he rfl rfl rfl rfl ?_
     rintro (_ | _) h3
     ·exact ⟨(St.upd_upd _ _ _ _).trans (St.upd_self hs), by rw [fin false (by rw [h3]; simp)]; rfl⟩
     ·refine sc_hit (kk := .tight) (l := [⟨#[61]⟩, ⟨#[59]⟩, ⟨#[44]⟩, ⟨#[91]⟩]) hc (by omega) (by omega) he (by decide) ?_
      exact ⟨(St.upd_upd _ _ _ _).trans (St.upd_self hs), by rw [fin _ (by rw [h3, decide_eq_true h2])]; rfl⟩
    ·have h2 : q = 1 := by have := of_decide_eq_true h2; omega
     exact ⟨(St.upd_upd _ _ _ _).trans (St.upd_self hs), by rw [fin false (by simp [h2])]; rfl⟩
   ·have hlt := sg_lt hc hu
    rw [skip_go hlt hu] at hx
    refine ⟨n - 1, by omega, [0, 1, 2], [1, 3], rfl, q + 1, by omega, rfl, ?_, rfl, hx, by omega⟩
    unfold intLoc; rw [← inc (show q ≤ 1000000000 by omega)]; rfl
  ·exact ⟨(St.upd_upd _ _ _ _).trans (St.upd_self hs), by unfold Cx.typed; rw [show (cN c).text at_ = ((cN c).tk at_).text from rfl, ht, show decide ((cN c).kind (at_ + 1) = 1) = true from h1]; rfl⟩
 ·cases hr
  exact ⟨(St.upd_upd _ _ _ _).trans (St.upd_self hs), by unfold Cx.typed Cx.text; rw [ht]; rfl⟩
end
end Go.Pv

namespace Go.Pv
open Go.Proofs
set_option linter.unusedVariables false
set_option linter.unusedSimpArgs false
set_option maxRecDepth 100000
def ruleV (m : Nm) (ir : Nat) : PV := match m with
 | .always => .fn 186 [] []
 | .typed => .fn 306 [.pt ir 0 0] []
 | .casted => .fn 318 [.pt ir 0 0] []
def ruleS : Nm → SV
 | .always => .av (.pv (.fn 186 [] []))
 | .typed => .fnc 306 [.cell 0 0] []
 | .casted => .fnc 318 [.cell 0 0] []
section
variable {c : Cx} {s : St} {ir : Nat} {at_ n : Nat} {k : Int}
theorem always_c (s : St) : PCalls Tryz.prog 186 [] s fun r s' => s' = s ∧ r = .ret (.lit (.bool true)) :=
 PCalls.fun (D := []) ti_ok Tryz.func186 rfl (by kernel_rfl) (by exact ⟨rfl, rfl⟩)
theorem nm_rel {st : SS} {i : Nat} (m : Nm) (h : 0 < st.length) : SVR (fun _ => i) st (ruleS m) (ruleV m i) := by
 cases m with
 | always => exact Or.inr rfl
 | typed => exact ⟨[.pt i 0 0], [], rfl, .cons ⟨h, rfl⟩ .nil, .nil⟩
 | casted => exact ⟨[.pt i 0 0], [], rfl, .cons ⟨h, rfl⟩ .nil, .nil⟩
theorem rqm_of {f : FuncId} {fn : Func} {code : Code} {D : Ord} {m : Nm} {v : PV} (hf : Tryz.prog.funcs[f]? = some fn) (hb : fn.body = some code) (hn : ((fn.name != "runtime.NumGoroutine") && Nat.ble 2 fn.ntmps && dOk fn.ntmps code && dOkD D) = true)
  (h : ∀ (s : St) (ir : Nat) (k : Int), c.env (s.upd ir none) → s ir = some (rdRow c at_ k) → sx Tryz.prog TI0 fn.ntmps [ir] D code (argE 0 [.av (.cell 0 0), ruleS m]) [rdLoc c at_ k] (s.upd ir none) (endQ TI0 [ir] fn.results.toList fun r s' => s' = s ∧ r = .ret v)) (s : St) (ir : Nat) (k : Int) (he : c.env s) (hs : s ir = some (rdRow c at_ k)) :
  PCalls Tryz.prog f [.pt ir 0 0, ruleV m ir] s fun r s' => s' = s ∧ r = .ret v :=
 PCalls.sx ti_ok (SRel.one hs) (.cons (show SVR _ _ (.av (.cell 0 0)) (.pt ir 0 0) from (⟨by simp, rfl⟩ : _ ∧ _)) (.cons (nm_rel m (by simp)) .nil)) hf hb hn (h s ir k (he.upd hs _) hs)
theorem mgm_of {f : FuncId} {fn : Func} {code : Code} {D : Ord} {m : Nm} {o : Out PV} (hf : Tryz.prog.funcs[f]? = some fn) (hb : fn.body = some code) (hn : ((fn.name != "runtime.NumGoroutine") && Nat.ble 2 fn.ntmps && dOk fn.ntmps code && dOkD D) = true)
  (h : ∀ (s : St) (ir : Nat) (k : Int), c.env (s.upd ir none) → s ir = some (rdRow c at_ k) → sx Tryz.prog TI0 fn.ntmps [ir] D code (argE 0 [.av (.cell 0 0), ruleS m]) [rdLoc c at_ k] (s.upd ir none) (endQ TI0 [ir] fn.results.toList (MR c s ir o))) : MG c f (fun ir => [ruleV m ir]) at_ o := fun _ s ir k he hs =>
 PCalls.sx ti_ok (SRel.one hs) (.cons (show SVR _ _ (.av (.cell 0 0)) (.pt ir 0 0) from (⟨by simp, rfl⟩ : _ ∧ _)) (.cons (nm_rel m (by simp)) .nil)) hf hb hn (h s ir k (he.upd hs _) hs)
theorem begins_c (hc : c.ok) (h0 : at_ ≤ c.v.length) (m : Nm) : ∀ (s : St) (ir : Nat) (k : Int), c.env s → s ir = some (rdRow c at_ k) → PCalls Tryz.prog 305 [.pt ir 0 0, ruleV m ir] s fun r s' => s' = s ∧ r = .ret (.lit (.bool (c.begins m at_))) := by
 have hvl := hc.vl
 have hat : at_ ≤ 1000000000 := by omega
 refine rqm_of (D := []) Tryz.func305 rfl (by kernel_rfl) fun s ir k he hs => ?_
 obtain ⟨t1, ht1⟩ : ∃ t, c.among at_ beginL = t := ⟨_, rfl⟩
 have hq1 := amongR_c hc hat .tight beginL (by decide)
 rw [ht1] at hq1
 refine sc_q hq1 hc he rfl rfl rfl rfl ?_
 cases t1
 ·obtain ⟨t2, ht2⟩ : ∃ t, c.among at_ basesL = t := ⟨_, rfl⟩
  have hq2 := amongR_c hc hat .tight basesL (by decide)
  rw [ht2] at hq2
  refine sc_pure (fun s _ => bases_c s) rfl rfl ?_
  refine sc_q hq2 hc he rfl rfl rfl rfl ?_
  cases t2
  ·refine sc_q (tok_c hc hat) hc he rfl rfl rfl rfl ?_
   rintro (_ | _) h1
   ·refine rd_end hc ⟨St.upd_self hs, ?_⟩
    rw [show c.begins m at_ = false by unfold Cx.begins; rw [ht1, ht2, show decide (c.kind at_ = 1) = false from h1]; rfl]; rfl
   ·have fin : c.begins m at_ = c.nm m at_ := by unfold Cx.begins; rw [ht1, ht2, show decide (c.kind at_ = 1) = true from h1]; rfl
    rw [fin]
    cases m with
    | always =>
     refine sc_pure (fun s _ => always_c s) rfl rfl ?_
     exact rd_end hc ⟨St.upd_self hs, rfl⟩
    | typed =>
     refine sc_q (xs := []) (typed_c hc h0) hc he rfl rfl rfl rfl ?_
     exact rd_end hc ⟨St.upd_self hs, rfl⟩
    | casted =>
     refine sc_q (xs := []) (casted_c hc h0) hc he rfl rfl rfl rfl ?_
     exact rd_end hc ⟨St.upd_self hs, rfl⟩
  ·refine rd_end hc ⟨St.upd_self hs, ?_⟩
   rw [show c.begins m at_ = true by unfold Cx.begins; rw [ht1, ht2]; rfl]; rfl
 ·refine rd_end hc ⟨St.upd_self hs, ?_⟩
  rw [show c.begins m at_ = true by unfold Cx.begins; rw [ht1]; rfl]; rfl
theorem rule_rel {σ : Nat → Nat} {st : SS} {m : Nm} {ps : List PV} (h : All2 (SVR σ st) [ruleS m] ps) : ps = [ruleV m (σ 0)] := by
 obtain ⟨q, qs, rfl, h1, h2⟩ := h.cons_inv
 rw [h2.nil_inv]
 cases m with
 | always => rw [pvS h1 rfl]; rfl
 | typed =>
  obtain ⟨a, b, rfl, h3, h4⟩ := h1
  obtain ⟨x, xs, rfl, h5, h6⟩ := h3.cons_inv
  rw [h6.nil_inv, h4.nil_inv, show x = .pt (σ 0) 0 0 from h5.2]; rfl
 | casted =>
  obtain ⟨a, b, rfl, h3, h4⟩ := h1
  obtain ⟨x, xs, rfl, h5, h6⟩ := h3.cons_inv
  rw [h6.nil_inv, h4.nil_inv, show x = .pt (σ 0) 0 0 from h5.2]; rfl
theorem sc_qm {imp : List Nat} {st : SS} {b : St} {K : SV → SS → St → Prop} {Kp : List PanicEntry → SS → St → Prop} {f : FuncId} {args : List SV} {aI mI : Int} {m : Nm} {v : PV} (hq : ∀ (s : St) (ir : Nat) (k : Int), c.env s → s ir = some (rdRow c at_ k) → PCalls Tryz.prog f [.pt ir 0 0, ruleV m ir] s fun r s' => s' = s ∧ r = .ret v) (hc : c.ok) (he : c.env b) (hst : st[0]? = some (rdLoc c aI mI)) (ha : args = [.av (.cell 0 0), ruleS m]) (hI : aI = (at_ : Nat)) (hK : K (.av (.pv v)) st b) : SC Tryz.prog imp f args st b K Kp := by
 subst hI
 intro σ s qs hR hA
 subst ha
 obtain ⟨q, qs', rfl, h1, h2⟩ := hA.cons_inv
 obtain ⟨ps, p1, p2⟩ := hR.loc 0 _ hst
 have := avs_live (rd_live hc _ _) p1
 subst this
 rw [rule_rel h2, show q = .pt (σ 0) 0 0 from h1.2]
 refine (hq s (σ 0) mI (he.sub hR.sub) p2).mono ?_
 rintro _ s' ⟨rfl, rfl⟩
 exact liftV0 hR (v := .av (.pv v)) (Or.inr rfl) hK
theorem sc_gm {imp : List Nat} {st : SS} {b : St} {K : SV → SS → St → Prop} {Kp : List PanicEntry → SS → St → Prop} {f : FuncId} {args : List SV} {aI mI : Int} {m : Nm} {o : Out PV} (hq : MG c f (fun ir => [ruleV m ir]) at_ o) (hc : c.ok) (he : c.env b) (hst : st[0]? = some (rdLoc c aI mI)) (ha : args = [.av (.cell 0 0), ruleS m]) (hI : aI = (at_ : Nat)) (hK : OutK c st 0 b K Kp o) : SC Tryz.prog imp f args st b K Kp :=
 sc_g (vs := [ruleS m]) hq hc he hst ha hI (fun σ ps h => rule_rel h) hK
theorem dec1 {at_ : Nat} (h0 : at_ ≤ 1000000000) : IntKind.i64.wrap (IntKind.i64.wrap ((at_ : Int) + 1) - 1) = (at_ : Nat) := by
 rw [inc h0, wrapN (by omega) (by omega)]; omega
theorem ahead_c (hc : c.ok) (h0 : at_ ≤ c.v.length) : RQ c 316 [] at_ (.lit (.bool (c.ahead at_))) := by
 have hvl := hc.vl
 refine rq_of (D := []) Tryz.func316 rfl (by kernel_rfl) fun s ir k he hs => ?_
 obtain ⟨t1, ht1⟩ : ∃ t, c.is at_ ⟨#[40]⟩ = t := ⟨_, rfl⟩
 have hq1 := is_c hc (show at_ ≤ 1000000000 by omega) ⟨#[40]⟩
 rw [ht1] at hq1
 refine sc_q hq1 hc he rfl rfl rfl rfl ?_
 cases t1
 ·refine rd_end hc ⟨St.upd_self hs, ?_⟩
  rw [show c.ahead at_ = false by unfold Cx.ahead; rw [ht1]; rfl]; rfl
 ·have hlt := hc.lt ht1
  refine sc_qm (at_ := at_ + 1) (m := .casted) (begins_c hc (by omega) .casted) hc he rfl rfl (inc (by omega)) ?_
  refine rd_end hc ⟨?_, ?_⟩
  ·rw [dec1 (by omega)]; exact St.upd_self hs
  ·rw [show c.ahead at_ = c.begins .casted (at_ + 1) by unfold Cx.ahead; rw [ht1]; rfl]; rfl
end
end Go.Pv
