/- slices.BinarySearch over numbers that ascend. -/
import Derived.Test.YteajbghklmkoeaaF62
namespace Go.Pv
open Go.Proofs
set_option linter.unusedVariables false
set_option linter.unusedSimpArgs false
set_option maxRecDepth 100000
set_option maxHeartbeats 1000000
theorem wrap_u64 {n : Int} (h1 : 0 ≤ n) (h2 : n ≤ 18446744073709551615) : IntKind.u64.wrap n = n := by
  simp [IntKind.wrap, IntKind.bits, IntKind.signed]
  omega
theorem asc_ge {n : Int} : ∀ (v : List Int) (p : Int), ascF n p v = true → ∀ x ∈ v, p < x ∧ x < n
  | [], _, _ => by simp
  | a :: r, p, h => by
    simp [ascF] at h
    intro x hx
    rcases List.mem_cons.1 hx with rfl | hx
    · exact ⟨h.1.1, h.1.2⟩
    · have := asc_ge r a h.2 x hx
      omega
theorem asc_mono {n : Int} : ∀ (v : List Int) (p : Int), ascF n p v = true → ∀ (a b : Nat) (x y : Int), a ≤ b → v[a]? = some x → v[b]? = some y → x ≤ y
  | [], _, _ => by simp
  | c :: r, p, h => by
    simp [ascF] at h
    intro a b x y hab hx hy
    cases a with
    | zero =>
      simp at hx
      subst hx
      cases b with
      | zero => simp at hy; omega
      | succ b => have := asc_ge r _ h.2 y (List.mem_of_getElem? (by simpa using hy)); omega
    | succ a =>
      cases b with
      | zero => omega
      | succ b => exact asc_mono r c h.2 a b x y (by omega) (by simpa using hx) (by simpa using hy)
theorem half_mid {a b : Nat} : ((((a : Int) + (b : Int))).fdiv (2 ^ min 1 IntKind.u64.bits)) = (((a + b) / 2 : Nat) : Int) := by
  rw [show min 1 IntKind.u64.bits = 1 from by decide, Int.pow_succ, Int.pow_zero, Int.one_mul]
  rw [Int.fdiv_eq_ediv_of_nonneg _ (by omega)]; omega
theorem search_c (k : VK) (v : List Int) (t : Int) (hv : v.length ≤ 1000000) (hm : ∀ (a b : Nat) (x y : Int), a ≤ b → v[a]? = some x → v[b]? = some y → x ≤ y) (s : St) : PCalls Try.prog 63 [ints k v, .lit (.int .i64 t)] s (fun r s' => s' = s ∧
    ∃ (i : Nat) (b : Bool), i ≤ v.length ∧ (∀ (a : Nat) (x : Int), a < i → v[a]? = some x → x < t) ∧ (∀ (a : Nat) (x : Int), i ≤ a → v[a]? = some x → t ≤ x) ∧ r = .ret (.tup [.lit (.int .i64 i), .lit (.bool b)])) := by
  refine PCalls.of Try.func63 rfl (by rfl) (by simp [Try.ntmps63]) ?_
  refine pwC_sound _ _ _ _ ?_
  simp [Try.ntmps63]
  refine PW.loop (fun n e s' => ∃ (a b : Nat), b - a = n ∧ a ≤ b ∧ b ≤ v.length ∧ (∀ (c : Nat) (x : Int), c < a → v[c]? = some x → x < t) ∧ (∀ (c : Nat) (x : Int), b ≤ c → v[c]? = some x → t ≤ x) ∧ e 0 = ints k v ∧ e 1 = .lit (.int .i64 t) ∧ e 6 = .lit (.int .i64 v.length) ∧ e 7 = .lit (.int .i64 a) ∧ e 8 = .lit (.int .i64 b) ∧ s' = s) v.length
    ⟨0, v.length, by omega, by omega, by omega, by intro c x h; omega, by intro c x h hx; have := (List.getElem?_eq_some_iff.1 hx).1; omega, by simp, by simp, by simp, by simp, by simp, rfl⟩ ?_
  rintro n e s' ⟨a, b, hn, hab, hb, hlo, hhi, e0, e1, e6, e7, e8, rfl⟩
  refine pwC_sound _ _ _ _ ?_
  by_cases hlt : a < b
  · have hk : (a + b) / 2 < v.length := by omega
    obtain ⟨y, hg⟩ : ∃ y, v[(a + b) / 2]? = some y := ⟨_, List.getElem?_eq_getElem hk⟩
    have w1 : IntKind.i64.wrap ((a : Int) + (b : Int)) = (a : Int) + (b : Int) := wrap_i64 (by omega) (by omega)
    have w2 : IntKind.u64.wrap ((a : Int) + (b : Int)) = (a : Int) + (b : Int) := wrap_u64 (by omega) (by omega)
    have w3 : IntKind.i64.wrap (((a + b) / 2 : Nat) : Int) = (((a + b) / 2 : Nat) : Int) := wrap_i64 (by omega) (by omega)
    have w4 : IntKind.i64.wrap ((((a + b) / 2 : Nat) : Int) + 1) = (((a + b) / 2 + 1 : Nat) : Int) := by rw [wrap_i64 (by omega) (by omega)]; omega
    have hh := half_mid (a := a) (b := b)
    generalize hq : (a + b) / 2 = q at *
    simp [e0, e1, e6, e7, e8, hlt, hab, w1, w2, hh, w3, hg]
    refine (less_c y t _).mono ?_
    rintro _ _ ⟨rfl, rfl⟩
    by_cases hy : y < t
    · simp [e0, e1, e6, e7, e8, hlt, hab, w1, w2, hh, w3, hg, hy, w4]
      exact ⟨b - (q + 1), by omega, q + 1, b, by omega, by omega, hb, fun c x hc hx => by have := hm c q x y (by omega) hx hg; omega, hhi, by omega, by omega⟩
    · simp [e0, e1, e6, e7, e8, hlt, hab, w1, w2, hh, w3, hg, hy]
      exact ⟨q - a, by omega, a, q, by omega, by omega, by omega, hlo, fun c x hc hx => by have := hm q c y x hc hg hx; omega, by omega, by omega⟩
  · have hjc : a = b := by omega
    subst hjc
    by_cases hav : a < v.length
    · have hg : v[a]? = some v[a] := List.getElem?_eq_getElem hav
      by_cases hy : v[a] = t
      · simp [e0, e1, e6, e7, e8, hg, hav, hy]
        exact ⟨_, sub_refl, rfl, a, hb, hlo, hhi, rfl⟩
      · simp [e0, e1, e6, e7, e8, hg, hav, hy]
        refine (nan2_c v[a] _).mono ?_
        rintro _ _ ⟨rfl, rfl⟩
        simp [e0, e1, e6, e7, e8, hg, hav, hy]
        exact ⟨_, sub_refl, rfl, a, hb, hlo, hhi, rfl⟩
    · simp [e0, e1, e6, e7, e8, hav]
      exact ⟨_, sub_refl, rfl, a, hb, hlo, hhi, rfl⟩
end Go.Pv
