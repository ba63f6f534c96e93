/- The reference's Deep, Nodes, Texts and Heavy. -/
import Derived.Test.YteajbghklmkoeaaTy
import Derived.Test.YteajbghklmkoeaaNd
namespace Go.Pv
open Go.Proofs
set_option linter.unusedVariables false
set_option linter.unusedSimpArgs false
set_option maxRecDepth 100000
set_option maxHeartbeats 1000000
/-- All rows and texts in it are of a length that an int bears. -/
def Gd (x : Nd) : Prop := ∀ p y, atN x p = some y → y.l.length ≤ 2 ^ 63 - 1 ∧ y.s.size ≤ 2 ^ 63 - 1
theorem Gd.len {x : Nd} (h : Gd x) : x.l.length ≤ 2 ^ 63 - 1 ∧ x.s.size ≤ 2 ^ 63 - 1 := h [] x rfl
theorem Gd.sub {x y : Nd} (h : Gd x) (hy : y ∈ x.l) : Gd y := by
  obtain ⟨k, hk⟩ := List.getElem?_of_mem hy
  intro p z hz
  exact h ((k : Int) :: p) z (by simp [atN, hk, hz])
/-- No deeper than k rows. -/
def sh : Nat → List Nd → Prop
  | 0, l => l = []
  | k + 1, l => ∀ y ∈ l, sh k y.l
theorem deep_c : ∀ (k : Nat), k ≤ 300 → ∀ (l : List Nd), l.length ≤ 2 ^ 63 - 1 → (∀ y ∈ l, Gd y) → ∀ s : St, PCalls Try.prog 70 [.vec .any (l.map enc), .lit (.int .i64 k)] s (fun r s' => s' = s ∧ ∃ b, r = .ret (.lit (.bool b)) ∧ (b = false → sh k l))
  | k, hk, l, hl, hG, s => by
    refine PCalls.of Try.func70 rfl (by rfl) (by simp [Try.ntmps70]) ?_
    refine pwC_sound _ _ _ _ ?_
    simp [Try.ntmps70]
    refine PW.loop (fun n e s' => ∃ j : Nat, j + n = l.length ∧ (∀ i y, i < j → l[i]? = some y → ∃ k', k = k' + 1 ∧ sh k' y.l) ∧ e 0 = .vec .any (l.map enc) ∧ e 1 = .lit (.int .i64 k) ∧ e 5 = .lit (.int .i64 j) ∧ s = s') l.length ⟨0, by simp, by simp, by simp, by simp, by simp, rfl⟩ ?_
    rintro n e s' ⟨j, hj, hA, e0, e1, e5, rfl⟩
    refine pwC_sound _ _ _ _ ?_
    by_cases hlt : j < l.length
    · have hg : l[j]? = some l[j] := List.getElem?_eq_getElem hlt
      have hm := List.getElem_mem hlt
      cases k with
      | zero => simp [e0, e1, e5, hlt, hg]
      | succ k =>
        have hk1 : ¬ ((k : Int) + 1 = 0) := by omega
        have hk2 : IntKind.i64.wrap k = k := wrap_i64 (by omega) (by omega)
        simp [e0, e1, e5, hlt, hg, hk1, hk2]
        refine (deep_c k (by omega) l[j].l (hG _ hm).len.1 (fun y hy => (hG _ hm).sub hy) s).mono ?_
        rintro _ s2 ⟨h2, b, rfl, hb⟩
        rw [h2]
        clear h2 s2
        cases b
        · simp [e0, e1, e5]
          rw [wrap_i64 (by omega) (by omega)]
          refine ⟨n - 1, by omega, j + 1, by omega, fun i y hi hy => ?_, rfl⟩
          rcases Nat.lt_succ_iff_lt_or_eq.1 hi with hi | rfl
          · obtain ⟨k', h, hs⟩ := hA i y hi hy
            cases h
            exact hs
          · rw [hg] at hy; cases hy; exact hb rfl
        · simp [e0, e1, e5]
    · have hjl : j = l.length := by omega
      subst hjl
      simp [e0, e1, e5]
      refine ⟨s, sub_refl, rfl, ?_⟩
      cases k with
      | zero =>
        cases l with
        | nil => rfl
        | cons a l => obtain ⟨k', h, _⟩ := hA 0 a (by simp) rfl; omega
      | succ k =>
        intro y hy
        obtain ⟨i, hi⟩ := List.getElem?_of_mem hy
        obtain ⟨k', h, hs⟩ := hA i y (List.getElem?_eq_some_iff.1 hi).1 hi
        cases h
        exact hs
theorem sh_mem {k : Nat} {l : List Nd} {y : Nd} (h : sh k l) (hy : y ∈ l) : ∃ k', k = k' + 1 ∧ sh k' y.l := by
  cases k with
  | zero => rw [show l = [] from h] at hy; cases hy
  | succ k => exact ⟨k, rfl, h y hy⟩
theorem nodes_c : ∀ (k : Nat), k ≤ 300 → ∀ (l : List Nd), sh k l → l.length ≤ 2 ^ 63 - 1 → (∀ y ∈ l, Gd y) → ∀ m : Nat, m ≤ 3000 → ∀ s : St, PCalls Try.prog 71 [.vec .any (l.map enc), .lit (.int .i64 m)] s
    (fun r s' => s' = s ∧ ∃ n : Nat, r = .ret (.lit (.int .i64 n)) ∧ n ≤ m + k + 1 ∧ (n ≤ m → n = (l.map Nd.size).sum))
  | k, hk, l, hs, hl, hG, m, hm, s => by
    refine PCalls.of Try.func71 rfl (by rfl) (by simp [Try.ntmps71]) ?_
    refine pwC_sound _ _ _ _ ?_
    simp [Try.ntmps71]
    refine PW.loop (fun n e s' => ∃ j c : Nat, j + n = l.length ∧ c ≤ m + k + 1 ∧ (c ≤ m → c = ((l.map Nd.size).take j).sum) ∧ e 0 = .vec .any (l.map enc) ∧ e 1 = .lit (.int .i64 m) ∧ e 5 = .lit (.int .i64 c) ∧ e 6 = .lit (.int .i64 j) ∧ s = s') l.length ⟨0, 0, by simp, by omega, by simp, by simp, by simp, by simp, by simp, rfl⟩ ?_
    rintro n e s' ⟨j, c, hj, hc, hA, e0, e1, e5, e6, rfl⟩
    refine pwC_sound _ _ _ _ ?_
    by_cases hlt : j < l.length
    · have hg : l[j]? = some l[j] := List.getElem?_eq_getElem hlt
      have hme := List.getElem_mem hlt
      obtain ⟨k', rfl, hs'⟩ := sh_mem hs hme
      by_cases hcm : c ≤ m
      · have hcm' : (c : Int) ≤ (m : Int) := by omega
        have hk2 : IntKind.i64.wrap ((m : Int) - c) = ((m - c : Nat) : Int) := by rw [wrap_i64 (by omega) (by omega)]; omega
        simp [e0, e1, e5, e6, hlt, hg, hcm, hcm', hk2]
        refine (nodes_c k' (by omega) l[j].l hs' (hG _ hme).len.1 (fun y hy => (hG _ hme).sub hy) (m - c) (by omega) s).mono ?_
        rintro _ s2 ⟨h2, u, rfl, hu1, hu2⟩
        rw [h2]
        clear h2 s2
        have hss := sum_take_succ (l := l.map Nd.size) (k := j) (by simpa using hlt)
        have hsz := l[j].size_eq
        rw [List.getElem_map] at hss
        have hA' := hA hcm
        simp [e0, e1, e5, e6]
        rw [wrap_i64 (n := (c : Int) + 1) (by omega) (by omega), wrap_i64 (n := (j : Int) + 1) (by omega) (by omega), wrap_i64 (by omega) (by omega)]
        exact ⟨n - 1, by omega, j + 1, by omega, c + 1 + u, by omega, fun h => by have := hu2 (by omega); omega, by push_cast; omega, by omega⟩
      · have hcm' : ¬ (c : Int) ≤ (m : Int) := by omega
        simp [e0, e1, e5, e6, hlt, hg, hcm, hcm']
        exact ⟨s, sub_refl, rfl, c, rfl, by omega, fun h => absurd h hcm⟩
    · have hjl : j = l.length := by omega
      subst hjl
      simp [e0, e1, e5, e6]
      exact ⟨s, sub_refl, rfl, c, rfl, by omega, fun h => by rw [hA h, List.take_of_length_le (by simp)]⟩
theorem texts_c : ∀ (k : Nat) (l : List Nd), sh k l → l.length ≤ 2 ^ 63 - 1 → (∀ y ∈ l, Gd y) → ∀ (m : Int) (s : St), PCalls Try.prog 72 [.vec .any (l.map enc), .lit (.int .i64 m)] s (fun r s' => s' = s ∧ ∃ n : Int, r = .ret (.lit (.int .i64 n)))
  | k, l, hs, hl, hG, m, s => by
    refine PCalls.of Try.func72 rfl (by rfl) (by simp [Try.ntmps72]) ?_
    refine pwC_sound _ _ _ _ ?_
    simp [Try.ntmps72]
    refine PW.loop (fun n e s' => ∃ (j : Nat) (c : Int), j + n = l.length ∧ e 0 = .vec .any (l.map enc) ∧ e 1 = .lit (.int .i64 m) ∧ e 5 = .lit (.int .i64 c) ∧ e 6 = .lit (.int .i64 j) ∧ s = s') l.length ⟨0, 0, by simp, by simp, by simp, by simp, by simp, rfl⟩ ?_
    rintro n e s' ⟨j, c, hj, e0, e1, e5, e6, rfl⟩
    refine pwC_sound _ _ _ _ ?_
    by_cases hlt : j < l.length
    · have hg : l[j]? = some l[j] := List.getElem?_eq_getElem hlt
      have hme := List.getElem_mem hlt
      obtain ⟨k', rfl, hs'⟩ := sh_mem hs hme
      have hj1 : IntKind.i64.wrap ((j : Int) + 1) = ((j + 1 : Nat) : Int) := by rw [wrap_i64 (by omega) (by omega)]; omega
      by_cases hcm : c ≤ m
      · by_cases hcm2 : IntKind.i64.wrap (c + l[j].s.size) ≤ m
        · simp [e0, e1, e5, e6, hlt, hg, hcm, hcm2, hj1]
          refine (texts_c k' l[j].l hs' (hG _ hme).len.1 (fun y hy => (hG _ hme).sub hy) _ s).mono ?_
          rintro _ s2 ⟨h2, u, rfl⟩
          rw [h2]
          clear h2 s2
          simp [e0, e1, e5, e6, hj1]
          exact ⟨n - 1, by omega, j + 1, by omega, by omega⟩
        · simp [e0, e1, e5, e6, hlt, hg, hcm, hcm2, hj1]
          exact ⟨n - 1, by omega, j + 1, by omega, by omega⟩
      · simp [e0, e1, e5, e6, hlt, hg, hcm]
    · have hjl : j = l.length := by omega
      subst hjl
      by_cases hcm : m < c
      all_goals
        simp [e0, e1, e5, e6, hcm]
end Go.Pv
