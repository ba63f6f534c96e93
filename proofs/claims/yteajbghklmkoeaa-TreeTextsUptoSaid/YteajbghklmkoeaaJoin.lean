/- strings.Join. -/
import Derived.Test.YteajbghklmkoeaaBld
namespace Go.Pv
open Go.Proofs
set_option linter.unusedVariables false
set_option linter.unusedSimpArgs false
set_option maxRecDepth 100000
set_option maxHeartbeats 1000000
/-- Texts as values. -/
@[reducible] def strs (k : VK) (l : List ByteArray) : PV := .vec k (l.map fun s => .lit (.string s))
def joinL : List ByteArray → ByteArray → List UInt8
  | [], _ => []
  | x :: l, sep => x.data.toList ++ l.flatMap fun y => sep.data.toList ++ y.data.toList
def sizes (l : List ByteArray) : Nat := (l.map ByteArray.size).sum
theorem joinL_len (x : ByteArray) (l : List ByteArray) (sep : ByteArray) : (joinL (x :: l) sep).length = x.size + sizes l + sep.size * l.length := by
  have h : ∀ l : List ByteArray, (l.flatMap fun y => sep.data.toList ++ y.data.toList).length = sizes l + sep.size * l.length := by
    intro l
    induction l with
    | nil => rfl
    | cons y l ih =>
      have h1 : y.data.toList.length = y.size := rfl
      have h2 : sep.data.toList.length = sep.size := rfl
      simp only [List.flatMap_cons, List.length_append, ih, sizes, List.map_cons, List.sum_cons, List.length_cons, Nat.mul_succ] at *
      omega
  have h1 : x.data.toList.length = x.size := rfl
  simp only [joinL, List.length_append, h, h1]
  omega
theorem sizes_take (l : List ByteArray) (k : Nat) (h : k < l.length) : sizes (l.take (k + 1)) = sizes (l.take k) + l[k].size := by
  unfold sizes
  rw [List.map_take, List.map_take, sum_take_succ (by simpa using h)]
  simp
theorem sizes_take_le (l : List ByteArray) (k : Nat) : sizes (l.take k) ≤ sizes l := by
  unfold sizes
  rw [List.map_take]
  exact sum_take_le _ _
theorem slc_strs {P : Program} {t el : TypeId} (k : VK) (xs : List ByteArray) (h1 : sliceT P t = some el) (h2 : tsz P el = some 1) (hl : 1 ≤ xs.length) : ∃ k', slc P t (strs k xs) (some (.lit (.int .i64 1))) none = some (strs k' (xs.drop 1)) := by
  have h3 : ((xs.map fun s => PV.lit (.string s)).all (fun x => x.width == 1)) = true := by simp
  have h4 : (xs.map fun s => PV.lit (.string s)).take xs.length = xs.map fun s => PV.lit (.string s) := List.take_of_length_le (by simp)
  refine ⟨k, ?_⟩
  simp only [slc, h1, h2, Option.bind_some, bound]
  rw [List.length_map]
  cases k <;> simp [hl, h4]
theorem join_c (k : VK) (xs : List ByteArray) (sep : ByteArray) (hn : xs.length ≤ 1000000) (hs1 : sep.size ≤ 1000000) (hs2 : sizes xs ≤ 10000000000000) (s : St) :
    PCalls Try.prog 64 [strs k xs, .lit (.string sep)] s (fun r s' => s' = s ∧ r = .ret (.lit (.string ⟨(joinL xs sep).toArray⟩))) := by
  refine PCalls.of Try.func64 rfl (by rfl) (by simp [Try.ntmps64]) ?_
  refine pwC_sound _ _ _ _ ?_
  match xs, hn, hs2 with
  | [], _, _ => simp [Try.ntmps64, joinL]
  | [x], _, _ => simp [Try.ntmps64, joinL]
  | x :: y :: l, hn, hs2 =>
    have hN : ((x :: y :: l).length : Int) = (l.length : Int) + 1 + 1 := by simp
    have a1 : ¬ ((l.length : Int) + 1 + 1 = 0) := by omega
    have a2 : ¬ ((l.length : Int) + 1 + 1 = 1) := by omega
    refine pwC_cut fun K hK => ?_
    simp [Try.ntmps64]
    refine hK _ _ ?_
    clear hK K
    refine pwC_cut fun K hK => ?_
    simp [Try.ntmps64]
    simp [a1, a2]
    refine hK _ _ ?_
    clear hK K
    refine pwC_cut fun K hK => ?_
    simp
    refine hK _ _ ?_
    clear hK K
    -- the separators' room
    have hq : sep.size * (l.length + 1) ≤ 1000000000000 := by
      have h1 : l.length + 1 ≤ 1000000 := by simp at hn; omega
      calc sep.size * (l.length + 1) ≤ 1000000 * 1000000 := Nat.mul_le_mul hs1 h1
        _ = 1000000000000 := by decide
    have hln : l.length + 1 + 1 ≤ 1000000 := by simpa using hn
    obtain ⟨Q, hQ⟩ : ∃ Q, Q = 9223372036854775807 / (l.length + 1) := ⟨_, rfl⟩
    obtain ⟨M, hM⟩ : ∃ M, M = sep.size * (l.length + 1) := ⟨_, rfl⟩
    rw [← hM] at hq
    have hQi : Int.tdiv 9223372036854775807 ((l.length : Int) + 1) = (Q : Int) := by rw [hQ]; rfl
    have hMi : (sep.size : Int) * ((l.length : Int) + 1) = (M : Int) := by rw [hM]; push_cast; rfl
    have hQ1 : Q ≤ 9223372036854775807 := by rw [hQ]; exact Nat.div_le_self _ _
    have hQ2 : sep.size + 1 ≤ Q := by
      rw [hQ, Nat.le_div_iff_mul_le (by omega), Nat.add_mul, ← hM]
      omega
    have w1 : IntKind.i64.wrap ((l.length : Int) + 1) = l.length + 1 := wrap_i64 (by omega) (by omega)
    have w2 : IntKind.i64.wrap (Int.tdiv 9223372036854775807 ((l.length : Int) + 1)) = Q := by rw [hQi]; exact wrap_i64 (by omega) (by omega)
    have w3 : ¬ ((Q : Int) ≤ (sep.size : Int)) := by omega
    have w4 : ¬ ((l.length : Int) + 1 = 0) := by omega
    have w5 : IntKind.i64.wrap ((sep.size : Int) * ((l.length : Int) + 1)) = (M : Int) := by rw [hMi]; exact wrap_i64 (by omega) (by omega)
    have w6 : IntKind.i64.wrap (M : Int) = (M : Int) := wrap_i64 (by omega) (by omega)
    refine pwC_cut fun K hK => ?_
    have fin : ∀ e, e 5 = .lit (.int .i64 (M : Int)) → e 0 = strs k (x :: y :: l) → e 1 = .lit (.string sep) → K e s := by
      intro e e5 e0 e1
      refine hK _ _ ?_
      clear hK K
      refine pwC_cut fun K hK => ?_
      generalize hxs : x :: y :: l = xs at *
      have hlen : xs.length = l.length + 1 + 1 := by rw [← hxs]; rfl
      simp [e0, e1, e5]
      refine PW.loop (fun n e s' => ∃ j : Nat, j + n = xs.length ∧ e 0 = strs k xs ∧ e 1 = .lit (.string sep) ∧ e 39 = strs k xs ∧ e 40 = .lit (.int .i64 xs.length) ∧ e 41 = .lit (.int .i64 j) ∧ e 5 = .lit (.int .i64 ((M + sizes (xs.take j) : Nat) : Int)) ∧ s' = s) xs.length ⟨0, by simp, by simp [e0], by simp [e1], by simp, by simp [hlen], by simp, by simp [sizes, e5], rfl⟩ ?_
      rintro n e s' ⟨j, hj, e0, e1, e39, e40, e41, e5, rfl⟩
      refine pwC_sound _ _ _ _ ?_
      by_cases hlt : j < xs.length
      · have hg : xs[j]? = some xs[j] := List.getElem?_eq_getElem hlt
        have hst := sizes_take xs j hlt
        have hle := sizes_take_le xs (j + 1)
        have v1 : IntKind.i64.wrap ((9223372036854775807 : Int) - ((M + sizes (xs.take j) : Nat) : Int)) = 9223372036854775807 - ((M + sizes (xs.take j) : Nat) : Int) := wrap_i64 (by omega) (by omega)
        have v2 : ¬ ((9223372036854775807 : Int) - ((M + sizes (xs.take j) : Nat) : Int) < (xs[j].size : Int)) := by omega
        have v3 : IntKind.i64.wrap (((M + sizes (xs.take j) : Nat) : Int) + (xs[j].size : Int)) = ((M + sizes (xs.take (j + 1)) : Nat) : Int) := by rw [wrap_i64 (by omega) (by omega)]; omega
        have v4 : IntKind.i64.wrap ((j : Int) + 1) = ((j + 1 : Nat) : Int) := by rw [wrap_i64 (by omega) (by omega)]; omega
        simp only [Int.natCast_add] at v1 v2 v3
        simp [e0, e1, e39, e40, e41, e5, hlt, hg, v1, v2, v3, v4]
        exact ⟨n - 1, by omega, j + 1, by omega, by push_cast; rfl, rfl⟩
      · have hjl : j = xs.length := by omega
        subst hjl
        rw [List.take_length] at e5
        simp [e40, e41]
        refine hK _ _ ?_
        clear hK K e39 e40 e41
        refine pwC_cut fun K hK => ?_
        simp [e0, e1, e5]
        intro i hi
        refine hK _ _ ?_
        clear hK K
        refine pwC_cut fun K hK => ?_
        simp [e5]
        have hcast : ((M : Int) + (sizes xs : Int)) = ((M + sizes xs : Nat) : Int) := by push_cast; rfl
        rw [hcast]
        refine (grown_c s' i (M + sizes xs) (by omega) hi).mono ?_
        rintro _ s1 ⟨hB, rfl⟩
        simp
        refine hK _ _ ?_
        clear hK K
        refine pwC_cut fun K hK => ?_
        simp [e0]
        rw [← hxs]
        simp
        have hcont := joinL_len x (y :: l) sep
        have hxsz : x.size ≤ sizes xs := by rw [← hxs]; simp [sizes]
        refine (write_c _ _ i [] s1 hB x (by simp; omega)).mono ?_
        rintro _ s2 ⟨hB2, rfl⟩
        simp
        refine hK _ _ ?_
        clear hK K hB
        refine pwC_cut fun K hK => ?_
        obtain ⟨k', hk'⟩ := slc_strs (P := Try.prog) (t := 52) (el := 9) k xs (by simp) (by simp) (by omega)
        have hd : xs.drop 1 = y :: l := by rw [← hxs]; rfl
        rw [hd] at hk'
        simp [e0, hk']
        generalize hE : Env.put _ _ _ = E
        have g8 : E 8 = .pt i 0 0 := by rw [← hE]; simp
        have g1 : E 1 = .lit (.string sep) := by rw [← hE]; simp [e1]
        have g63 : E 63 = strs k' (y :: l) := by rw [← hE]; simp
        have g64 : E 64 = .lit (.int .i64 ((y :: l).length : Nat)) := by rw [← hE]; simp
        have g65 : E 65 = .lit (.int .i64 0) := by rw [← hE]; simp
        clear hE
        generalize htl : y :: l = tl at *
        have htlen : tl.length = l.length + 1 := by rw [← htl]; rfl
        have hsz : sizes xs = x.size + sizes tl := by rw [← hxs]; simp [sizes]
        clear e0 e1 e5 hk'
        refine PW.loop (fun n e s2 => ∃ j : Nat, j + n = tl.length ∧ e 8 = .pt i 0 0 ∧ e 1 = .lit (.string sep) ∧ e 63 = strs k' tl ∧ e 64 = .lit (.int .i64 tl.length) ∧ e 65 = .lit (.int .i64 j) ∧ BldAt (decide (0 < M + sizes xs)) s' i (joinL (x :: tl.take j) sep) s2) tl.length ⟨0, by simp, by simp [g8], by simp [g1], by simp [g63], by simp [g64], by simp [g65], by simpa [joinL] using hB2⟩ ?_
        clear g8 g1 g63 g64 g65 hB2
        rintro n2 e s2 ⟨j, hj, e8, e1, e63, e64, e65, hB⟩
        refine pwC_sound _ _ _ _ ?_
        by_cases hlt : j < tl.length
        · have hg : tl[j]? = some tl[j] := List.getElem?_eq_getElem hlt
          have hst := sizes_take tl j hlt
          have hle := sizes_take_le tl (j + 1)
          have hcon := joinL_len x (tl.take j) sep
          have hcon2 := joinL_len x (tl.take (j + 1)) sep
          have hmul : sep.size * (tl.take (j + 1)).length ≤ M := by
            rw [hM]; exact Nat.mul_le_mul_left _ (by simp; omega)
          have hmul2 : sep.size * (tl.take j).length + sep.size = sep.size * (tl.take (j + 1)).length := by
            rw [List.length_take, List.length_take, Nat.min_eq_left (by omega), Nat.min_eq_left (by omega), Nat.mul_succ]
          have v4 : IntKind.i64.wrap ((j : Int) + 1) = ((j + 1 : Nat) : Int) := by rw [wrap_i64 (by omega) (by omega)]; omega
          simp [e8, e1, e63, e64, e65, hlt, hg]
          refine (write_c _ _ i _ s2 hB sep (by omega)).mono ?_
          rintro _ s3 ⟨hB3, rfl⟩
          simp [e8, e1, e63, e64, e65, hlt, hg]
          refine (write_c _ _ i _ s3 hB3 tl[j] (by
            have : sep.data.toList.length = sep.size := rfl
            rw [List.length_append, this]; omega)).mono ?_
          rintro _ s4 ⟨hB4, rfl⟩
          simp [e8, e1, e63, e64, e65, v4]
          refine ⟨n2 - 1, by omega, j + 1, by omega, by push_cast; rfl, ?_⟩
          have : joinL (x :: tl.take (j + 1)) sep = joinL (x :: tl.take j) sep ++ sep.data.toList ++ tl[j].data.toList := by
            rw [List.take_succ_eq_append_getElem hlt]
            simp only [joinL, List.flatMap_append, List.flatMap_cons, List.flatMap_nil, List.append_nil, List.append_assoc]
          rw [this]
          exact hB4
        · have hjl : j = tl.length := by omega
          subst hjl
          rw [List.take_length] at hB
          have hcon := joinL_len x tl sep
          rw [htlen, ← hM] at hcon
          simp [e64, e65]
          refine hK _ _ ?_
          clear hK K
          simp [e8]
          refine (string_c _ _ i _ s2 hB (by omega) ?_).mono ?_
          · by_cases h0 : 0 < M + sizes xs
            · right
              intro h
              rw [h] at hcon
              simp at hcon
              omega
            · left; simpa using h0
          · rintro _ _ ⟨rfl, rfl⟩
            rw [← hxs]
            simp
    by_cases hsep : 0 < sep.size
    · have hsep' : (0 : Int) < sep.size := by omega
      simp [hsep, hsep', w1, w2, w3, w4, w5, w6]
      refine fin _ ?_ ?_ ?_
      · simp
      · simp
      · simp
    · have hsep' : ¬ (0 : Int) < sep.size := by omega
      have hz : sep.size = 0 := by omega
      simp [hsep, hsep']
      refine fin _ ?_ ?_ ?_
      · simp [hM, hz]
      · simp
      · simp
end Go.Pv
