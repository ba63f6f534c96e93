/- The reference's Short. -/
import Derived.Test.YteajbghklmkoeaaF33
namespace Go.Pv
open Go.Proofs
set_option linter.unusedVariables false
set_option linter.unusedSimpArgs false
set_option maxRecDepth 100000
set_option maxHeartbeats 1000000
theorem joinL_snoc (xs : List ByteArray) (y sep : ByteArray) : joinL (xs ++ [y]) sep = joinL xs sep ++ (if xs = [] then [] else sep.data.toList) ++ y.data.toList := by
  cases xs with
  | nil => simp [joinL]
  | cons x xs => simp [joinL]
theorem joinL_le (xs : List ByteArray) (sep : ByteArray) (h : sep.size = 1) : (joinL xs sep).length ≤ sizes xs + xs.length := by
  cases xs with
  | nil => simp [joinL]
  | cons x xs => rw [joinL_len, h]; simp [sizes]
theorem rshort_c (k kv : VK) (l : List Tk) (v : List Int) (x : Nd) (hl : l.length ≤ 1000000) (hv : v.length ≤ 1000000) (hb : bulkT l ≤ 10000000) (s : St) : PCalls Try.prog 34 [toks k l, ints kv v, encU x] s (fun r s' => s' = s ∧
    r = .ret (if shOk l.length x v then .tup [.lit (.string ⟨(joinL (shows l x v) sp).toArray⟩), .lit (.int .i64 0)] else .tup [.lit (.string ⟨#[]⟩), .lit (.int .i64 3)])) := by
  refine PCalls.of Try.func34 rfl (by rfl) (by simp [Try.ntmps34]) ?_
  refine pwC_sound _ _ _ _ ?_
  refine pwC_cut fun K hK => ?_
  simp [Try.ntmps34]
  intro i5 h5
  refine hK _ _ ?_
  clear hK K
  refine pwC_cut fun K hK => ?_
  simp
  refine (placed_c k (l.map encT) x _).mono ?_
  rintro _ _ ⟨rfl, rfl⟩
  by_cases hp : plc l.length x
  · simp [hp]
    refine (ascends_c k kv (l.map encT) v hv _).mono ?_
    rintro _ _ ⟨rfl, rfl⟩
    by_cases ha : ascF l.length (-1) v = true
    · have hok : shOk l.length x v := ⟨ha, hp⟩
      simp [ha, hp]
      refine hK _ _ ?_
      clear hK K
      generalize hbase : St.upd s i5 (some (.row 24 6 [encC x])) = base
      have b5 : base i5 = some (.row 24 6 [encC x]) := by rw [← hbase]; simp
      have hsb : s.sub base := by rw [← hbase]; exact sub_refl.upd h5
      clear hbase
      refine pwC_cut fun K hK => ?_
      simp
      refine hK _ _ ?_
      clear hK K
      refine pwC_cut fun K hK => ?_
      simp
      refine hK _ _ ?_
      clear hK K
      refine pwC_cut fun K' hK' => ?_
      simp
      have hge := asc_ge v (-1) ha
      refine PW.loop (fun n e s' => ∃ j : Nat, j + n = v.length ∧ e 0 = toks k l ∧ e 1 = ints kv v ∧ e 5 = .pt i5 0 0 ∧ e 10 = .lit (.int .i64 j) ∧ e 9 = .lit (.bool (decide (shows l x (v.take j) = []))) ∧ OwnL 5 1 base (bcells (joinL (shows l x (v.take j)) sp)) (e 8) s') v.length ⟨0, by omega, by simp, by simp, by simp, by simp, by simp [shows], by simpa [shows, joinL] using OwnL.nil _ _ _⟩ ?_
      rintro n e s' ⟨j, hj, e0, e1, e5, e10, e9, hB⟩
      refine pwC_sound _ _ _ _ ?_
      have c5 := hB.at b5
      by_cases hlt : j < v.length
      · have hg : v[j]? = some v[j] := List.getElem?_eq_getElem hlt
        have hlt' : (j : Int) < v.length := by omega
        have w1 : IntKind.i64.wrap ((j : Int) + 1) = ((j + 1 : Nat) : Int) := by rw [wrap_i64 (by omega) (by omega)]; omega
        have har := hge v[j] (List.mem_of_getElem? hg)
        obtain ⟨a, haj⟩ : ∃ a : Nat, v[j] = (a : Int) := ⟨v[j].toNat, by omega⟩
        have hal : a < l.length := by omega
        have hga : l[a]? = some l[a] := List.getElem?_eq_getElem hal
        have ht : txtA l (a : Int) = l[a].text := by simp [txtA, hal]
        have hsz := shows_sizes l x (v.take j) (by simp; omega) hb
        have hsl := shows_len l x (v.take j)
        have hjl := joinL_le (shows l x (v.take j)) sp (by decide)
        have htz := txtA_le l (a : Int)
        rw [ht] at htz
        have hs2 : l[a].text.data.toList.length = l[a].text.size := rfl
        simp at hsl
        rw [haj] at hg har
        have hsucc := shows_succ l x v j a hg
        rw [ht] at hsucc
        simp [e0, e1, e10, hlt, hlt']
        refine PW.drawn (fun i => 0) [0, 1, 2, 3, 4, 5, 6, 7, 8, 9, 10, 11, 12, 13, 14, 15] mixed_ (fun _ _ _ _ h => h) (by kernel_rfl) ?_
        by_cases h1 : (a : Int) < x.fr
        · have hin : ¬ inS x (a : Int) = true := by simp [inS]; omega
          rw [if_neg hin, List.append_nil] at hsucc
          simp [e0, e1, e5, e10, e9, c5, hlt, hlt', hg, haj, h1]
          exact ⟨n - 1, by omega, j + 1, by omega, w1, by rw [hsucc], by rw [hsucc]; exact hB⟩
        · by_cases h2 : x.to ≤ (a : Int)
          · have hin : ¬ inS x (a : Int) = true := by simp [inS]; omega
            rw [if_neg hin, List.append_nil] at hsucc
            simp [e0, e1, e5, e10, e9, c5, hlt, hlt', hg, haj, h1, h2]
            exact ⟨n - 1, by omega, j + 1, by omega, w1, by rw [hsucc], by rw [hsucc]; exact hB⟩
          · have hin : inS x (a : Int) = true := by simp [inS]; omega
            rw [if_pos hin] at hsucc
            have hjs := joinL_snoc (shows l x (v.take j)) l[a].text sp
            rw [← hsucc] at hjs
            have hne : shows l x (v.take (j + 1)) ≠ [] := by rw [hsucc]; simp
            by_cases h3 : shows l x (v.take j) = []
            · rw [if_pos h3, List.append_nil] at hjs
              simp [e0, e1, e5, e10, e9, c5, hlt, hlt', hg, haj, h1, h2, h3, hga, hal]
              refine appBytes (by simp) (by simp) (by simp) (by simp) (by simp) hB l[a].text.data.toList (elems_str _) (by omega) (fun v1 s1 hB1 => ?_)
              exact ⟨n - 1, by omega, j + 1, by omega, w1, hne, by rw [hjs]; exact hB1⟩
            · rw [if_neg h3] at hjs
              simp [e0, e1, e5, e10, e9, c5, hlt, hlt', hg, haj, h1, h2, h3, hga, hal]
              refine appBytes (by simp) (by simp) (by simp) (by simp) (by simp) hB [32] (fun s => by simp [elemsOf]) (by simp; omega) (fun v1 s1 hB1 => ?_)
              refine appBytes (by simp) (by simp) (by simp) (by simp) (by simp) hB1 l[a].text.data.toList (elems_str _) (by simp; omega) (fun v2 s2 hB2 => ?_)
              exact ⟨n - 1, by omega, j + 1, by omega, w1, hne, by rw [hjs]; exact hB2⟩
      · have hjc : j = v.length := by omega
        have hlt' : ¬ (j : Int) < v.length := by omega
        subst hjc
        rw [List.take_length] at hB
        simp [e0, e1, e10, hlt']
        refine hK' _ _ ?_
        clear hK' K'
        simp
        refine cvtBytes (by simp) (by simp) (by simp) (by simp) hB ?_
        simp [hok]
        exact fun q b hq => hB.sub q b (hsb q b hq)
    · have hok : ¬ shOk l.length x v := fun h => ha h.1
      simp [ha, hok, hp]
      exact sub_refl.upd h5
  · have hok : ¬ shOk l.length x v := fun h => hp h.2
    simp [hp, hok]
    exact sub_refl.upd h5
end Go.Pv
