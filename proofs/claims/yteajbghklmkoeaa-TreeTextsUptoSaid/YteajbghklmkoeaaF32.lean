/- The reference's Text. -/
import Derived.Test.YteajbghklmkoeaaF31
namespace Go.Pv
open Go.Proofs
set_option linter.unusedVariables false
set_option linter.unusedSimpArgs false
set_option maxRecDepth 100000
set_option maxHeartbeats 1000000
@[reducible] def bcells (b : List UInt8) : List (List PV) := b.map fun c => [.lit (.int .u8 c.toNat)]
theorem elems_str (t : ByteArray) (s : St) : elemsOf s 1 (.lit (.string t)) = some (bcells t.data.toList) := by
  simp [elemsOf, ByteArray.toList_eq]
/-- Bytes appended to bytes. -/
theorem appBytes {P : Program} {t t2 u : Nat} (h1 : sliceT P t = some u) (h2 : tsz P u = some 1) (h3 : tby P u = some 1) (h4 : tzero P u = some (.int .u8 0)) (h7 : ((sliceT P t2).isSome || isStrT P t2) = true) {base s : St} {b : List UInt8} {v : PV} (h : OwnL u 1 base (bcells b) v s)
    {y : PV} (a : List UInt8) (hy : ∀ s, elemsOf s 1 y = some (bcells a)) (hl : b.length + a.length ≤ 100000000000000) {K : PV → St → Prop} (hK : ∀ v' s', OwnL u 1 base (bcells (b ++ a)) v' s' → K v' s') : appW P s t t2 v y K := by
  refine appOwn h h1 h2 h3 h4 rfl (by omega) h7 hy (by simp; omega) (fun v' s' h => hK v' s' (by simpa [bcells] using h))
/-- A text out of bytes that have been appended. -/
theorem cvtBytes {P : Program} {t t2 u : Nat} (h1 : sliceT P t = some u) (h2 : tsz P u = some 1) (h3 : intT P u = some .u8) (h7 : isStrT P t2 = true) {base s : St} {b : List UInt8} {v : PV} (h : OwnL u 1 base (bcells b) v s) {K : PV → Prop} (hK : K (.lit (.string ⟨b.toArray⟩))) : cvtW P t t2 v s K := by
  have hb := bytesOf_map b
  rcases h with ⟨h0, rfl, rfl⟩ | ⟨h0, j, hj, rfl, rfl⟩
  · have : b = [] := by simpa [bcells] using h0
    subst this
    refine ex_okv (v := .lit (.string ⟨#[]⟩)) ?_ hK
    simp [convB, h1, h2, h3, h7, elemsOf, bytesOf]
  · refine ex_okv (v := .lit (.string ⟨b.toArray⟩)) ?_ hK
    simp only [convB, h1, h2, h3, h7, elemsOf, St.upd_same, Option.bind_some, and_self, if_true]
    rw [if_pos ⟨trivial, by omega⟩, List.drop_zero, List.take_of_length_le (by omega)]
    simp [bcells, hb]
theorem rtext_c (k : VK) (l : List Tk) (x : Nd) (hl : l.length ≤ 1000000) (hb : bulkT l ≤ 10000000) (s : St) : PCalls Try.prog 32 [toks k l, encU x] s (fun r s' => s' = s ∧
    r = .ret (if plc l.length x then .tup [.lit (.string ⟨(txt l x.fr.toNat (x.to - x.fr).toNat).toArray⟩), .lit (.int .i64 0)] else .tup [.lit (.string ⟨#[]⟩), .lit (.int .i64 3)])) := by
  refine PCalls.of Try.func32 rfl (by rfl) (by simp [Try.ntmps32]) ?_
  refine pwC_sound _ _ _ _ ?_
  refine pwC_cut fun K hK => ?_
  simp [Try.ntmps32]
  intro i3 h3
  refine hK _ _ ?_
  clear hK K
  refine pwC_cut fun K hK => ?_
  simp
  refine (placed_c k (l.map encT) x _).mono ?_
  rintro _ _ ⟨rfl, rfl⟩
  by_cases hp : plc l.length x
  · simp [hp]
    refine hK _ _ ?_
    clear hK K
    obtain ⟨p1, p2, p3⟩ := hp
    refine pwC_cut fun K hK => ?_
    simp
    refine hK _ _ ?_
    clear hK K
    generalize hbase : St.upd s i3 (some (.row 24 6 [encC x])) = base
    have b3 : base i3 = some (.row 24 6 [encC x]) := by rw [← hbase]; simp
    have hsb : s.sub base := by rw [← hbase]; exact sub_refl.upd h3
    clear hbase
    refine pwC_cut fun K hK => ?_
    simp [b3]
    obtain ⟨f, hf⟩ := Int.eq_ofNat_of_zero_le p1
    obtain ⟨c, hc⟩ := Int.eq_ofNat_of_zero_le (show 0 ≤ x.to - x.fr by omega)
    refine PW.loop (fun n e s' => ∃ j : Nat, j + n = c ∧ e 0 = toks k l ∧ e 3 = .pt i3 0 0 ∧ e 7 = .lit (.int .i64 ((f + j : Nat) : Int)) ∧ OwnL 5 1 base (bcells (txt l f j)) (e 6) s') c ⟨0, by simp, by simp, by simp, by simp [hf], by simpa [bcells, txt] using OwnL.nil _ _ _⟩ ?_
    rintro n e s' ⟨j, hj, e0, e3, e7, hB⟩
    refine pwC_sound _ _ _ _ ?_
    have c3 := hB.at b3
    by_cases hlt : j < c
    · have h1 : ((f + j : Nat) : Int) < x.to := by omega
      have hin : f + j < l.length := by omega
      have hg : l[f + j]? = some l[f + j] := List.getElem?_eq_getElem hin
      have hd : l.getD (f + j) default = l[f + j] := by rw [List.getD_eq_getElem?_getD, hg]; rfl
      have ht1 := txt_le l f j (by omega)
      have ht2 := txt_le l f (j + 1) (by omega)
      have ht3 := tok_le l (f + j) hin
      have hs1 : l[f + j].before.data.toList.length = l[f + j].before.size := rfl
      have hs2 : l[f + j].text.data.toList.length = l[f + j].text.size := rfl
      have w1 : IntKind.i64.wrap (((f + j : Nat) : Int) + 1) = ((f + (j + 1) : Nat) : Int) := by rw [wrap_i64 (by omega) (by omega)]; omega
      have htx : txt l f (j + 1) = txt l f j ++ (if j = 0 then [] else l[f + j].before.data.toList) ++ l[f + j].text.data.toList := by rw [← hd]; rfl
      simp only [Int.natCast_add] at e7 h1 w1
      have htn : ((f : Int) + (j : Int)).toNat = f + j := by omega
      have hnn : (0 : Int) ≤ (f : Int) + (j : Int) := by omega
      by_cases hj0 : j = 0
      · subst hj0
        simp only [Nat.add_zero, Int.natCast_zero, Int.add_zero, if_true, List.append_nil, Nat.zero_add] at *
        have h2 : ¬ (x.fr < (f : Int)) := by omega
        simp [e0, e3, e7, c3, h1, h2, hg, hin]
        refine appBytes (by simp) (by simp) (by simp) (by simp) (by simp) hB l[f].text.data.toList (elems_str _) (by omega) (fun v1 s1 hB1 => ?_)
        simp [e0, e3, e7, w1]
        refine ⟨n - 1, by omega, 1, by omega, by omega, ?_⟩
        rw [htx]
        exact hB1
      · have h2 : x.fr < (f : Int) + (j : Int) := by omega
        rw [if_neg hj0] at htx
        simp [e0, e3, e7, c3, h1, h2, hg, htn, hnn, hin]
        refine appBytes (by simp) (by simp) (by simp) (by simp) (by simp) hB l[f + j].before.data.toList (elems_str _) (by omega) (fun v1 s1 hB1 => ?_)
        refine appBytes (by simp) (by simp) (by simp) (by simp) (by simp) hB1 l[f + j].text.data.toList (elems_str _) (by rw [List.length_append]; omega) (fun v2 s2 hB2 => ?_)
        simp [e0, e3, e7, w1]
        refine ⟨n - 1, by omega, j + 1, by omega, by omega, ?_⟩
        rw [htx]
        exact hB2
    · have hjc : j = c := by omega
      subst hjc
      have h1 : ¬ ((f : Int) + (j : Int) < x.to) := by omega
      simp [e3, e7, c3, h1]
      refine hK _ _ ?_
      clear hK K
      simp
      refine cvtBytes (by simp) (by simp) (by simp) (by simp) hB ?_
      have hff : x.fr.toNat = f := by omega
      have hcc : (x.to - x.fr).toNat = j := by omega
      have hpp : plc l.length x := ⟨p1, p2, p3⟩
      simp [hff, hcc, hpp]
      exact fun q b hq => hB.sub q b (hsb q b hq)
  · simp [hp]
    exact sub_refl.upd h3
end Go.Pv
