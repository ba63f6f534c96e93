/- The reference's placed and Ascending; tree.Sight, tree.Text. -/
import Derived.Test.YteajbghklmkoeaaTk
import Derived.Test.YteajbghklmkoeaaBld
namespace Go.Pv
open Go.Proofs
set_option linter.unusedVariables false
set_option linter.unusedSimpArgs false
set_option maxRecDepth 100000
set_option maxHeartbeats 1000000
/-- A node's places are among n tokens. -/
def plc (n : Nat) (x : Nd) : Prop := 0 ≤ x.fr ∧ x.fr ≤ x.to ∧ x.to ≤ n
instance (n : Nat) (x : Nd) : Decidable (plc n x) := by unfold plc; exact inferInstance
theorem placed_c (k : VK) (l : List PV) (x : Nd) (s : St) : PCalls Try.prog 61 [.vec k l, encU x] s (fun r s' => s' = s ∧ r = .ret (.lit (.bool (decide (plc l.length x))))) := by
  refine PCalls.of Try.func61 rfl (by rfl) (by simp [Try.ntmps61]) ?_
  refine pwC_sound _ _ _ _ ?_
  by_cases h1 : 0 ≤ x.fr
  · by_cases h2 : x.fr ≤ x.to
    · simp +contextual [Try.ntmps61, h1, h2, plc]
    · simp +contextual [Try.ntmps61, h1, h2, plc]
  · simp +contextual [Try.ntmps61, h1, plc]
/-- The text of the tokens from f on, c of them. -/
def txt (l : List Tk) (f : Nat) : Nat → List UInt8
  | 0 => []
  | c + 1 => txt l f c ++ (if c = 0 then [] else (l.getD (f + c) default).before.data.toList) ++ (l.getD (f + c) default).text.data.toList
def bulkT (l : List Tk) : Nat := (l.map fun t => t.before.size + t.text.size).sum
theorem txt_len (l : List Tk) (f : Nat) : ∀ c, f + c ≤ l.length → (txt l f c).length ≤ ((l.map fun t => t.before.size + t.text.size).drop f |>.take c).sum
  | 0, _ => by simp [txt]
  | c + 1, h => by
    have ih := txt_len l f c (by omega)
    have hlt : f + c < l.length := by omega
    have hd : l.getD (f + c) default = l[f + c] := by rw [List.getD_eq_getElem?_getD, List.getElem?_eq_getElem hlt]; rfl
    rw [List.take_succ_eq_append_getElem (by simp; omega), List.sum_append]
    simp only [txt, hd, List.length_append, List.getElem_drop, List.getElem_map, List.sum_cons, List.sum_nil, Nat.add_zero]
    have h1 : l[f + c].text.data.toList.length = l[f + c].text.size := rfl
    have h2 : l[f + c].before.data.toList.length = l[f + c].before.size := rfl
    split <;> simp_all <;> omega
theorem take_sum_le (l : List Nat) (f c : Nat) : ((l.drop f).take c).sum ≤ l.sum := by
  have h1 := sum_take_le (l.drop f) c
  have h2 : l.sum = (l.take f).sum + (l.drop f).sum := by rw [← List.sum_append, List.take_append_drop]
  omega
theorem txt_le (l : List Tk) (f c : Nat) (h : f + c ≤ l.length) : (txt l f c).length ≤ bulkT l := Nat.le_trans (txt_len l f c h) (take_sum_le _ _ _)
theorem tok_le (l : List Tk) (j : Nat) (h : j < l.length) : l[j].before.size + l[j].text.size ≤ bulkT l := by
  have := take_sum_le (l.map fun t => t.before.size + t.text.size) j 1
  have h1 : ((l.map fun t => t.before.size + t.text.size).drop j).take 1 = [l[j].before.size + l[j].text.size] := by
    rw [List.take_one]
    simp [h]
  rw [h1] at this
  simpa [bulkT] using this
theorem text_c (k : VK) (l : List Tk) (x : Nd) (hl : l.length ≤ 1000000) (hb : bulkT l ≤ 10000000) (s : St) : PCalls Try.prog 31 [toks k l, encU x] s (fun r s' => s' = s ∧
    r = .ret (if plc l.length x then .tup [.lit (.string ⟨(txt l x.fr.toNat (x.to - x.fr).toNat).toArray⟩), .lit (.int .i64 0)] else .tup [.lit (.string ⟨#[]⟩), .lit (.int .i64 3)])) := by
  refine PCalls.of Try.func31 rfl (by rfl) (by simp [Try.ntmps31]) ?_
  refine pwC_sound _ _ _ _ ?_
  refine pwC_cut fun K hK => ?_
  simp [Try.ntmps31]
  intro i3 h3
  refine hK _ _ ?_
  clear hK K
  refine pwC_cut fun K hK => ?_
  by_cases hp : plc l.length x
  · obtain ⟨p1, p2, p3⟩ := hp
    have q1 : ¬ x.fr < 0 := by omega
    have q2 : ¬ x.to < x.fr := by omega
    have q3 : ¬ (l.length : Int) < x.to := by omega
    simp [q1, q2, q3]
    refine hK _ _ ?_
    clear hK K
    rw [if_pos ⟨p1, p2, p3⟩]
    refine pwC_cut fun K hK => ?_
    simp
    intro i6 h63 h36 h6
    refine hK _ _ ?_
    clear hK K
    generalize hbase : St.upd s i3 (some (.row 24 6 [encC x])) = base
    have b3 : base i3 = some (.row 24 6 [encC x]) := by rw [← hbase]; simp
    have hsb : s.sub base := by rw [← hbase]; exact sub_refl.upd h3
    have hf6 : Fresh base i6 := by rw [← hbase]; simp [h63, h36, h6]
    clear hbase
    refine pwC_cut fun K hK => ?_
    simp [h36, b3]
    obtain ⟨f, hf⟩ := Int.eq_ofNat_of_zero_le p1
    obtain ⟨c, hc⟩ := Int.eq_ofNat_of_zero_le (show 0 ≤ x.to - x.fr by omega)
    refine PW.loop (fun n e s' => ∃ j : Nat, j + n = c ∧ e 0 = toks k l ∧ e 3 = .pt i3 0 0 ∧ e 6 = .pt i6 0 0 ∧ e 7 = .lit (.int .i64 ((f + j : Nat) : Int)) ∧ BldAt false base i6 (txt l f j) s') c ⟨0, by simp, by simp, by simp, by simp, by simp [hf], BldAt.new base i6 hf6⟩ ?_
    rintro n e s' ⟨j, hj, e0, e3, e6, e7, hB⟩
    refine pwC_sound _ _ _ _ ?_
    have c3 := hB.at b3
    by_cases hlt : j < c
    · have h1 : ((f + j : Nat) : Int) < x.to := by omega
      have hin : f + j < l.length := by omega
      have hg : l[f + j]? = some l[f + j] := List.getElem?_eq_getElem hin
      have hd : l.getD (f + j) default = l[f + j] := by rw [List.getD_eq_getElem?_getD, hg]; rfl
      have ht1 := txt_le l f j (by omega)
      have ht2 := txt_le l f (j + 1) (by omega)
      have ht3 := tok_le l (f + j) hin
      have w1 : IntKind.i64.wrap (((f + j : Nat) : Int) + 1) = ((f + (j + 1) : Nat) : Int) := by rw [wrap_i64 (by omega) (by omega)]; omega
      have htx : txt l f (j + 1) = txt l f j ++ (if j = 0 then [] else l[f + j].before.data.toList) ++ l[f + j].text.data.toList := by rw [← hd]; rfl
      simp only [Int.natCast_add] at e7 h1 w1
      have htn : ((f : Int) + (j : Int)).toNat = f + j := by omega
      have hnn : (0 : Int) ≤ (f : Int) + (j : Int) := by omega
      by_cases hj0 : j = 0
      · subst hj0
        simp only [Nat.add_zero, Int.natCast_zero, Int.add_zero, if_true, List.append_nil, Nat.zero_add] at *
        have h2 : ¬ (x.fr < (f : Int)) := by omega
        have hin' : f < l.length := hin
        simp [e0, e3, e6, e7, c3, h1, h2, hg, hin]
        refine (write_c _ _ i6 _ s' hB l[f].text (by omega)).mono ?_
        rintro _ s1 ⟨hB1, rfl⟩
        simp [e0, e3, e6, e7, w1]
        refine ⟨n - 1, by omega, 1, by omega, by omega, ?_⟩
        rw [htx]
        exact hB1
      · have h2 : x.fr < (f : Int) + (j : Int) := by omega
        rw [if_neg hj0] at htx
        simp [e0, e3, e6, e7, c3, h1, h2, hg, htn, hnn, hin]
        refine (write_c _ _ i6 _ s' hB l[f + j].before (by omega)).mono ?_
        rintro _ s1 ⟨hB1, rfl⟩
        simp [e0, e3, e6, e7, c3, h1, h2, hg, htn, hnn, hin]
        refine (write_c _ _ i6 _ s1 hB1 l[f + j].text (by
          have : l[f + j].before.data.toList.length = l[f + j].before.size := rfl
          rw [List.length_append, this]; omega)).mono ?_
        rintro _ s2 ⟨hB2, rfl⟩
        simp [e0, e3, e6, e7, w1]
        refine ⟨n - 1, by omega, j + 1, by omega, by omega, ?_⟩
        rw [htx]
        exact hB2
    · have hjc : j = c := by omega
      subst hjc
      have h1 : ¬ ((f : Int) + (j : Int) < x.to) := by omega
      have ht1 := txt_le l f j (by omega)
      simp [e3, e6, e7, c3, h1]
      refine hK _ _ ?_
      clear hK K
      simp [e6]
      refine (string_c _ _ i6 _ s' hB (by omega) (.inl rfl)).mono ?_
      rintro _ _ ⟨rfl, rfl⟩
      have hff : x.fr.toNat = f := by omega
      have hcc : (x.to - x.fr).toNat = j := by omega
      simp [hff, hcc]
      exact hsb
  · rw [if_neg hp]
    by_cases q1 : x.fr < 0
    · simp [q1]
      exact sub_refl.upd h3
    · by_cases q2 : x.to < x.fr
      · simp [q1, q2]
        exact sub_refl.upd h3
      · have q3 : (l.length : Int) < x.to := by
          unfold plc at hp; omega
        simp [q1, q2, q3]
        exact sub_refl.upd h3
end Go.Pv
