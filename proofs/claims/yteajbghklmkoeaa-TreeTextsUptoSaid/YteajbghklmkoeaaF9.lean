/- The law TreeTexts answers true. -/
import Derived.Test.YteajbghklmkoeaaF34
import Derived.Test.YteajbghklmkoeaaF11
import Derived.Test.YteajbghklmkoeaaF12
import Derived.Test.YteajbghklmkoeaaOpT
namespace Go.Pv
open Go.Proofs
set_option linter.unusedVariables false
set_option linter.unusedSimpArgs false
set_option maxRecDepth 100000
set_option maxHeartbeats 1000000
theorem lawTexts_c (k kv : VK) (l : List Tk) (v : List Int) (x : Nd) (hl : l.length ≤ 2 ^ 63 - 1) (hv : v.length ≤ 2 ^ 63 - 1) (hG : Gd x) (hb : bulkT l ≤ 10000000) (s : St) : PCalls Try.prog 9 [toks k l, ints kv v, encU x] s (fun r s' => s' = s ∧ r = .ret (.lit (.bool true))) := by
  refine PCalls.of Try.func9 rfl (by rfl) (by simp [Try.ntmps9]) ?_
  refine pwC_sound _ _ _ _ ?_
  refine pwC_cut fun K hK => ?_
  simp [Try.ntmps9]
  intro i5 h5
  refine hK _ _ ?_
  clear hK K
  generalize hbase : St.upd s i5 (some (.row 24 6 [encC x])) = base
  have b5 : base i5 = some (.row 24 6 [encC x]) := by rw [← hbase]; simp
  have hsb : s.sub base := by rw [← hbase]; exact sub_refl.upd h5
  clear hbase
  refine pwC_cut fun K hK => ?_
  simp [b5]
  refine (heavy11_c k kv (l.map encT) (v.map fun n => .lit (.int .i64 n)) (by simpa using hl) (by simpa using hv) x hG _).mono ?_
  rintro _ s1 ⟨hs1, b, rfl, hbf⟩
  rw [hs1]
  clear hs1 s1
  cases b with
  | true =>
    simp
    refine (awake_c _).mono ?_
    rintro _ s1 ⟨hs1, rfl⟩
    rw [hs1]
    simp
    exact hsb
  | false =>
    have h3 := hbf rfl
    simp at h3
    obtain ⟨hl3, hv3, hx3⟩ := h3
    simp
    refine hK _ _ ?_
    clear hK K
    refine pwC_cut fun K hK => ?_
    simp [b5]
    refine (text_c k l x (by omega) hb _).mono ?_
    rintro _ s1 ⟨hs1, rfl⟩
    rw [hs1]
    clear hs1 s1
    generalize hT : (if plc l.length x then PV.tup [PV.lit (Value.string ⟨(txt l x.fr.toNat (x.to - x.fr).toNat).toArray⟩), PV.lit (Value.int .i64 0)] else PV.tup [.lit (.string ⟨#[]⟩), .lit (.int .i64 3)]) = T
    obtain ⟨t1, t2, rfl⟩ : ∃ t1 t2, T = PV.tup [.lit (.string t1), .lit (.int .i64 t2)] := by rw [← hT]; split <;> exact ⟨_, _, rfl⟩
    simp
    refine hK _ _ ?_
    clear hK K
    refine pwC_cut fun K hK => ?_
    simp [b5]
    refine (rtext_c k l x (by omega) hb _).mono ?_
    rintro _ s1 ⟨hs1, rfl⟩
    rw [hs1, hT]
    clear hs1 s1 hT
    simp
    refine hK _ _ ?_
    clear hK K
    refine pwC_cut fun K hK => ?_
    simp [b5]
    refine (short_c k kv l v x (by omega) (by omega) hb _).mono ?_
    rintro _ s1 ⟨hs1, rfl⟩
    rw [hs1]
    clear hs1 s1
    generalize hT : (if shOk l.length x v then PV.tup [PV.lit (Value.string ⟨(joinL (shows l x v) sp).toArray⟩), PV.lit (Value.int .i64 0)] else PV.tup [.lit (.string ⟨#[]⟩), .lit (.int .i64 3)]) = T
    obtain ⟨u1, u2, rfl⟩ : ∃ t1 t2, T = PV.tup [.lit (.string t1), .lit (.int .i64 t2)] := by rw [← hT]; split <;> exact ⟨_, _, rfl⟩
    simp
    refine hK _ _ ?_
    clear hK K
    refine pwC_cut fun K hK => ?_
    simp [b5]
    refine (rshort_c k kv l v x (by omega) (by omega) hb _).mono ?_
    rintro _ s1 ⟨hs1, rfl⟩
    rw [hs1, hT]
    clear hs1 s1 hT
    simp
    refine hK _ _ ?_
    clear hK K
    simp
    refine (awake_c _).mono ?_
    rintro _ s1 ⟨hs1, rfl⟩
    rw [hs1]
    simp
    exact hsb
theorem treeTexts_c {B : Nat} (l : List Tk) (hl : l.length ≤ 2 ^ 63 - 1) (hT : (bulkT l ≤ B ∧ l.length ≤ B) ∧ ∀ t ∈ l, Tok t) (v : List Int) (hv : v.length ≤ 2 ^ 63 - 1) (_ : ∀ y ∈ v, I64 y) (x : Nd) (hG : Gd x) (_ : Gi x) (hB : B ≤ 1048576) (s : St) : PCalls Try.prog 9 [toks .any l, ints .any v, encU x] s (fun r s' => s' = s ∧ r = .ret (.lit (.bool true))) := lawTexts_c .any .any l v x hl hv hG (by have := hT.1.1; omega) s
end Go.Pv
