/- Several texts, one behind the other. -/
import Derived.Test.YtkdimfmnialabaaDoorKD
import Derived.Test.YtkdimfmnialabaaDoorKE
import Derived.Test.YtkdimfmnialabaaDoorChecked
import Derived.Test.YtkdimfmnialabaaDoorRows
import Derived.Lib.LaidU8
import Derived.Shelf.Vars
import Derived.LaidByTextLater
import Derived.LaidMore
/- The words of a directive, as plain data. -/
namespace Go.Pv
set_option linter.unusedVariables false
set_option linter.unusedSimpArgs false
theorem befF_inn (t : ByteArray) : ∀ (k i : Nat) (c : Bool), i ≤ t.size → i ≤ (befF t k i c).1 ∧ (befF t k i c).1 ≤ t.size
  | 0, i, c, h => ⟨Nat.le_refl _, h⟩
  | k + 1, i, c, h => by
    have hp := pieceEnd_le h
    unfold befF
    split
    · have := befF_inn t k (pieceEnd t i) (clearB t i (pieceEnd t i) c) hp.2
      omega
    · exact ⟨Nat.le_refl _, h⟩
/-- Two texts that differ in their first byte alone. -/
structure Agr (t u : ByteArray) : Prop where
  sz : t.size = u.size
  b : ∀ j, 1 ≤ j → bt t j = bt u j
  e : ∀ i j, 1 ≤ i → t.extract i j = u.extract i j
  z1 : bt t 0 ≠ 92
  z2 : bt u 0 ≠ 92
theorem scanF_from {p q : Nat → Bool} : ∀ (k i : Nat), (∀ j, i ≤ j → p j = q j) → scanF p k i = scanF q k i
  | 0, i, h => rfl
  | k + 1, i, h => by rw [scanF, scanF, h i (Nat.le_refl _), scanF_from k (i + 1) (fun j hj => h j (by omega))]
theorem scanW_from {p q : Nat → Bool} (n i : Nat) (h : ∀ j, i ≤ j → p j = q j) : scanW p n i = scanW q n i := scanF_from _ _ h
section
variable {t u : ByteArray} (h : Agr t u)
include h
theorem Agr.b92 (j : Nat) : decide (bt t j = 92) = decide (bt u j = 92) := by
  cases j with
  | zero => simp [h.z1, h.z2]
  | succ j => rw [h.b _ (by omega)]
theorem Agr.beg {i : Nat} (hi : 1 ≤ i) (x : ByteArray) : beg t i x = beg u i x := by
  unfold Pv.beg
  rw [h.sz, h.e _ _ hi]
theorem Agr.wordEnd {i : Nat} (hi : 1 ≤ i) : wordEnd t i = wordEnd u i := by
  unfold Pv.wordEnd
  rw [h.sz]
  exact scanW_from _ _ fun j hj => by simp only [h.b j (by omega)]
theorem Agr.numEnd {i : Nat} (hi : 1 ≤ i) : numEnd t i = numEnd u i := by
  unfold Pv.numEnd
  rw [h.sz]
  exact scanW_from _ _ fun j hj => by simp only [numP, h.b j (by omega), h.b (j - 1) (by omega)]
theorem Agr.quotF (q : Int) : ∀ (k i : Nat), 1 ≤ i → quotF t q k i = quotF u q k i
  | 0, i, hi => rfl
  | k + 1, i, hi => by
    rw [Pv.quotF, Pv.quotF, h.sz, h.b i hi, h.b (i + 1) (by omega), Agr.quotF q k (i + 2) (by omega), Agr.quotF q k (i + 1) (by omega)]
theorem Agr.quotE (q : Int) {i : Nat} (hi : 1 ≤ i) : quotE t q i = quotE u q i := by
  unfold Pv.quotE
  rw [h.sz, h.quotF _ _ _ hi]
theorem Agr.lineEnd {i : Nat} (hi : 1 ≤ i) : lineEnd t i = lineEnd u i := by
  have key : scanW (linP t i) u.size i = scanW (linP u i) u.size i := by
    refine scanW_from _ _ fun j hj => ?_
    unfold linP
    rw [h.b j (by omega), h.b92]
    by_cases h2 : i + 2 ≤ j
    · rw [h.b (j - 1) (by omega), h.b (j - 2) (by omega)]
    · simp [h2]
  unfold Pv.lineEnd
  simp only [h.sz, key]
  by_cases h1 : i + 1 < scanW (linP u i) u.size i
  · rw [h.b (scanW (linP u i) u.size i - 1) (by omega)]
  · simp [h1]
theorem Agr.cmtEnd {i : Nat} (hi : 1 ≤ i) : cmtEnd t i = cmtEnd u i := by
  unfold Pv.cmtEnd
  rw [h.beg hi, h.beg hi, h.sz, scanW_from (q := fun j => decide (bt u j ≠ 10)) _ i fun j hj => by rw [h.b j (by omega)], scanW_from (q := fun j => !Pv.beg u j ⟨#[42, 47]⟩) _ (i + 2) fun j hj => by rw [h.beg (by omega)]]
theorem Agr.pieceEnd {i : Nat} (hi : 1 ≤ i) : pieceEnd t i = pieceEnd u i := by
  unfold Pv.pieceEnd
  rw [h.b i hi, h.b (i + 1) (by omega), h.b (i + 2) (by omega), h.cmtEnd hi]
theorem Agr.clearB {i : Nat} (hi : 1 ≤ i) (e : Nat) (c : Bool) : clearB t i e c = clearB u i e c := by
  unfold Pv.clearB hasNL
  rw [h.b i hi, scanW_from (q := fun j => decide (bt u j ≠ 10)) _ i fun j hj => by rw [h.b j (by omega)]]
theorem Agr.befF : ∀ (k i : Nat) (c : Bool), 1 ≤ i → befF t k i c = befF u k i c
  | 0, i, c, hi => rfl
  | k + 1, i, c, hi => by
    rw [Pv.befF, Pv.befF, h.pieceEnd hi, h.clearB hi]
    split
    · exact Agr.befF k _ _ (by omega)
    · rfl
theorem Agr.bef {i : Nat} (c : Bool) (hi : 1 ≤ i) : bef t i c = bef u i c := by
  unfold Pv.bef
  rw [h.sz, h.befF _ _ _ hi]
theorem Agr.signLen {i : Nat} (hi : 1 ≤ i) (l : List ByteArray) : signLen t i l = signLen u i l := by
  unfold Pv.signLen
  congr 1
  funext n s
  rw [h.beg hi]
theorem Agr.tokE (keys signs : List ByteArray) {i : Nat} (c : Bool) (hi : 1 ≤ i) : tokE keys signs t i c = tokE keys signs u i c := by
  unfold Pv.tokE
  rw [h.b i hi, h.b (i + 1) (by omega), h.lineEnd hi, h.wordEnd hi, h.numEnd hi, h.quotE _ (by omega), h.signLen hi, h.e _ _ hi]
theorem Agr.toksF : ∀ (k i : Nat) (c : Bool), 1 ≤ i → i ≤ t.size → toksF keysL signsL t k i c = toksF keysL signsL u k i c
  | 0, i, c, hi, hs => rfl
  | k + 1, i, c, hi, hs => by
    have hbi : i ≤ (Pv.bef t i c).1 ∧ (Pv.bef t i c).1 ≤ t.size := befF_inn t _ i c hs
    rw [toksF_succ, toksF_succ, restF, restF, ← h.bef c hi, ← h.sz, h.e _ _ hi, h.e _ _ (by omega : 1 ≤ (Pv.bef t i c).1), ← h.tokE keysL signsL _ (by omega : 1 ≤ (Pv.bef t i c).1)]
    by_cases he : (Pv.bef t i c).1 = t.size
    · rw [if_pos he, if_pos he]
    · rw [if_neg he, if_neg he]
      have hin := tokE_in keysL signsL (Pv.bef t i c).2 (t := t) (i := (Pv.bef t i c).1) (by omega)
      rw [Agr.toksF k _ _ (by omega) hin.2]
end
theorem ba_get {t : ByteArray} {i : Nat} (h : i < t.size) : bt t i = (t[i].toNat : Int) := (bt_get t i h).symm
theorem bt_cons (c : UInt8) (s : ByteArray) (j : Nat) : bt (⟨#[c]⟩ ++ s) (j + 1) = bt s j := by
  unfold bt
  have : ((⟨#[c]⟩ : ByteArray) ++ s)[j + 1]? = s[j]? := by
    by_cases hj : j < s.size
    · rw [getElem?_pos s j hj, getElem?_pos _ (j + 1) (by simp [ByteArray.size_append]; show j + 1 < 1 + s.size; omega)]
      rw [ByteArray.getElem_append_right (by show 1 ≤ j + 1; omega)]
      rfl
    · rw [getElem?_neg s j hj, getElem?_neg _ (j + 1) (by simp [ByteArray.size_append]; show 1 + s.size ≤ j + 1; omega)]
  rw [this]
theorem bt_cons0 (c : UInt8) (s : ByteArray) : bt (⟨#[c]⟩ ++ s) 0 = c.toNat := by
  unfold bt
  rw [getElem?_pos _ 0 (by simp [ByteArray.size_append]; show 0 < 1 + s.size; omega)]
  rw [ByteArray.getElem_append_left (by show 0 < 1; omega)]
  rfl
theorem extract_cons (c : UInt8) (s : ByteArray) (i j : Nat) : (⟨#[c]⟩ ++ s : ByteArray).extract (i + 1) (j + 1) = s.extract i j := by
  apply ByteArray.ext
  rw [ByteArray.data_extract, ByteArray.data_append, ByteArray.data_extract]
  apply Array.ext'
  simp
theorem agr_cons (c d : UInt8) (s : ByteArray) (hc : c.toNat ≠ 92) (hd : d.toNat ≠ 92) : Agr (⟨#[c]⟩ ++ s) (⟨#[d]⟩ ++ s) where
  sz := by simp [ByteArray.size_append]; rfl
  b j hj := by
    obtain ⟨j, rfl⟩ : ∃ k, j = k + 1 := ⟨j - 1, by omega⟩
    rw [bt_cons, bt_cons]
  e i j hi := by
    obtain ⟨i, rfl⟩ : ∃ k, i = k + 1 := ⟨i - 1, by omega⟩
    cases j with
    | zero =>
      apply ByteArray.ext
      simp [ByteArray.data_extract]
    | succ j => rw [extract_cons, extract_cons]
  z1 := by rw [bt_cons0]; omega
  z2 := by rw [bt_cons0]; omega
theorem bt_of_beg {t x : ByteArray} {i : Nat} (h : beg t i x = true) (hx : 0 < x.size) : bt t i = bt x 0 := by
  simp [beg] at h
  obtain ⟨h1, h2⟩ := h
  have h3 : x[0]? = t[i]? := by
    rw [getElem?_pos x 0 hx, getElem?_pos t i (by omega)]
    have : (t.extract i (i + x.size))[0]'(by rw [h2]; exact hx) = x[0] := by simp only [h2]
    rw [← this, ByteArray.getElem_extract]
    simp
  unfold bt
  rw [h3]
theorem beg_one {t : ByteArray} {i : Nat} {c : UInt8} (h : i < t.size) (hc : bt t i = c.toNat) : beg t i ⟨#[c]⟩ = true := by
  have hsz : (⟨#[c]⟩ : ByteArray).size = 1 := rfl
  simp only [beg, hsz, Bool.and_eq_true, decide_eq_true_eq]
  refine ⟨by omega, ?_⟩
  apply ByteArray.ext
  rw [ByteArray.data_extract]
  apply Array.ext
  · simp; show min (i + 1) t.size - i = 1; omega
  · intro j h1 h2
    have : j = 0 := by simp at h2; exact h2
    subst this
    simp
    unfold bt at hc
    rw [getElem?_pos t i h] at hc
    have : t[i].toNat = c.toNat := Int.ofNat.inj hc
    exact UInt8.toNat_inj.1 this
/-- A sign of one byte that no other sign begins with. -/
theorem signLen_one {t : ByteArray} {i : Nat} {c : UInt8} (h : i < t.size) (hc : bt t i = c.toNat) (hs : signsL.all (fun s => decide (0 < s.size) && (decide (s = ⟨#[c]⟩) || decide (bt s 0 ≠ c.toNat))) = true) (hm : signsL.any (fun s => decide (s = ⟨#[c]⟩)) = true) : signLen t i signsL = 1 := by
  have key : ∀ (l : List ByteArray) (n : Nat), n ≤ 1 → l.all (fun s => decide (0 < s.size) && (decide (s = ⟨#[c]⟩) || decide (bt s 0 ≠ c.toNat))) = true →
      l.foldl (fun n s => if n < s.size ∧ beg t i s = true then s.size else n) n = if l.any (fun s => decide (s = ⟨#[c]⟩)) = true then 1 else n := by
    intro l
    induction l with
    | nil => intro n hn _; simp
    | cons x l ih =>
      intro n hn ha
      rw [List.all_cons, Bool.and_eq_true] at ha
      obtain ⟨hx, ha⟩ := ha
      rw [List.foldl_cons, List.any_cons]
      by_cases hxc : x = ⟨#[c]⟩
      · subst hxc
        have hsz : (⟨#[c]⟩ : ByteArray).size = 1 := rfl
        have hb := beg_one h hc
        by_cases hn0 : n < 1
        · rw [if_pos ⟨by rw [hsz]; exact hn0, hb⟩, hsz, ih 1 (by omega) ha]; simp
        · have : n = 1 := by omega
          subst this
          rw [if_neg (by rw [hsz]; omega), ih 1 (by omega) ha]; simp
      · have hx2 : 0 < x.size ∧ bt x 0 ≠ c.toNat := by simpa [hxc] using hx
        have hnb : ¬ (n < x.size ∧ beg t i x = true) := by
          rintro ⟨_, hb⟩
          exact hx2.2 ((bt_of_beg hb hx2.1).symm.trans hc)
        rw [if_neg hnb, ih n hn ha, decide_eq_false hxc, Bool.false_or]
  unfold signLen
  rw [key signsL 0 (by omega) hs, if_pos hm]
theorem extract_size {t : ByteArray} {a e : Nat} (h1 : a ≤ e) (h2 : e ≤ t.size) : (t.extract a e).size = e - a := by
  rw [ByteArray.size_extract]; omega
theorem extract_bt {t : ByteArray} {a e j : Nat} (h1 : a + j < e) (h2 : e ≤ t.size) : bt (t.extract a e) j = bt t (a + j) := by
  unfold bt
  have hs := extract_size (t := t) (a := a) (e := e) (by omega) h2
  rw [getElem?_pos _ j (by omega), getElem?_pos _ (a + j) (by omega), ByteArray.getElem_extract]
/-- The signs that have a meaning in a definition. -/
def plainS : List ByteArray := [⟨#[40]⟩, ⟨#[41]⟩, ⟨#[44]⟩, ⟨#[46, 46, 46]⟩]
theorem tok_sign {t : ByteArray} {a : Nat} (c : Bool) (ha : a < t.size) (x : ByteArray) (hx : x ∈ plainS) (h : t.extract a (tokE keysL signsL t a c).2 = x) : (tokE keysL signsL t a c).1 = 6 := by
  have hin := tokE_in keysL signsL c ha
  have hsz := extract_size (t := t) (a := a) (e := (tokE keysL signsL t a c).2) (by omega) hin.2
  have hb0 := extract_bt (t := t) (a := a) (e := (tokE keysL signsL t a c).2) (j := 0) (by omega) hin.2
  rw [h] at hsz hb0
  rw [Nat.add_zero] at hb0
  have hone : ∀ c' : UInt8, bt t a = c'.toNat → c'.toNat = 40 ∨ c'.toNat = 41 ∨ c'.toNat = 44 → signLen t a signsL ≠ 0 → (tokE keysL signsL t a c).1 = 6 := by
    intro c' h1 h2 h3
    have hL : isL (bt t a) = false := by rcases h2 with q | q | q <;> rw [h1, q] <;> decide
    have hD : isD (bt t a) = false := by rcases h2 with q | q | q <;> rw [h1, q] <;> decide
    unfold tokE
    rw [if_neg (by omega), if_neg (by simp [hL]), if_neg (by rw [hD]; simp; omega), if_neg (by omega), if_pos h3]
  simp only [plainS, List.mem_cons, List.not_mem_nil, or_false] at hx
  rcases hx with rfl | rfl | rfl | rfl
  · have hb : bt t a = (40 : UInt8).toNat := hb0.symm.trans (by decide)
    exact hone 40 hb (by decide) (by rw [signLen_one ha hb (by decide +kernel) (by decide +kernel)]; omega)
  · have hb : bt t a = (41 : UInt8).toNat := hb0.symm.trans (by decide)
    exact hone 41 hb (by decide) (by rw [signLen_one ha hb (by decide +kernel) (by decide +kernel)]; omega)
  · have hb : bt t a = (44 : UInt8).toNat := hb0.symm.trans (by decide)
    exact hone 44 hb (by decide) (by rw [signLen_one ha hb (by decide +kernel) (by decide +kernel)]; omega)
  · have hsz3 : (⟨#[46, 46, 46]⟩ : ByteArray).size = 3 := rfl
    have hb : bt t a = 46 := hb0.symm.trans (by decide)
    have hb1 := extract_bt (t := t) (a := a) (e := (tokE keysL signsL t a c).2) (j := 1) (by omega) hin.2
    rw [h] at hb1
    have hb2 : bt t (a + 1) = 46 := hb1.symm.trans (by decide)
    by_cases h3 : signLen t a signsL = 0
    · exfalso
      have : (tokE keysL signsL t a c).2 = a + 1 := by
        unfold tokE
        rw [hb, hb2, if_neg (by omega), if_neg (by decide), if_neg (by decide), if_neg (by omega), if_neg (by omega)]
      omega
    · unfold tokE
      rw [hb, hb2, if_neg (by omega), if_neg (by decide), if_neg (by decide), if_neg (by omega), if_pos h3]
end Go.Pv

/- The words of a directive, as plain data: the list. -/
namespace Go.Pv
set_option linter.unusedVariables false
set_option linter.unusedSimpArgs false
/-- What is known of each token but the last. -/
structure TokOk (x : Tk) : Prop where
  kind : x.kind ≠ 0
  text : x.text ≠ ⟨#[]⟩
  sign : x.text ∈ plainS → x.kind = 6
/-- Places that go up. -/
def Asc : Int → List Tk → Prop
  | _, [] => True
  | i, x :: r => i ≤ x.at_ ∧ Asc (x.at_ + 1) r
theorem Asc.le {i j : Int} {l : List Tk} (h : Asc i l) (hj : j ≤ i) : Asc j l := by
  cases l with
  | nil => trivial
  | cons x r => exact ⟨Int.le_trans hj h.1, h.2⟩
theorem toksF_form (t : ByteArray) : ∀ (k i : Nat) (c : Bool), i ≤ t.size → t.size + 1 - i ≤ k → ∃ (ws : List Tk) (e : Tk), toksF keysL signsL t k i c = ws ++ [e] ∧ e.kind = 0 ∧ ws.length + i ≤ t.size ∧ Asc i ws ∧ ∀ x ∈ ws, TokOk x ∧ (i : Int) ≤ x.at_ ∧ x.at_ < (t.size : Nat)
  | 0, i, c, hi, hk => by omega
  | k + 1, i, c, hi, hk => by
    have hbi : i ≤ (bef t i c).1 ∧ (bef t i c).1 ≤ t.size := befF_inn t _ i c hi
    rw [toksF_succ, restF]
    by_cases he : (bef t i c).1 = t.size
    · rw [if_pos he]
      exact ⟨[], _, rfl, rfl, by simp; exact hi, trivial, by simp⟩
    · rw [if_neg he]
      have hin := tokE_in keysL signsL (bef t i c).2 (t := t) (i := (bef t i c).1) (by omega)
      obtain ⟨ws, e, h1, h2, h3, h5, h4⟩ := toksF_form t k (tokE keysL signsL t (bef t i c).1 (bef t i c).2).2 false hin.2 (by omega)
      refine ⟨_ :: ws, e, by rw [h1]; rfl, h2, by simp; omega, ⟨by show (i : Int) ≤ ((bef t i c).1 : Nat); omega, h5.le (by show (((bef t i c).1 : Nat) : Int) + 1 ≤ _; omega)⟩, fun x hx => ?_⟩
      rcases List.mem_cons.1 hx with rfl | hx
      · refine ⟨⟨?_, ?_, ?_⟩, ?_, ?_⟩
        · intro h
          have h : ((tokE keysL signsL t (bef t i c).1 (bef t i c).2).1 : Int) = 0 := h
          have : (tokE keysL signsL t (bef t i c).1 (bef t i c).2).1 ≠ 0 := by
            unfold tokE
            repeat' split
            all_goals simp
          omega
        · intro h
          have h : t.extract (bef t i c).1 (tokE keysL signsL t (bef t i c).1 (bef t i c).2).2 = ⟨#[]⟩ := h
          have hs := extract_size (t := t) (a := (bef t i c).1) (e := (tokE keysL signsL t (bef t i c).1 (bef t i c).2).2) (by omega) hin.2
          rw [h] at hs
          have : (⟨#[]⟩ : ByteArray).size = 0 := rfl
          omega
        · intro h
          have := tok_sign (bef t i c).2 (by omega : (bef t i c).1 < t.size) _ h rfl
          show ((tokE keysL signsL t (bef t i c).1 (bef t i c).2).1 : Int) = 6
          omega
        · show (i : Int) ≤ ((bef t i c).1 : Nat)
          omega
        · show (((bef t i c).1 : Nat) : Int) < (t.size : Nat)
          omega
      · have := h4 x hx
        exact ⟨this.1, by omega, this.2.2⟩
@[reducible] def semi : ByteArray := ⟨#[59]⟩
@[reducible] def paro : ByteArray := ⟨#[40]⟩
/-- The tokens behind a sign that is set ahead. -/
def midF (u : ByteArray) : List Tk := (toksF keysL signsL (semi ++ u) (u.size + 1) 1 false).dropLast
theorem size_cons (c : UInt8) (u : ByteArray) : (⟨#[c]⟩ ++ u : ByteArray).size = u.size + 1 := by
  rw [ByteArray.size_append]; show 1 + u.size = _; omega
theorem first_one (c : UInt8) (u : ByteArray) (h : c.toNat = 59 ∨ c.toNat = 40) (h1 : signsL.all (fun s => decide (0 < s.size) && (decide (s = ⟨#[c]⟩) || decide (bt s 0 ≠ c.toNat))) = true) (h2 : signsL.any (fun s => decide (s = ⟨#[c]⟩)) = true) :
    allT (⟨#[c]⟩ ++ u) = ⟨6, ⟨#[]⟩, ⟨#[c]⟩, 0⟩ :: toksF keysL signsL (⟨#[c]⟩ ++ u) (u.size + 1) 1 false := by
  have hb : bt (⟨#[c]⟩ ++ u) 0 = c.toNat := bt_cons0 c u
  have hsz := size_cons c u
  have hs := signLen_one (t := ⟨#[c]⟩ ++ u) (i := 0) (c := c) (by omega) hb h1 h2
  have hpe : pieceEnd (⟨#[c]⟩ ++ u) 0 = 0 := by
    have n1 : beg (⟨#[c]⟩ ++ u) 0 ⟨#[47, 47]⟩ = false := by
      cases hq : beg (⟨#[c]⟩ ++ u) 0 ⟨#[47, 47]⟩ with
      | false => rfl
      | true =>
        have := bt_of_beg hq (by show 0 < 2; omega)
        rw [hb] at this
        have h47 : bt (⟨#[47, 47]⟩ : ByteArray) 0 = 47 := by decide
        omega
    have n2 : beg (⟨#[c]⟩ ++ u) 0 ⟨#[47, 42]⟩ = false := by
      cases hq : beg (⟨#[c]⟩ ++ u) 0 ⟨#[47, 42]⟩ with
      | false => rfl
      | true =>
        have := bt_of_beg hq (by show 0 < 2; omega)
        rw [hb] at this
        have h47 : bt (⟨#[47, 42]⟩ : ByteArray) 0 = 47 := by decide
        omega
    have hB : isB (bt (⟨#[c]⟩ ++ u) 0) = false := by rw [hb]; rcases h with q | q <;> rw [q] <;> decide
    unfold pieceEnd cmtEnd
    rw [hB, n1, n2, hb]
    simp
    omega
  have hbef : bef (⟨#[c]⟩ ++ u) 0 true = (0, true) := bef_stop (by omega)
  have htk : tokE keysL signsL (⟨#[c]⟩ ++ u) 0 true = (6, 1) := by
    have hL : isL (bt (⟨#[c]⟩ ++ u) 0) = false := by rw [hb]; rcases h with q | q <;> rw [q] <;> decide
    have hD : isD (bt (⟨#[c]⟩ ++ u) 0) = false := by rw [hb]; rcases h with q | q <;> rw [q] <;> decide
    unfold tokE
    rw [if_neg (by rw [hb]; omega), if_neg (by simp [hL]), if_neg (by rw [hD, hb]; simp; omega), if_neg (by rw [hb]; omega), if_pos (by rw [hs]; omega), hs]
  unfold allT
  rw [hsz, toksF_succ, restF, hbef]
  simp only [htk]
  rw [if_neg (by omega)]
  have e1 : (⟨#[c]⟩ ++ u : ByteArray).extract 0 0 = ⟨#[]⟩ := by
    apply ByteArray.ext; simp [ByteArray.data_extract]
  have e2 : (⟨#[c]⟩ ++ u : ByteArray).extract 0 1 = ⟨#[c]⟩ := by
    apply ByteArray.ext; rw [ByteArray.data_extract, ByteArray.data_append]; apply Array.ext'; simp
  rw [e1, e2]
  rfl
theorem mid_form (u : ByteArray) : ∃ e : Tk, e.kind = 0 ∧ allT (semi ++ u) = ⟨6, ⟨#[]⟩, semi, 0⟩ :: (midF u ++ [e]) ∧ allT (paro ++ u) = ⟨6, ⟨#[]⟩, paro, 0⟩ :: (midF u ++ [e]) ∧ (midF u).length ≤ u.size ∧ Asc 1 (midF u) ∧ ∀ x ∈ midF u, TokOk x ∧ 1 ≤ x.at_ ∧ x.at_ < (u.size : Nat) + 1 := by
  have hsz : (semi ++ u).size = u.size + 1 := size_cons 59 u
  obtain ⟨ws, e, h1, h2, h3, h5, h4⟩ := toksF_form (semi ++ u) (u.size + 1) 1 false (by omega) (by omega)
  have hm : midF u = ws := by rw [midF, h1]; simp
  refine ⟨e, h2, ?_, ?_, by rw [hm]; omega, by rw [hm]; exact h5, fun x hx => ?_⟩
  · rw [first_one 59 u (.inl rfl) (by decide +kernel) (by decide +kernel), h1, hm]
  · rw [first_one 40 u (.inr rfl) (by decide +kernel) (by decide +kernel), (agr_cons 40 59 u (by decide) (by decide)).toksF _ _ _ (by omega) (by have := size_cons 40 u; omega), h1, hm]
  · have := h4 x (by rwa [hm] at hx)
    exact ⟨this.1, this.2.1, by have := this.2.2; omega⟩
attribute [irreducible] midF
/-- Words up to a line, whose sign is one, and what comes behind it. -/
def goW (f : Int → List Tk) : List Tk → List Tk
  | [] => []
  | x :: r => if x.kind = 7 then ⟨6, x.before, ⟨#[35]⟩, x.at_⟩ :: f (x.at_ + 1) else x :: goW f r
@[reducible] def shiftT (d : Int) (x : Tk) : Tk := ⟨x.kind, x.before, x.text, x.at_ + d⟩
def wordsF : Nat → ByteArray → Nat → List Tk
  | 0, _, _ => []
  | k + 1, s, p => goW (fun q => wordsF k s q.toNat) ((midF (s.extract p s.size)).map (shiftT ((p : Int) - 1)))
theorem goW_ok {P : Tk → Prop} {f : Int → List Tk} (h7 : ∀ (x : Tk), P x → P ⟨6, x.before, ⟨#[35]⟩, x.at_⟩) : ∀ (l : List Tk), (∀ x ∈ l, P x) → (∀ x ∈ l, ∀ y ∈ f (x.at_ + 1), P y) → ∀ x ∈ goW f l, P x
  | [], _, _, x, hx => by simp [goW] at hx
  | y :: r, hl, hf, x, hx => by
    rw [goW] at hx
    split at hx
    · rcases List.mem_cons.1 hx with rfl | hx
      · exact h7 _ (hl _ (by simp))
      · exact hf y (by simp) x hx
    · rcases List.mem_cons.1 hx with rfl | hx
      · exact hl _ (by simp)
      · exact goW_ok h7 r (fun z hz => hl z (by simp [hz])) (fun z hz => hf z (by simp [hz])) x hx
theorem wordsF_ok : ∀ (k : Nat) (s : ByteArray) (p : Nat), ∀ x ∈ wordsF k s p, TokOk x
  | 0, s, p, x, hx => by simp [wordsF] at hx
  | k + 1, s, p, x, hx => by
    rw [wordsF] at hx
    refine goW_ok (P := TokOk) (fun x h => ⟨by show (6 : Int) ≠ 0; omega, by show (⟨#[35]⟩ : ByteArray) ≠ ⟨#[]⟩; decide, fun _ => rfl⟩) _ ?_ ?_ x hx
    · intro y hy
      obtain ⟨z, hz, rfl⟩ := List.mem_map.1 hy
      obtain ⟨e, _, _, _, _, _, h⟩ := mid_form (s.extract p s.size)
      have := (h z hz).1
      exact ⟨this.kind, this.text, this.sign⟩
    · intro y _ z hz
      exact wordsF_ok k s _ z hz
theorem goW_len {f : Int → List Tk} {M : Int} : ∀ (l : List Tk) (i : Int), Asc i l → i ≤ M → (∀ x ∈ l, x.at_ < M ∧ ((f (x.at_ + 1)).length : Int) ≤ M - (x.at_ + 1)) → ((goW f l).length : Int) ≤ M - i
  | [], i, _, h, _ => by simp [goW]; omega
  | x :: r, i, ha, h, hf => by
    rw [goW]
    have h0 := hf x (by simp)
    have h1 := ha.1
    split
    · rw [List.length_cons]
      omega
    · have := goW_len r (x.at_ + 1) ha.2 (by omega) (fun z hz => hf z (by simp [hz]))
      rw [List.length_cons]
      omega
theorem Asc.shift {d : Int} : ∀ {l : List Tk} {i : Int}, Asc i l → Asc (i + d) (l.map (shiftT d))
  | [], _, _ => trivial
  | x :: r, i, h => ⟨by have := h.1; show i + d ≤ x.at_ + d; omega, by
      have := Asc.shift (d := d) h.2
      rw [show x.at_ + 1 + d = x.at_ + d + 1 by omega] at this
      exact this⟩
theorem extract_rest {s : ByteArray} {p : Nat} (h : p ≤ s.size) : (s.extract p s.size).size = s.size - p := by
  rw [ByteArray.size_extract]; omega
theorem mid_at {s : ByteArray} {p : Nat} (h : p ≤ s.size) {x : Tk} (hx : x ∈ (midF (s.extract p s.size)).map (shiftT ((p : Int) - 1))) : (p : Int) ≤ x.at_ ∧ x.at_ < (s.size : Nat) := by
  obtain ⟨z, hz, rfl⟩ := List.mem_map.1 hx
  obtain ⟨e, _, _, _, _, _, h4⟩ := mid_form (s.extract p s.size)
  have := h4 z hz
  rw [extract_rest h] at this
  constructor
  · show (p : Int) ≤ z.at_ + (p - 1); omega
  · show z.at_ + ((p : Int) - 1) < _; omega
theorem wordsF_len : ∀ (k : Nat) (s : ByteArray) (p : Nat), p ≤ s.size → ((wordsF k s p).length : Int) ≤ s.size - p
  | 0, s, p, h => by simp [wordsF]; omega
  | k + 1, s, p, h => by
    rw [wordsF]
    obtain ⟨e, _, _, _, _, h3, h4⟩ := mid_form (s.extract p s.size)
    have hasc := h3.shift (d := (p : Int) - 1)
    refine goW_len (M := (s.size : Nat)) _ p (hasc.le (by omega)) (by omega) fun x hx => ?_
    have hq := mid_at h hx
    refine ⟨hq.2, ?_⟩
    have := wordsF_len k s (x.at_ + 1).toNat (by omega)
    omega
end Go.Pv

/- The words of a directive: the program. -/
namespace Go.Pv
open Go.Proofs
set_option linter.unusedVariables false
set_option linter.unusedSimpArgs false
set_option maxRecDepth 100000
set_option maxHeartbeats 1000000
theorem strAdd {a b : ByteArray} (h : a.size + b.size ≤ 4611686018427387904) : strBin .add a b = some (.lit (.string (a ++ b))) := if_pos h
theorem slc_mid (L : List Tk) (h : Nat) (h1 : 1 ≤ h) (h2 : h ≤ L.length) : slc Tryd.prog 24 (toks .any L) (some (.lit (.int .i64 1))) (some (.lit (.int .i64 h))) = some (toks .any ((L.take h).drop 1)) := by
  have : 0 ≤ (h : Int) := by omega
  simp [slc, bound, this, h1, h2]
theorem extract2 {S : ByteArray} {p a : Nat} (hp : p ≤ S.size) : (S.extract p S.size).extract a (S.size - p) = S.extract (p + a) S.size := by
  rw [ByteArray.extract_extract]
  congr 1
  omega
def CWI (S : ByteArray) (f : Int → List Tk) (ws : List Tk) (p : Nat) (base : St) (n : Nat) (e : Env) (s' : St) : Prop :=
  ∃ (B : St) (j : Nat) (acc : List Tk) (v : PV), j + n = ws.length ∧ e 0 = .lit (.string (S.extract p S.size)) ∧ e 1 = .lit (.int .i64 p) ∧ e 7 = v ∧ e 24 = .vec .any (ws.map encT) ∧ e 25 = .lit (.int .i64 (ws.length : Nat)) ∧ e 26 = .lit (.int .i64 j) ∧
    acc.length = j ∧ acc ++ goW f ((ws.drop j).map (shiftT ((p : Int) - 1))) = goW f (ws.map (shiftT ((p : Int) - 1))) ∧ OwnL 31 4 B (acc.map encTC) v s' ∧ Vars B ∧ base.sub B
theorem cwords_c (S : ByteArray) (hS : S.size ≤ 30000) : ∀ (k p : Nat), p ≤ S.size → S.size - p < k → ∀ s, Vars s → PCalls Tryd.prog 56 [.lit (.string (S.extract p S.size)), .lit (.int .i64 p)] s (fun r s' => s' = s ∧ r = .ret (toks .any (wordsF k S p)))
  | 0, p, hp, hk, s, hv => by omega
  | k + 1, p, hp, hk, s, hv => by
    refine PCalls.conv (R := fun r s' => ∃ s2 : St, s2.sub s' ∧ ∃ v, r = .ret v ∧ OwnL 31 4 s ((wordsF (k + 1) S p).map encTC) v s2) ?_ ?_ ?_
    · refine PCalls.of Tryd.func56 rfl (by rfl) (by simp [Tryd.ntmps56]) ?_
      refine pwC_sound _ _ _ _ ?_
      rw [wordsF]
      obtain ⟨et, he0, hsemi, hparo, hlen, hasc, hok⟩ := mid_form (S.extract p S.size)
      have hus := extract_rest hp
      have hsz : (paro ++ S.extract p S.size).size = S.size - p + 1 := by rw [size_cons, hus]
      generalize hu : S.extract p S.size = u at *
      generalize midF u = ws at *
      have hall : ¬ (200000 < (paro ++ u).size ∨ 40000 < (allT (paro ++ u)).length) := by
        rintro (h | h)
        · omega
        · rw [hparo] at h
          simp at h
          omega
      refine pwC_cut fun K hK => ?_
      simp [Tryd.ntmps56]
      refine hK _ _ ?_
      clear hK K
      have hadd : strBin .add ⟨#[40]⟩ u = some (.lit (.string (paro ++ u))) := strAdd (by rw [ByteArray.size_append] at hsz; have : (⟨#[40]⟩ : ByteArray).size = 1 := rfl; omega)
      refine pwC_cut fun K hK => ?_
      simp [hadd]
      refine (pscan_c (paro ++ u) (by omega) _ hv).mono ?_
      rintro _ s1 ⟨hs1, rfl⟩
      rw [hs1, if_neg hall, hparo]
      clear hs1 s1
      simp
      refine hK _ _ ?_
      clear hK K
      generalize hE : Env.put _ _ _ = E
      have g0 : E 0 = .lit (.string u) := by rw [← hE]; simp
      have g1 : E 1 = .lit (.int .i64 p) := by rw [← hE]; simp
      have g5 : E 5 = toks .any (⟨6, ⟨#[]⟩, paro, 0⟩ :: (ws ++ [et])) := by rw [← hE]; simp
      have g6 : E 6 = .lit (.int .i64 0) := by rw [← hE]; simp
      clear hE
      refine pwC_cut fun K hK => ?_
      simp [g6]
      refine hK _ _ ?_
      clear hK K
      refine pwC_cut fun K hK => ?_
      simp
      refine hK _ _ ?_
      clear hK K
      generalize hf : (fun q : Int => wordsF k S q.toNat) = f
      have w1 : IntKind.i64.wrap ((ws.length : Int) + 1) = ((ws.length + 1 : Nat) : Int) := by rw [wrap_i64 (by omega) (by omega)]; omega
      have hslc := slc_mid (⟨6, ⟨#[]⟩, paro, 0⟩ :: (ws ++ [et])) (ws.length + 1) (by omega) (by simp)
      have hdr : ((⟨6, ⟨#[]⟩, paro, 0⟩ :: (ws ++ [et]) : List Tk).take (ws.length + 1)).drop 1 = ws := by simp
      rw [hdr] at hslc
      rw [show ((ws.length + 1 : Nat) : Int) = (ws.length : Int) + 1 by omega] at hslc w1
      simp [g0, g1, g5, w1, hslc]
      refine PW.loop (fun n e s' => CWI S f ws p s n e s') ws.length ⟨s, 0, [], .vec .nil [], by omega, by simp [g0, hu], by simp [g1], by simp, by simp, by simp, by simp, rfl, by simp, OwnL.nil _ _ _, hv, sub_refl⟩ ?_
      rintro n e s' ⟨B, j, acc, v, hj, e0, e1, e7, e24, e25, e26, hacc, hgo, hO, hBv, hBs⟩
      rw [hu] at e0
      refine pwC_sound _ _ _ _ ?_
      by_cases hlt : j < ws.length
      · have hlt' : (j : Int) < ws.length := by omega
        have hg : ws[j]? = some ws[j] := List.getElem?_eq_getElem hlt
        have w2 : IntKind.i64.wrap ((j : Int) + 1) = ((j + 1 : Nat) : Int) := by rw [wrap_i64 (by omega) (by omega)]; omega
        rw [List.drop_eq_getElem_cons hlt, List.map_cons, goW] at hgo
        obtain ⟨hxo, hx1, hx2⟩ := hok _ (List.getElem_mem hlt)
        generalize ws[j] = x at *
        refine pwC_cut fun K hK => ?_
        simp [e25, e26, hlt, hlt']
        refine hK _ _ ?_
        clear hK K
        refine pwC_cut fun K hK => ?_
        simp
        refine hK _ _ ?_
        clear hK K
        have w3 : IntKind.i64.wrap (x.at_ - 1) = x.at_ - 1 := wrap_i64 (by omega) (by omega)
        have w4 : IntKind.i64.wrap (x.at_ - 1 + 1) = x.at_ := by rw [wrap_i64 (by omega) (by omega)]; omega
        have w5 : IntKind.i64.wrap (x.at_ - 1 + p) = x.at_ + (p - 1) := by rw [wrap_i64 (by omega) (by omega)]; omega
        obtain ⟨a, ha⟩ : ∃ a : Nat, x.at_ = a := ⟨x.at_.toNat, by omega⟩
        have w6 : IntKind.i64.wrap x.at_ = a := by rw [wrap_i64 (by omega) (by omega)]; exact ha
        have w7 : IntKind.i64.wrap ((p : Int) + a) = ((p + a : Nat) : Int) := by rw [wrap_i64 (by omega) (by omega)]; omega
        have hap : a ≤ u.size := by omega
        have hext : u.extract a u.size = S.extract (p + a) S.size := by rw [hus, ← hu]; exact extract2 hp
        by_cases h7 : x.kind = 7
        · rw [if_pos (by exact h7)] at hgo
          simp [e0, e1, e7, e24, e26, hg, w3, w4, w5, h7]
          intro i8 h8
          have hO2 := hO.upd (k := i8) (x := some (.row 31 4 [[.lit (.int .i64 6), .lit (.string x.before), .lit (.string ⟨#[35]⟩), .lit (.int .i64 (x.at_ + (p - 1)))]])) (.inl h8)
          have h8B : Fresh B i8 := hO.sub.fresh h8
          have hB2v : Vars (B.upd i8 (some (.row 31 4 [[.lit (.int .i64 6), .lit (.string x.before), .lit (.string ⟨#[35]⟩), .lit (.int .i64 (x.at_ + (p - 1)))]]))) := hBv.sub (sub_refl.upd_of h8B)
          refine appOwn (b := 48) (z := .agg #[.int .i64 0, .string ⟨#[]⟩, .string ⟨#[]⟩, .int .i64 0]) (ys := [encTC ⟨6, x.before, ⟨#[35]⟩, x.at_ + (p - 1)⟩]) hO2 (by simp) (by simp) (by simp) (by simp) rfl (by omega) (by simp) (fun s => by simp [elemsOf]) (by simp; omega) (fun v1 s2 hO3 => ?_)
          have hat : x.at_ = (a : Nat) := ha
          simp [w6, w7, hap, hext]
          have hwl := wordsF_len k S (p + a) (by omega)
          have hfa : f (((shiftT (↑p - 1) x).at_) + 1) = wordsF k S (p + a) := by
            rw [← hf]
            show wordsF k S (x.at_ + ((p : Int) - 1) + 1).toNat = _
            rw [show (x.at_ + ((p : Int) - 1) + 1).toNat = p + a by omega]
          rw [hfa] at hgo
          refine (cwords_c S hS k (p + a) (by omega) (by omega) s2 (hB2v.sub hO3.sub)).mono ?_
          rintro _ s3 ⟨hs3, rfl⟩
          rw [hs3]
          clear hs3 s3
          simp
          refine appOwn (b := 48) (z := .agg #[.int .i64 0, .string ⟨#[]⟩, .string ⟨#[]⟩, .int .i64 0]) (ys := (wordsF k S (p + a)).map encTC) hO3 (by simp) (by simp) (by simp) (by simp) rfl (by omega) (by simp) (fun s => by simp [elemsOf]) (by simp; omega) (fun v2 s4 hO4 => ?_)
          obtain ⟨s5, q1, q2⟩ := hO4.shrink (hBs.upd_of (hBs.fresh h8B))
          refine ⟨_, sub_refl, s5, q1, ?_⟩
          rw [← hgo]
          simpa using q2
        · rw [if_neg (by exact h7)] at hgo
          simp [e0, e1, e7, e24, e26, hg, w3, w4, w5, h7]
          intro i8 h8
          have hO2 := hO.upd (k := i8) (x := some (.row 31 4 [encTC ⟨x.kind, x.before, x.text, x.at_ + (p - 1)⟩])) (.inl h8)
          have h8B : Fresh B i8 := hO.sub.fresh h8
          have hB2v : Vars (B.upd i8 (some (.row 31 4 [encTC ⟨x.kind, x.before, x.text, x.at_ + (p - 1)⟩]))) := hBv.sub (sub_refl.upd_of h8B)
          refine appOwn (b := 48) (z := .agg #[.int .i64 0, .string ⟨#[]⟩, .string ⟨#[]⟩, .int .i64 0]) (ys := [encTC ⟨x.kind, x.before, x.text, x.at_ + (p - 1)⟩]) hO2 (by simp) (by simp) (by simp) (by simp) rfl (by omega) (by simp) (fun s => by simp [elemsOf]) (by simp; omega) (fun v1 s2 hO3 => ?_)
          simp [e26, w2]
          exact ⟨n - 1, by omega, _, j + 1, acc ++ [⟨x.kind, x.before, x.text, x.at_ + (p - 1)⟩], v1, by omega, by simp [e0, hu], by simp [e1], by simp, by simp [e24], by simp [e25], by simp, by simp [hacc], by simpa using hgo, by simpa using hO3, hB2v, hBs.upd_of (hBs.fresh h8B)⟩
      · have hjl : j = ws.length := by omega
        have hlt' : ¬ (j : Int) < ws.length := by omega
        simp [e7, e25, e26, hlt, hlt']
        rw [hjl] at hgo
        simp [goW] at hgo
        rw [← hgo]
        obtain ⟨s2, q1, q2⟩ := hO.shrink hBs
        exact ⟨_, sub_refl, s2, q1, q2⟩
    · rintro r s' ⟨s2, q1, v, q3, q4⟩
      cases q3
      exact ⟨_, _, (Conv.sub q1 _).trans (Conv.own q4 (xs := (wordsF (k + 1) S p).map encT) (by simp) []), rfl, rfl⟩
    · rintro c s' ⟨s2, q1, v, q3, _⟩
      cases q3
end Go.Pv

/- The words and the kind of a directive: the program. -/
namespace Go.Pv
open Go.Proofs
set_option linter.unusedVariables false
set_option linter.unusedSimpArgs false
set_option maxRecDepth 100000
set_option maxHeartbeats 1000000
theorem sindex_c (k : VK) (l : List ByteArray) (x : ByteArray) (hl : l.length ≤ 1000000) (s : St) : PCalls Tryd.prog 66 [strs k l, .lit (.string x)] s (fun r s' => s' = s ∧ r = .ret (.lit (.int .i64 (hasI l x)))) := by
  refine PCalls.of Tryd.func66 rfl (by rfl) (by simp [Tryd.ntmps66]) ?_
  refine pwC_sound _ _ _ _ ?_
  simp [Tryd.ntmps66]
  refine PW.loop (fun n e s' => ∃ j : Nat, j + n = l.length ∧ e 0 = strs k l ∧ e 1 = .lit (.string x) ∧ e 7 = .lit (.int .i64 (l.length : Nat)) ∧ e 8 = .lit (.int .i64 j) ∧ hasF (l.drop j) x j = hasI l x ∧ s' = s) l.length ⟨0, by omega, by simp, by simp, by simp, by simp, rfl, rfl⟩ ?_
  rintro n e s' ⟨j, hj, e0, e1, e7, e8, hs, rfl⟩
  refine pwC_sound _ _ _ _ ?_
  by_cases hlt : j < l.length
  · have hlt' : (j : Int) < l.length := by omega
    have hg : l[j]? = some l[j] := List.getElem?_eq_getElem hlt
    have w1 : IntKind.i64.wrap ((j : Int) + 1) = ((j + 1 : Nat) : Int) := by rw [wrap_i64 (by omega) (by omega)]; omega
    rw [List.drop_eq_getElem_cons hlt, hasF] at hs
    by_cases hc : l[j] = x
    · rw [if_pos hc] at hs
      simp [e0, e1, e7, e8, hlt, hlt', hg, hc, ← hs]
    · have hc' : ¬ x = l[j] := fun h => hc h.symm
      rw [if_neg hc] at hs
      simp [e0, e1, e7, e8, hlt, hlt', hg, hc, hc', w1]
      exact ⟨n - 1, by omega, j + 1, by omega, by omega, hs⟩
  · have hlt' : ¬ (j : Int) < l.length := by omega
    rw [List.drop_eq_nil_of_le (by omega)] at hs
    simp [e0, e1, e7, e8, hlt, hlt', ← hs, hasF]
theorem scontains_c (k : VK) (l : List ByteArray) (x : ByteArray) (hl : l.length ≤ 1000000) (s : St) : PCalls Tryd.prog 55 [strs k l, .lit (.string x)] s (fun r s' => s' = s ∧ r = .ret (.lit (.bool (decide (0 ≤ hasI l x))))) := by
  refine PCalls.of Tryd.func55 rfl (by rfl) (by simp [Tryd.ntmps55]) ?_
  refine pwC_sound _ _ _ _ ?_
  simp [Tryd.ntmps55]
  refine (sindex_c k l x hl _).mono ?_
  rintro _ s1 ⟨hs1, rfl⟩
  rw [hs1]
  simp
def dirW (x : Tk) : Bool := decide (x.kind = 7) && prefB x.text ⟨#[35]⟩
def wordsT (x : Tk) : List Tk := wordsF ((x.text.extract 1 x.text.size).size + 1) (x.text.extract 1 x.text.size) 0
theorem prefB_one {u : ByteArray} {c : UInt8} : prefB u ⟨#[c]⟩ = (decide (0 < u.size) && decide (bt u 0 = c.toNat)) := by
  have h0 : prefB u ⟨#[c]⟩ = beg u 0 ⟨#[c]⟩ := by unfold prefB beg; simp
  rw [h0]
  by_cases h : 0 < u.size
  · by_cases hc : bt u 0 = c.toNat
    · rw [beg_one h hc]; simp [h, hc]
    · have : beg u 0 ⟨#[c]⟩ = false := by
        cases hq : beg u 0 ⟨#[c]⟩ with
        | false => rfl
        | true => exact absurd (bt_of_beg hq (by show 0 < 1; omega)) (by
            have : bt (⟨#[c]⟩ : ByteArray) 0 = c.toNat := rfl
            rw [this]; exact hc)
      rw [this]; simp [hc]
  · have : beg u 0 ⟨#[c]⟩ = false := by
      have hsz : (⟨#[c]⟩ : ByteArray).size = 1 := rfl
      simp only [beg, hsz]
      rw [decide_eq_false (by omega)]; rfl
    rw [this]; simp [h]
theorem extract_all (S : ByteArray) : S.extract 0 S.size = S := by
  apply ByteArray.ext
  rw [ByteArray.data_extract]
  apply Array.ext'
  rw [Array.toList_extract]
  simp [List.take_of_length_le]
theorem cwords0_c (S : ByteArray) (hS : S.size ≤ 30000) (s : St) (hv : Vars s) : PCalls Tryd.prog 56 [.lit (.string S), .lit (.int .i64 0)] s (fun r s' => s' = s ∧ r = .ret (toks .any (wordsF (S.size + 1) S 0))) := by
  have h := cwords_c S hS (S.size + 1) 0 (by omega) (by omega) s hv
  rw [extract_all] at h
  exact h
theorem cWords_c (x : Tk) (hx : x.text.size ≤ 20000) (s : St) (hv : Vars s) : PCalls Tryd.prog 35 [encT x] s (fun r s' => s' = s ∧ r = .ret (if dirW x = true then .tup [toks .any (wordsT x), .lit (.int .i64 0)] else .tup [.vec .nil [], .lit (.int .i64 3)])) := by
  refine PCalls.of Tryd.func35 rfl (by rfl) (by simp [Tryd.ntmps35]) ?_
  refine pwC_sound _ _ _ _ ?_
  by_cases h7 : x.kind = 7
  · simp [Tryd.ntmps35, h7]
    intro i1 h1
    refine (prefix_c _ _ _).mono ?_
    rintro _ s1 ⟨hs1, rfl⟩
    rw [hs1]
    clear hs1 s1
    by_cases hp : prefB x.text ⟨#[35]⟩ = true
    · have hsz : 1 ≤ x.text.size := by
        rw [prefB_one] at hp
        simp at hp
        omega
      simp [hp, hsz, dirW, h7]
      have hes : (x.text.extract 1 x.text.size).size = x.text.size - 1 := extract_size hsz (Nat.le_refl _)
      refine (cwords0_c _ (by omega) _ (hv.sub (sub_refl.upd_of h1))).mono ?_
      rintro _ s1 ⟨hs1, rfl⟩
      rw [hs1]
      clear hs1 s1
      simp
      exact ⟨_, sub_refl.upd_of h1, rfl, by rw [if_pos ⟨h7, hp⟩, wordsT, hes]⟩
    · simp [hp, dirW, h7]
      exact sub_refl.upd_of h1
  · simp [Tryd.ntmps35, h7, dirW]
    intro i1 h1
    exact sub_refl.upd_of h1
def kindsL : List ByteArray := [⟨#[105, 102]⟩, ⟨#[105, 102, 100, 101, 102]⟩, ⟨#[105, 102, 110, 100, 101, 102]⟩, ⟨#[101, 108, 105, 102]⟩, ⟨#[101, 108, 115, 101]⟩, ⟨#[101, 110, 100, 105, 102]⟩, ⟨#[100, 101, 102, 105, 110, 101]⟩, ⟨#[117, 110, 100, 101, 102]⟩, ⟨#[105, 110, 99, 108, 117, 100, 101]⟩]
@[reducible] def otherS : ByteArray := ⟨#[111, 116, 104, 101, 114]⟩
/-- The kind of a directive. -/
def kindT (x : Tk) : ByteArray := if x.kind ≠ 7 then ⟨#[]⟩ else match (if dirW x = true then wordsT x else []) with
  | [] => otherS
  | w :: _ => if 0 ≤ hasI kindsL w.text then w.text else otherS
theorem cKind_c (x : Tk) (hx : x.text.size ≤ 20000) (s : St) (hv : Vars s) : PCalls Tryd.prog 34 [encT x] s (fun r s' => s' = s ∧ r = .ret (.lit (.string (kindT x)))) := by
  refine PCalls.of Tryd.func34 rfl (by rfl) (by simp [Tryd.ntmps34]) ?_
  refine pwC_sound _ _ _ _ ?_
  by_cases h7 : x.kind = 7
  · obtain ⟨xk, xb, xt, xa⟩ := x
    have h7' : xk = 7 := h7
    subst h7'
    simp [Tryd.ntmps34]
    intro i1 h1
    refine (cWords_c ⟨7, xb, xt, xa⟩ hx _ (hv.sub (sub_refl.upd_of h1))).mono ?_
    rintro _ s1 ⟨hs1, rfl⟩
    rw [hs1]
    clear hs1 s1
    by_cases hd : dirW ⟨7, xb, xt, xa⟩ = true
    · rw [if_pos hd]
      generalize hw : wordsT ⟨7, xb, xt, xa⟩ = ws
      cases ws with
      | nil =>
        simp
        exact ⟨_, sub_refl.upd_of h1, rfl, by simp [kindT, h7, hd, hw]⟩
      | cons w r =>
        simp
        refine (scontains_c .tight kindsL w.text (by decide) _).mono ?_
        rintro _ s1 ⟨hs1, rfl⟩
        rw [hs1]
        clear hs1 s1
        by_cases hc : 0 ≤ hasI kindsL w.text
        · simp [hc]
          exact ⟨_, sub_refl.upd_of h1, rfl, by simp [kindT, hd, hw, hc]⟩
        · simp [hc]
          exact ⟨_, sub_refl.upd_of h1, rfl, by simp [kindT, hd, hw, hc]⟩
    · rw [if_neg hd]
      simp
      exact ⟨_, sub_refl.upd_of h1, rfl, by simp [kindT, h7, hd]⟩
  · simp [Tryd.ntmps34, h7, kindT]
    intro i1 h1
    exact sub_refl.upd_of h1
end Go.Pv

/- The words and the kind of a directive: the reference. -/
namespace Go.Pv
open Go.Proofs
set_option linter.unusedVariables false
set_option linter.unusedSimpArgs false
set_option maxRecDepth 100000
set_option maxHeartbeats 1000000
/-- The inner loop: nothing more of the list where a line was found. -/
def RWI (S : ByteArray) (K k p : Nat) (base : St) (L : List Tk) (n : Nat) (e : Env) (s' : St) : Prop :=
  ∃ (B : St) (i : Nat) (acc : List Tk) (v : PV), e 4 = .lit (.string S) ∧ e 5 = v ∧ e 7 = toks .any L ∧ e 10 = .lit (.int .i64 i) ∧ 1 ≤ i ∧ i + n = L.length + 1 ∧
    OwnL 31 4 B (acc.map encTC) v s' ∧ base.sub B ∧ 1 ≤ n ∧
    ((e 6 = .lit (.int .i64 p) ∧ e 9 = .lit (.bool false) ∧ acc ++ goW (fun q => wordsF k S q.toNat) (((L.drop i).filter fun x => decide (x.kind ≠ 0)).map (shiftT ((p : Int) - 1))) = wordsF K S 0) ∨
     (∃ q : Nat, p < q ∧ q ≤ S.size ∧ e 6 = .lit (.int .i64 q) ∧ e 9 = .lit (.bool true) ∧ acc ++ wordsF k S q = wordsF K S 0))
def ROI (S : ByteArray) (K : Nat) (base : St) (n : Nat) (e : Env) (s' : St) : Prop :=
  ∃ (B : St) (p k : Nat) (acc : List Tk) (v : PV), e 4 = .lit (.string S) ∧ e 5 = v ∧ e 6 = .lit (.int .i64 p) ∧ p ≤ S.size ∧ n = S.size - p ∧ S.size - p < k ∧ acc ++ wordsF k S p = wordsF K S 0 ∧ OwnL 31 4 B (acc.map encTC) v s' ∧ base.sub B
theorem rWords_c (x : Tk) (hx : x.text.size ≤ 20000) (s : St) : PCalls Tryd.prog 50 [encT x] s (fun r s' => s' = s ∧ r = .ret (if dirW x = true then .tup [toks .any (wordsT x), .lit (.int .i64 0)] else .tup [.vec .nil [], .lit (.int .i64 3)])) := by
  refine PCalls.conv (R := fun r s' => ∃ s2 : St, s2.sub s' ∧ (if dirW x = true then ∃ v, r = .ret (.tup [v, .lit (.int .i64 0)]) ∧ OwnL 31 4 s ((wordsT x).map encTC) v s2 else s2 = s ∧ r = .ret (.tup [.vec .nil [], .lit (.int .i64 3)]))) ?_ ?_ ?_
  · refine PCalls.of Tryd.func50 rfl (by rfl) (by simp [Tryd.ntmps50]) ?_
    refine pwC_sound _ _ _ _ ?_
    refine pwC_cut fun K hK => ?_
    simp [Tryd.ntmps50]
    intro i1 h1
    refine hK _ _ ?_
    clear hK K
    refine pwC_cut fun K hK => ?_
    by_cases h7 : x.kind = 7
    · by_cases h0 : x.text = ⟨#[]⟩
      · have hd : ¬ dirW x = true := by
          intro h
          simp [dirW, h7] at h
          rw [prefB_one, h0] at h
          revert h
          decide
        clear hK
        simp [h7, h0, hd]
        exact ⟨_, sub_refl, sub_refl.upd_of h1⟩
      · have hsz : 0 < x.text.size := by
          rcases Nat.eq_zero_or_pos x.text.size with h | h
          · exact absurd (ByteArray.size_eq_zero_iff.1 h) h0
          · exact h
        have hb0 := ba_get hsz
        by_cases hb : bt x.text 0 = 35
        · have hd : dirW x = true := by
            simp only [dirW, h7, prefB_one, hb]
            simp [hsz]
          simp [h7, h0, hd, hsz, hb]
          refine hK _ _ ?_
          clear hK K
          have hwt : wordsT x = wordsF ((x.text.extract 1 x.text.size).size + 1) (x.text.extract 1 x.text.size) 0 := rfl
          have hSz := extract_size (t := x.text) (a := 1) (e := x.text.size) (by omega) (Nat.le_refl _)
          have hsz1 : 1 ≤ x.text.size := hsz
          refine pwC_cut fun K hK => ?_
          simp [hsz1]
          refine hK _ _ ?_
          clear hK K
          rw [hwt]
          generalize hSg : x.text.extract 1 x.text.size = S at *
          generalize hKg : S.size + 1 = KK at *
          have hSn : S.size ≤ 20000 := by omega
          refine pwC_cut fun K hK => ?_
          simp
          refine hK _ _ ?_
          clear hK K
          refine pwC_cut fun K hK => ?_
          simp
          refine hK _ _ ?_
          clear hK K
          simp
          refine PW.loop (fun n e s' => ROI S KK s n e s') S.size ⟨_, 0, KK, [], .vec .nil [], by simp, by simp, by simp, by omega, by omega, by omega, by simp, OwnL.nil _ _ _, sub_refl.upd_of h1⟩ ?_
          rintro n e s' ⟨B, p, k, acc, v, e4, e5, e6, hp, hn, hk, hgo, hO, hBs⟩
          refine pwC_sound _ _ _ _ ?_
          obtain ⟨k, rfl⟩ : ∃ k', k = k' + 1 := ⟨k - 1, by omega⟩
          obtain ⟨et, he0, hsemi, _, hlen, hasc, hok⟩ := mid_form (S.extract p S.size)
          have hus := extract_rest hp
          have hsu : (semi ++ S.extract p S.size).size = S.size - p + 1 := by rw [size_cons, hus]
          rw [wordsF] at hgo
          have hal : acc.length ≤ S.size := by
            have h1 := wordsF_len KK S 0 (by omega)
            rw [← hgo] at h1
            simp at h1
            omega
          have hadd : strBin .add ⟨#[59]⟩ (S.extract p S.size) = some (.lit (.string (semi ++ S.extract p S.size))) := strAdd (by have : (⟨#[59]⟩ : ByteArray).size = 1 := rfl; omega)
          generalize hu : S.extract p S.size = u at *
          generalize hws : midF u = ws at *
          have hall : ¬ (200000 < (semi ++ u).size ∨ 40000 < (allT (semi ++ u)).length) := by
            rintro (h | h)
            · omega
            · rw [hsemi] at h
              simp at h
              omega
          refine pwC_cut fun K hK => ?_
          simp [e4, e6, hp, hu, hadd]
          refine (rscan_c (semi ++ u) (by omega) _).mono ?_
          rintro _ s1 ⟨hs1, rfl⟩
          rw [hs1, if_neg hall, hsemi]
          clear hs1 s1
          simp [e4, e6]
          refine hK _ _ ?_
          clear hK K
          generalize hE : Env.put _ _ _ = E
          have g4 : E 4 = .lit (.string S) := by rw [← hE]; simp [e4]
          have g5 : E 5 = v := by rw [← hE]; simp [e5]
          have g6 : E 6 = .lit (.int .i64 p) := by rw [← hE]; simp [e6]
          have g7 : E 7 = toks .any (⟨6, ⟨#[]⟩, semi, 0⟩ :: (ws ++ [et])) := by rw [← hE]; simp
          have g8 : E 8 = .lit (.int .i64 0) := by rw [← hE]; simp
          clear hE
          refine pwC_cut fun K hK => ?_
          simp [g8]
          refine hK _ _ ?_
          clear hK K
          refine pwC_cut fun K hK => ?_
          simp
          refine hK _ _ ?_
          clear hK K
          refine pwC_cut fun K hK => ?_
          simp
          have hLlen : (⟨6, ⟨#[]⟩, semi, 0⟩ :: (ws ++ [et]) : List Tk).length = ws.length + 2 := by simp
          have hLok : ∀ x ∈ (⟨6, ⟨#[]⟩, semi, 0⟩ :: (ws ++ [et]) : List Tk).drop 1, x.kind ≠ 0 → 1 ≤ x.at_ ∧ x.at_ < (u.size : Nat) + 1 := by
            intro x hx h
            rw [List.drop_succ_cons, List.drop_zero] at hx
            rcases List.mem_append.1 hx with hx | hx
            · exact (hok x hx).2
            · rw [List.mem_singleton] at hx
              exact absurd (hx ▸ he0) h
          refine PW.loop (fun m e s2 => RWI S KK k p s (⟨6, ⟨#[]⟩, semi, 0⟩ :: (ws ++ [et])) m e s2) (ws.length + 2) ?_ ?_
          · have hfl : (((⟨6, ⟨#[]⟩, semi, 0⟩ :: (ws ++ [et]) : List Tk).drop 1).filter fun x => decide (x.kind ≠ 0)) = ws := by
              rw [List.drop_succ_cons, List.drop_zero, List.filter_append, List.filter_eq_self.2 (fun x hx => by simpa using (hok x hx).1.kind)]
              simp [he0]
            refine ⟨B, 1, acc, v, by simp [g4], by simp [g5], by simp [g7], by simp, by omega, by simp; omega, hO, hBs, by omega, .inl ⟨by simp [g6], by simp, ?_⟩⟩
            rw [hfl]
            exact hgo
          rintro m e2 s2 ⟨B2, i, acc2, v2, f4, f5, f7, f10, hi1, him, hO2, hBs2, hm1, hcase⟩
          refine pwC_sound _ _ _ _ ?_
          clear g4 g5 g6 g7 g8 E hall hsemi
          generalize (⟨6, ⟨#[]⟩, semi, 0⟩ :: (ws ++ [et]) : List Tk) = L at *
          rcases hcase with ⟨f6, f9, hgo2⟩ | ⟨q, hpq, hqS, f6, f9, hgo2⟩
          · have hal2 : acc2.length ≤ S.size := by
              have h1 := wordsF_len KK S 0 (by omega)
              rw [← hgo2] at h1
              simp at h1
              omega
            by_cases hlt : i < L.length
            · have hlt' : (i : Int) < L.length := by omega
              have hg : L[i]? = some L[i] := List.getElem?_eq_getElem hlt
              have w2 : IntKind.i64.wrap ((i : Int) + 1) = ((i + 1 : Nat) : Int) := by rw [wrap_i64 (by omega) (by omega)]; omega
              have hxo := hLok L[i] (List.mem_of_getElem? (i := i - 1) (by rw [List.getElem?_drop, show 1 + (i - 1) = i by omega]; exact hg))
              rw [List.drop_eq_getElem_cons hlt, List.filter_cons] at hgo2
              obtain ⟨y, hy⟩ : ∃ y, L[i] = y := ⟨_, rfl⟩
              rw [hy] at hg hxo hgo2
              clear hK
              by_cases hy0 : y.kind = 0
              · rw [if_neg (by simp [hy0])] at hgo2
                simp [f4, f5, f6, f7, f9, f10, hlt, hlt', hg, hy, hy0, w2]
                intro i8 h8
                have hO3 := fun bb => hO2.upd (k := i8) (x := bb) (.inl h8)
                exact ⟨m - 1, by omega, _, i + 1, acc2, v2, by simp [f4], by simp [f5], by simp [f7], by simp, by omega, by omega, hO3 _, hBs2.upd_of (hBs2.fresh (hO2.sub.fresh h8)), by omega, .inl ⟨by simp [f6], by simp [f9], hgo2⟩⟩
              · rw [if_pos (by simp [hy0])] at hgo2
                rw [List.map_cons, goW] at hgo2
                obtain ⟨hy1, hy2⟩ := hxo hy0
                obtain ⟨a, ha⟩ : ∃ a : Nat, y.at_ = a := ⟨y.at_.toNat, by omega⟩
                have w3 : IntKind.i64.wrap (y.at_ + p) = y.at_ + p := wrap_i64 (by omega) (by omega)
                have w4 : IntKind.i64.wrap (y.at_ + p - 1) = y.at_ + (p - 1) := by rw [wrap_i64 (by omega) (by omega)]; omega
                have w5 : IntKind.i64.wrap (y.at_ + (p - 1) + 1) = ((a + p : Nat) : Int) := by rw [wrap_i64 (by omega) (by omega)]; omega
                by_cases hy7 : y.kind = 7
                · rw [if_pos (by exact hy7)] at hgo2
                  simp [f4, f5, f6, f7, f9, f10, hlt, hlt', hg, hy, hy7, w2, w3, w4]
                  intro i8 h8
                  have hO3 := hO2.upd (k := i8) (x := some (.row 31 4 [encTC ⟨6, y.before, ⟨#[35]⟩, y.at_ + (p - 1)⟩])) (.inl h8)
                  refine appOwn (b := 48) (z := .agg #[.int .i64 0, .string ⟨#[]⟩, .string ⟨#[]⟩, .int .i64 0]) (ys := [encTC ⟨6, y.before, ⟨#[35]⟩, y.at_ + (p - 1)⟩]) hO3 (by simp) (by simp) (by simp) (by simp) rfl (by omega) (by simp) (fun s => by simp [elemsOf]) (by simp; omega) (fun v3 s3 hO4 => ?_)
                  have j8 := hO4.at (k := i8) (b := .row 31 4 [encTC ⟨6, y.before, ⟨#[35]⟩, y.at_ + (p - 1)⟩]) (by simp)
                  rw [show (shiftT ((p : Int) - 1) y).at_ + 1 = ((a + p : Nat) : Int) from by show y.at_ + ((p : Int) - 1) + 1 = _; omega] at hgo2
                  simp only [Int.toNat_natCast] at hgo2
                  simp [j8, w5, f4, f7]
                  exact ⟨m - 1, by omega, _, i + 1, acc2 ++ [⟨6, y.before, ⟨#[35]⟩, y.at_ + (p - 1)⟩], v3, by simp [f4], by simp, by simp [f7], by simp, by omega, by omega, by simpa using hO4, hBs2.upd_of (hBs2.fresh (hO2.sub.fresh h8)), by omega, .inr ⟨a + p, by omega, by omega, by simp, by simp, by rw [List.append_assoc]; exact hgo2⟩⟩
                · rw [if_neg (by exact hy7)] at hgo2
                  simp [f4, f5, f6, f7, f9, f10, hlt, hlt', hg, hy, hy0, hy7, w2, w3, w4]
                  intro i8 h8
                  have hO3 := hO2.upd (k := i8) (x := some (.row 31 4 [encTC ⟨y.kind, y.before, y.text, y.at_ + (p - 1)⟩])) (.inl h8)
                  refine appOwn (b := 48) (z := .agg #[.int .i64 0, .string ⟨#[]⟩, .string ⟨#[]⟩, .int .i64 0]) (ys := [encTC ⟨y.kind, y.before, y.text, y.at_ + (p - 1)⟩]) hO3 (by simp) (by simp) (by simp) (by simp) rfl (by omega) (by simp) (fun s => by simp [elemsOf]) (by simp; omega) (fun v3 s3 hO4 => ?_)
                  exact ⟨m - 1, by omega, _, i + 1, acc2 ++ [⟨y.kind, y.before, y.text, y.at_ + (p - 1)⟩], v3, by simp [f4], by simp, by simp [f7], by simp, by omega, by omega, by simpa using hO4, hBs2.upd_of (hBs2.fresh (hO2.sub.fresh h8)), by omega, .inl ⟨by simp [f6], by simp [f9], by simpa using hgo2⟩⟩
            · have hlt' : ¬ (i : Int) < L.length := by omega
              rw [List.drop_eq_nil_of_le (by omega)] at hgo2
              simp [f4, f5, f6, f7, f9, f10, hlt, hlt']
              refine hK _ _ ?_
              clear hK K
              simp [f5, f9]
              obtain ⟨s3, q1, q2⟩ := hO2.shrink hBs2
              simp [goW] at hgo2
              rw [← hgo2]
              exact ⟨_, sub_refl, s3, q1, hd, q2⟩
          · by_cases hlt : i < L.length
            · have hlt' : (i : Int) < L.length := by omega
              simp [f4, f5, f6, f7, f9, f10, hlt, hlt']
              refine hK _ _ ?_
              clear hK K
              simp [f5, f9]
              exact ⟨S.size - q, by omega, B2, q, k, acc2, v2, by simp [f4], by simp [f5], by simp [f6], hqS, rfl, by omega, hgo2, hO2, hBs2⟩
            · have hlt' : ¬ (i : Int) < L.length := by omega
              simp [f4, f5, f6, f7, f9, f10, hlt, hlt']
              refine hK _ _ ?_
              clear hK K
              simp [f5, f9]
              exact ⟨S.size - q, by omega, B2, q, k, acc2, v2, by simp [f4], by simp [f5], by simp [f6], hqS, rfl, by omega, hgo2, hO2, hBs2⟩
        · have hd : ¬ dirW x = true := by
            intro h
            simp only [dirW, h7, prefB_one] at h
            simp at h
            exact hb h.2
          clear hK
          simp [h7, h0, hd, hsz, hb]
          exact ⟨_, sub_refl, sub_refl.upd_of h1⟩
    · have hd : ¬ dirW x = true := by simp [dirW, h7]
      clear hK
      simp [h7, hd]
      exact ⟨_, sub_refl, sub_refl.upd_of h1⟩
  · rintro p s' ⟨s2, q1, q2⟩
    split at q2
    · obtain ⟨v, q3, q4⟩ := q2
      cases q3
      exact ⟨_, _, (Conv.sub q1 _).trans (Conv.ownTup q4 (xs := (wordsT x).map encT) (by simp) [] [.lit (.int .i64 0)] (by simp) (by simp [plainP])), rfl, by rw [if_pos (by assumption)]; rfl⟩
    · obtain ⟨rfl, q3⟩ := q2
      cases q3
      exact ⟨_, _, Conv.sub q1 _, rfl, by rw [if_neg (by assumption)]⟩
  · rintro c s' ⟨s2, q1, q2⟩
    split at q2
    · obtain ⟨v, q3, _⟩ := q2
      cases q3
    · cases q2.2
theorem rKind_c (x : Tk) (hx : x.text.size ≤ 20000) (s : St) : PCalls Tryd.prog 26 [encT x] s (fun r s' => s' = s ∧ r = .ret (.lit (.string (kindT x)))) := by
  refine PCalls.of Tryd.func26 rfl (by rfl) (by simp [Tryd.ntmps26]) ?_
  refine pwC_sound _ _ _ _ ?_
  by_cases h7 : x.kind = 7
  · obtain ⟨xk, xb, xt, xa⟩ := x
    have h7' : xk = 7 := h7
    subst h7'
    simp [Tryd.ntmps26]
    intro i1 h1
    refine (rWords_c ⟨7, xb, xt, xa⟩ hx _).mono ?_
    rintro _ s1 ⟨hs1, rfl⟩
    rw [hs1]
    clear hs1 s1
    by_cases hd : dirW ⟨7, xb, xt, xa⟩ = true
    · rw [if_pos hd]
      generalize hw : wordsT ⟨7, xb, xt, xa⟩ = ws
      cases ws with
      | nil =>
        simp
        exact ⟨_, sub_refl.upd_of h1, rfl, by simp [kindT, hd, hw]⟩
      | cons w r =>
        have hr : ¬ ((r.length : Int) + 1 = 0) := by omega
        simp [hr]
        refine (has_c .tight kindsL w.text (by decide) _).mono ?_
        rintro _ s1 ⟨hs1, rfl⟩
        rw [hs1]
        clear hs1 s1
        by_cases hc : 0 ≤ hasI kindsL w.text
        · simp [hc]
          exact ⟨_, sub_refl.upd_of h1, rfl, by simp [kindT, hd, hw, hc]⟩
        · simp [hc]
          exact ⟨_, sub_refl.upd_of h1, rfl, by simp [kindT, hd, hw, hc]⟩
    · rw [if_neg hd]
      simp
      exact ⟨_, sub_refl.upd_of h1, rfl, by simp [kindT, hd]⟩
  · simp [Tryd.ntmps26, h7, kindT]
    intro i1 h1
    exact sub_refl.upd_of h1
end Go.Pv

/- Definitions, as plain data; the parameters on both sides. -/
namespace Go.Pv
open Go.Proofs
set_option linter.unusedVariables false
set_option linter.unusedSimpArgs false
set_option maxRecDepth 100000
set_option maxHeartbeats 1000000
def parL : List Tk → List ByteArray → Nat → Option (List ByteArray × Nat)
  | x :: y :: r, acc, i =>
    if x.text ≠ ⟨#[46, 46, 46]⟩ ∧ x.kind ≠ 1 then none
    else if y.text = ⟨#[41]⟩ then some (acc ++ [x.text], i + 2)
    else if x.text = ⟨#[46, 46, 46]⟩ ∨ y.text ≠ ⟨#[44]⟩ then none
    else parL r (acc ++ [x.text]) (i + 2)
  | _, _, _ => none
def paramsT : List Tk → Option (List ByteArray × Nat)
  | [] => none
  | x :: r => if x.text = ⟨#[41]⟩ then some ([], 1) else parL (x :: r) [] 0
def paramsR (l : List Tk) : List ByteArray × Nat × Bool := match paramsT l with
  | none => ([], 0, false)
  | some (ps, n) => (ps, n, true)
theorem parL_le : ∀ (l : List Tk) (acc : List ByteArray) (i : Nat) (ps : List ByteArray) (n : Nat), parL l acc i = some (ps, n) → n ≤ i + l.length ∧ ps.length ≤ acc.length + l.length
  | [], _, _, _, _, h => by simp [parL] at h
  | [_], _, _, _, _, h => by simp [parL] at h
  | x :: y :: r, acc, i, ps, n, h => by
    rw [parL] at h
    split at h
    · cases h
    · split at h
      · cases h; simp
      · split at h
        · cases h
        · have := parL_le r _ _ _ _ h
          simp at this ⊢
          omega
theorem paramsT_le {l : List Tk} {ps : List ByteArray} {n : Nat} (h : paramsT l = some (ps, n)) : n ≤ l.length ∧ ps.length ≤ l.length := by
  cases l with
  | nil => simp [paramsT] at h
  | cons x r =>
    rw [paramsT] at h
    split at h
    · cases h; simp
    · have := parL_le _ _ _ _ _ h
      simpa using this
theorem isSign_c (x : Tk) (u : ByteArray) (s : St) : PCalls Tryd.prog 29 [encT x, .lit (.string u)] s (fun r s' => s' = s ∧ r = .ret (.lit (.bool (decide (x.kind = 6 ∧ x.text = u))))) := by
  refine PCalls.of Tryd.func29 rfl (by rfl) (by simp [Tryd.ntmps29]) ?_
  refine pwC_sound _ _ _ _ ?_
  by_cases h6 : x.kind = 6
  · simp [Tryd.ntmps29, h6]
    intro i1 h1
    exact sub_refl.upd_of h1
  · simp [Tryd.ntmps29, h6]
    intro i1 h1
    exact sub_refl.upd_of h1
theorem isSign_ok {x : Tk} (h : TokOk x) {u : ByteArray} (hu : u ∈ plainS) : decide (x.kind = 6 ∧ x.text = u) = decide (x.text = u) := by
  by_cases q : x.text = u
  · have := h.sign (q ▸ hu)
    simp [this, q]
  · simp [q]
@[reducible] def strC (b : ByteArray) : List PV := [.lit (.string b)]
def PPI (k : VK) (l : List Tk) (base : St) (n : Nat) (e : Env) (s' : St) : Prop :=
  ∃ (j : Nat) (acc : List ByteArray) (v : PV), j ≤ l.length ∧ n = l.length - j ∧ e 0 = toks k l ∧ e 5 = v ∧ e 6 = .lit (.int .i64 j) ∧ acc.length ≤ j ∧ parL (l.drop j) acc j = parL l [] 0 ∧ OwnL 9 1 base (acc.map strC) v s'
theorem pparams_c (k : VK) (l : List Tk) (hl : l.length ≤ 100000) (hok : ∀ x ∈ l, TokOk x) (s : St) : PCalls Tryd.prog 36 [toks k l] s (fun r s' => s' = s ∧ r = .ret (.tup [strs .any (paramsR l).1, .lit (.int .i64 (paramsR l).2.1), .lit (.bool (paramsR l).2.2)])) := by
  refine PCalls.conv (R := fun r s' => ∃ v, r = .ret (.tup [v, .lit (.int .i64 (paramsR l).2.1), .lit (.bool (paramsR l).2.2)]) ∧ OwnL 9 1 s ((paramsR l).1.map strC) v s') ?_ ?_ ?_
  · refine PCalls.of Tryd.func36 rfl (by rfl) (by simp [Tryd.ntmps36]) ?_
    refine pwC_sound _ _ _ _ ?_
    refine pwC_cut fun K hK => ?_
    simp [Tryd.ntmps36]
    refine hK _ _ ?_
    clear hK K
    refine pwC_cut fun K hK => ?_
    have main : ∀ (E : Env), E 0 = toks k l → paramsT l = parL l [] 0 → K E s := by
      intro E g0 hpl
      refine hK _ _ ?_
      clear hK K
      refine pwC_cut fun K hK => ?_
      simp
      refine hK _ _ ?_
      clear hK K
      refine pwC_cut fun K hK => ?_
      simp
      refine PW.loop (fun n e s' => PPI k l s n e s') l.length ⟨0, [], .vec .nil [], by omega, by omega, by simp [g0], by simp, by simp, by simp, rfl, OwnL.nil _ _ _⟩ ?_
      rintro n e s' ⟨j, acc, v, hj, hn, e0, e5, e6, hacc, hgo, hO⟩
      refine pwC_sound _ _ _ _ ?_
      have w1 : IntKind.i64.wrap ((j : Int) + 1) = ((j + 1 : Nat) : Int) := by rw [wrap_i64 (by omega) (by omega)]; omega
      have w2 : IntKind.i64.wrap ((j : Int) + 2) = ((j + 2 : Nat) : Int) := by rw [wrap_i64 (by omega) (by omega)]; omega
      by_cases hlt : j + 1 < l.length
      · have hlt' : (j : Int) + 1 < l.length := by omega
        clear hK
        have hg1 : l[j]? = some l[j] := List.getElem?_eq_getElem (by omega)
        have hg2 : l[j + 1]? = some l[j + 1] := List.getElem?_eq_getElem hlt
        obtain ⟨x, hx⟩ : ∃ x, l[j] = x := ⟨_, rfl⟩
        obtain ⟨y, hy⟩ : ∃ y, l[j + 1] = y := ⟨_, rfl⟩
        have hxo := hok x (hx ▸ List.getElem_mem _)
        have hyo := hok y (hy ▸ List.getElem_mem _)
        rw [List.drop_eq_getElem_cons (by omega), List.drop_eq_getElem_cons hlt, hx, hy, parL] at hgo
        rw [hx] at hg1
        rw [hy] at hg2
        simp [e0, e5, e6, hlt, hlt', hg1, hg2, hx, hy, w1, w2]
        refine (isSign_c x _ _).mono ?_
        rintro _ s1 ⟨hs1, rfl⟩
        rw [hs1]
        clear hs1 s1
        rw [isSign_ok hxo (by simp [plainS])]
        have hRn : parL l [] 0 = none → paramsR l = ([], 0, false) := fun h => by simp [paramsR, hpl, h]
        have hRs : ∀ ps m, parL l [] 0 = some (ps, m) → paramsR l = (ps, m, true) := fun ps m h => by simp [paramsR, hpl, h]
        by_cases hxd : x.text = ⟨#[46, 46, 46]⟩
        · rw [if_neg (by simp [hxd])] at hgo
          simp [e0, e5, e6, hg1, hg2, hx, hy, w1, w2, hxd, hlt]
          refine appOwn (b := 16) (z := .string ⟨#[]⟩) (ys := [strC x.text]) hO (by simp) (by simp) (by simp) (by simp) rfl (by omega) (by simp) (fun s => by simp [elemsOf, hxd]) (by simp; omega) (fun v1 s1 hO1 => ?_)
          refine (isSign_c y _ _).mono ?_
          rintro _ s2 ⟨hs2, rfl⟩
          rw [hs2]
          clear hs2 s2
          rw [isSign_ok hyo (by simp [plainS])]
          by_cases hy1 : y.text = ⟨#[41]⟩
          · rw [if_pos hy1] at hgo
            have hR := hRs _ _ hgo.symm
            simp [e0, e5, e6, hg1, hg2, hx, hy, w1, w2, hxd, hy1, hR]
            exact ⟨_, sub_refl, by simpa [hxd] using hO1⟩
          · rw [if_neg hy1, if_pos (.inl hxd)] at hgo
            have hR := hRn hgo.symm
            simp [e0, e5, e6, hg1, hg2, hx, hy, w1, w2, hxd, hy1, hR]
            exact ⟨_, hO1.sub, OwnL.nil _ _ _⟩
        · by_cases hxk : x.kind = 1
          · rw [if_neg (by simp [hxk])] at hgo
            simp [e0, e5, e6, hg1, hg2, hx, hy, w1, w2, hxd, hxk, hlt]
            refine appOwn (b := 16) (z := .string ⟨#[]⟩) (ys := [strC x.text]) hO (by simp) (by simp) (by simp) (by simp) rfl (by omega) (by simp) (fun s => by simp [elemsOf]) (by simp; omega) (fun v1 s1 hO1 => ?_)
            refine (isSign_c y _ _).mono ?_
            rintro _ s2 ⟨hs2, rfl⟩
            rw [hs2]
            clear hs2 s2
            rw [isSign_ok hyo (by simp [plainS])]
            by_cases hy1 : y.text = ⟨#[41]⟩
            · rw [if_pos hy1] at hgo
              have hR := hRs _ _ hgo.symm
              simp [e0, e5, e6, hg1, hg2, hx, hy, w1, w2, hxd, hy1, hR]
              exact ⟨_, sub_refl, by simpa using hO1⟩
            · rw [if_neg hy1] at hgo
              simp [e0, e5, e6, hg1, hg2, hx, hy, w1, w2, hxd, hy1]
              refine (isSign_c y _ _).mono ?_
              rintro _ s2 ⟨hs2, rfl⟩
              rw [hs2]
              clear hs2 s2
              rw [isSign_ok hyo (by simp [plainS])]
              by_cases hy2 : y.text = ⟨#[44]⟩
              · rw [if_neg (by simp [hxd, hy2])] at hgo
                simp [e0, e5, e6, hg1, hg2, hx, hy, w1, w2, hxd, hy2]
                exact ⟨l.length - (j + 2), by omega, j + 2, acc ++ [x.text], v1, by omega, rfl, by simp [e0], by simp, by simp, by simp; omega, hgo, by simpa using hO1⟩
              · rw [if_pos (.inr hy2)] at hgo
                have hR := hRn hgo.symm
                simp [e0, e5, e6, hg1, hg2, hx, hy, w1, w2, hxd, hy2, hR]
                exact ⟨_, hO1.sub, OwnL.nil _ _ _⟩
          · rw [if_pos ⟨hxd, hxk⟩] at hgo
            have hR := hRn hgo.symm
            simp [e0, e5, e6, hg1, hg2, hx, hy, w1, w2, hxd, hxk, hlt, hR]
            exact ⟨_, hO.sub, OwnL.nil _ _ _⟩
      · have hlt' : ¬ (j : Int) + 1 < l.length := by omega
        have hnone : parL l [] 0 = none := by
          rw [← hgo]
          match hd : l.drop j, (by have := List.length_drop (i := j) (l := l); omega : (l.drop j).length ≤ 1) with
          | [], _ => rfl
          | [_], _ => rfl
        have hR : paramsR l = ([], 0, false) := by simp [paramsR, hpl, hnone]
        rw [hR]
        simp [e0, e5, e6, hlt, hlt', w1]
        refine hK _ _ ?_
        clear hK K
        rw [hR]
        simp
        exact ⟨_, hO.sub, OwnL.nil _ _ _⟩
    clear hK
    cases l with
    | nil =>
      simp
      exact main _ (by simp) rfl
    | cons x r =>
      have hr : (0 : Int) < (r.length : Int) + 1 := by omega
      simp [hr]
      refine (isSign_c x _ _).mono ?_
      rintro _ s1 ⟨hs1, rfl⟩
      rw [hs1]
      clear hs1 s1
      rw [isSign_ok (hok x (by simp)) (by simp [plainS])]
      by_cases hx : x.text = ⟨#[41]⟩
      · have hP : paramsR (x :: r) = ([], 1, true) := by simp [paramsR, paramsT, hx]
        rw [hP]
        simp [hx]
        exact ⟨_, sub_refl, OwnL.nil _ _ _⟩
      · simp [hx]
        exact main _ (by simp) (by simp [paramsT, hx])
  · rintro p s' ⟨v, q3, q4⟩
    cases q3
    exact ⟨_, _, Conv.ownTup q4 (xs := (paramsR l).1.map fun b => .lit (.string b)) (by simp) [] [.lit (.int .i64 (paramsR l).2.1), .lit (.bool (paramsR l).2.2)] (by simp) (by simp [plainP]), rfl, rfl⟩
  · rintro c s' ⟨v, q3, _⟩
    cases q3
end Go.Pv

/- The parameters and the joined text: the reference; the joined text: the program. -/
namespace Go.Pv
open Go.Proofs
set_option linter.unusedVariables false
set_option linter.unusedSimpArgs false
set_option maxRecDepth 100000
set_option maxHeartbeats 1000000
def RPI (k : VK) (w : List Tk) (p : Nat) (base : St) (n : Nat) (e : Env) (s' : St) : Prop :=
  ∃ (j : Nat) (acc : List ByteArray) (v : PV), p + j ≤ w.length ∧ n = w.length - (p + j) ∧ e 0 = toks k w ∧ e 7 = v ∧ e 1 = .lit (.int .i64 ((p + j : Nat) : Int)) ∧ acc.length ≤ j ∧ parL (w.drop (p + j)) acc j = parL (w.drop p) [] 0 ∧ OwnL 9 1 base (acc.map strC) v s'
end Go.Pv

/- Texts joined by blanks: both sides. -/
namespace Go.Pv
open Go.Proofs
set_option linter.unusedVariables false
set_option linter.unusedSimpArgs false
set_option maxRecDepth 100000
set_option maxHeartbeats 1000000
@[reducible] def spS : ByteArray := ⟨#[32]⟩
def joinB (xs : List ByteArray) : ByteArray := ⟨(joinL xs spS).toArray⟩
def neB (x : ByteArray) : Bool := !decide (x = ⟨#[]⟩)
theorem sizes_le (M : Nat) : ∀ (l : List ByteArray), (∀ x ∈ l, x.size ≤ M) → sizes l ≤ l.length * M
  | [], _ => by simp [sizes]
  | x :: l, h => by
    have h1 := h x (by simp)
    have h2 := sizes_le M l (fun y hy => h y (by simp [hy]))
    have : sizes (x :: l) = x.size + sizes l := by simp [sizes]
    rw [this, List.length_cons, Nat.succ_mul]
    omega
theorem joinB_nil : joinB [] = ⟨#[]⟩ := rfl
theorem joinB_one (x : ByteArray) : joinB [x] = x := by
  apply ByteArray.ext
  apply Array.ext'
  simp [joinB, joinL]
theorem joinB_snoc (y : ByteArray) (ys : List ByteArray) (x : ByteArray) : joinB (y :: ys ++ [x]) = joinB (y :: ys) ++ spS ++ x := by
  apply ByteArray.ext
  apply Array.ext'
  simp [joinB, joinL, ByteArray.data_append]
theorem joinB_size (M : Nat) (l : List ByteArray) (h : ∀ x ∈ l, x.size ≤ M) : (joinB l).size ≤ l.length * (M + 1) := by
  cases l with
  | nil => simp [joinB_nil]; rfl
  | cons x l =>
    have h1 : (joinB (x :: l)).size = (joinL (x :: l) spS).length := by simp [joinB, ByteArray.size]
    have h2 := joinL_len x l spS
    have h3 := sizes_le M (x :: l) h
    have h4 : sizes (x :: l) = x.size + sizes l := by simp [sizes]
    have h5 : spS.size = 1 := rfl
    rw [h1, h2, h5, List.length_cons, Nat.mul_succ]
    rw [List.length_cons] at h3
    omega
theorem joinB_ne (y : ByteArray) (ys : List ByteArray) (h : y ≠ ⟨#[]⟩) : joinB (y :: ys) ≠ ⟨#[]⟩ := by
  intro he
  have h1 : (joinB (y :: ys)).size = (joinL (y :: ys) spS).length := by simp [joinB, ByteArray.size]
  rw [he, joinL_len] at h1
  have h0 : (⟨#[]⟩ : ByteArray).size = 0 := rfl
  have : y.size = 0 := by omega
  exact h (ByteArray.size_eq_zero_iff.1 this)
def joinT (l : List Tk) : ByteArray := joinB (l.map fun x => x.text)
def JNI (k : VK) (l : List Tk) (base : St) (n : Nat) (e : Env) (s' : St) : Prop :=
  ∃ (B : St) (j : Nat) (v : PV), j + n = l.length ∧ e 6 = toks k l ∧ e 7 = .lit (.int .i64 (l.length : Nat)) ∧ e 8 = .lit (.int .i64 j) ∧ e 3 = v ∧ OwnL 9 1 B (((l.take j).map fun x => x.text).map strC) v s' ∧ base.sub B
theorem pjoined_c (k : VK) (l : List Tk) (hl : l.length ≤ 100000) (hs : ∀ x ∈ l, x.text.size ≤ 100000) (s : St) : PCalls Tryd.prog 37 [toks k l] s (fun r s' => s' = s ∧ r = .ret (.lit (.string (joinT l)))) := by
  refine PCalls.of Tryd.func37 rfl (by rfl) (by simp [Tryd.ntmps37]) ?_
  refine pwC_sound _ _ _ _ ?_
  refine pwC_cut fun K hK => ?_
  simp [Tryd.ntmps37]
  refine hK _ _ ?_
  clear hK K
  refine pwC_cut fun K hK => ?_
  simp
  refine hK _ _ ?_
  clear hK K
  refine pwC_cut fun K hK => ?_
  simp
  refine PW.loop (fun n e s' => JNI k l s n e s') l.length ⟨s, 0, .vec .nil [], by omega, by simp, by simp, by simp, by simp, OwnL.nil _ _ _, sub_refl⟩ ?_
  rintro n e s' ⟨B, j, v, hj, e6, e7, e8, e3, hO, hBs⟩
  refine pwC_sound _ _ _ _ ?_
  by_cases hlt : j < l.length
  · have hlt' : (j : Int) < l.length := by omega
    have hg : l[j]? = some l[j] := List.getElem?_eq_getElem hlt
    obtain ⟨x, hx⟩ : ∃ x, l[j] = x := ⟨_, rfl⟩
    rw [hx] at hg
    have w1 : IntKind.i64.wrap ((j : Int) + 1) = ((j + 1 : Nat) : Int) := by rw [wrap_i64 (by omega) (by omega)]; omega
    clear hK
    simp [e6, e7, e8, e3, hlt, hlt', hg, hx, w1]
    intro i5 h5
    have hO2 := hO.upd (k := i5) (x := some (.row 31 4 [encTC x])) (.inl h5)
    refine appOwn (b := 16) (z := .string ⟨#[]⟩) (ys := [strC x.text]) hO2 (by simp) (by simp) (by simp) (by simp) rfl (by omega) (by simp) (fun s => by simp [elemsOf]) (by simp; omega) (fun v1 s1 hO1 => ?_)
    refine ⟨n - 1, by omega, B.upd i5 (some (.row 31 4 [encTC x])), j + 1, v1, by omega, by simp [e6], by simp [e7], by simp, by simp, ?_, hBs.upd_of (hBs.fresh (hO.sub.fresh h5))⟩
    rw [List.take_add_one, hg]
    simpa using hO1
  · have hlt' : ¬ (j : Int) < l.length := by omega
    simp [e6, e7, e8, e3, hlt, hlt']
    refine hK _ _ ?_
    clear hK K
    rw [List.take_of_length_le (by omega)] at hO
    simp [e3]
    have hsz := sizes_le 100000 (l.map fun x => x.text) (by simpa using hs)
    rw [List.length_map] at hsz
    have h32 : (⟨#[32]⟩ : ByteArray).size = 1 := rfl
    refine (PCalls.args (Conv.own hO (xs := (l.map fun x => x.text).map fun b => .lit (.string b)) (by simp) [.lit (.string ⟨#[32]⟩)]) (join_c .any (l.map fun x => x.text) ⟨#[32]⟩ (by simp; omega) (by omega) (by omega) _)).mono ?_
    rintro _ s1 ⟨hs1, rfl⟩
    rw [hs1]
    clear hs1 s1
    simp
    exact ⟨_, hBs, rfl, rfl⟩
def RJI (k : VK) (xs : List ByteArray) (base : St) (n : Nat) (e : Env) (s' : St) : Prop :=
  ∃ (j : Nat), j + n = xs.length ∧ e 0 = strs k xs ∧ e 3 = .lit (.string (joinB ((xs.take j).filter neB))) ∧ e 4 = .lit (.int .i64 j) ∧ s' = base
end Go.Pv

/- The definition that a directive is: both sides. -/
namespace Go.Pv
open Go.Proofs
set_option linter.unusedVariables false
set_option linter.unusedSimpArgs false
set_option maxRecDepth 100000
set_option maxHeartbeats 1000000
structure Df where
  name : ByteArray
  at_ : Int
  params : List ByteArray
  fun_ : Bool
  body : ByteArray
  gone : Bool
@[reducible] def encDC (k : VK) (d : Df) : List PV := [.lit (.string d.name), .lit (.int .i64 d.at_), strs k d.params, .lit (.bool d.fun_), .lit (.string d.body), .lit (.bool d.gone)]
@[reducible] def encD (k : VK) (d : Df) : PV := .agg (encDC k d)
@[reducible] def zeroD : Df := ⟨⟨#[]⟩, 0, [], false, ⟨#[]⟩, false⟩
@[reducible] def defineS : ByteArray := ⟨#[100, 101, 102, 105, 110, 101]⟩
@[reducible] def undefS : ByteArray := ⟨#[117, 110, 100, 101, 102]⟩
/-- The body, and what it begins with. -/
def bodyD (name : ByteArray) (body : List Tk) : Option (Df × List Tk) := match body with
  | [] => some (⟨name, 0, [], false, joinT [], false⟩, [])
  | b :: r => if b.text = ⟨#[40]⟩ ∧ b.before = ⟨#[]⟩ then (match paramsT r with
      | none => none
      | some (ps, n) => some (⟨name, 0, ps, true, joinT (r.drop n), false⟩, r.drop n))
    else some (⟨name, 0, [], false, joinT (b :: r), false⟩, b :: r)
def defW (kind : ByteArray) (w : List Tk) : Option (Df × List Tk) :=
  if kind ≠ defineS ∧ kind ≠ undefS then none else match w with
  | _ :: w1 :: body => if w1.kind ≠ 1 then none else if kind = undefS then some (⟨w1.text, 0, [], false, ⟨#[]⟩, true⟩, []) else bodyD w1.text body
  | _ => none
def wordsD (x : Tk) : List Tk := if dirW x = true then wordsT x else []
def defT (x : Tk) : Option (Df × List Tk) := defW (kindT x) (wordsD x)
def defR (x : Tk) : Df × List Tk × Bool := match defT x with
  | none => (zeroD, [], false)
  | some (d, b) => (d, b, true)
theorem wordsD_ok (x : Tk) : ∀ y ∈ wordsD x, TokOk y := by
  intro y hy
  unfold wordsD at hy
  split at hy
  · exact wordsF_ok _ _ _ y hy
  · cases hy
theorem wordsD_len (x : Tk) (hx : x.text.size ≤ 20000) : (wordsD x).length ≤ 20000 := by
  unfold wordsD
  split
  · have h := wordsF_len ((x.text.extract 1 x.text.size).size + 1) (x.text.extract 1 x.text.size) 0 (by omega)
    have : (x.text.extract 1 x.text.size).size ≤ x.text.size := by rw [ByteArray.size_extract]; omega
    unfold wordsT
    omega
  · simp
theorem toksF_size (t : ByteArray) : ∀ (k i : Nat) (c : Bool), ∀ x ∈ toksF keysL signsL t k i c, x.text.size ≤ t.size
  | 0, i, c, x, hx => by simp [toksF] at hx
  | k + 1, i, c, x, hx => by
    rw [toksF_succ, restF] at hx
    split at hx
    · rw [List.mem_singleton] at hx
      subst hx
      exact Nat.zero_le _
    · rcases List.mem_cons.1 hx with rfl | hx
      · show (t.extract _ _).size ≤ t.size
        rw [ByteArray.size_extract]; omega
      · exact toksF_size t k _ _ x hx
theorem mid_size (u : ByteArray) : ∀ x ∈ midF u, x.text.size ≤ u.size + 1 := by
  intro x hx
  have := toksF_size (semi ++ u) (u.size + 1) 1 false x (by unfold midF at hx; exact List.dropLast_subset _ hx)
  rw [size_cons] at this
  exact this
theorem wordsF_size (S : ByteArray) : ∀ (k p : Nat), p ≤ S.size → ∀ x ∈ wordsF k S p, x.text.size ≤ S.size + 1
  | 0, p, hp, x, hx => by simp [wordsF] at hx
  | k + 1, p, hp, x, hx => by
    rw [wordsF] at hx
    refine goW_ok (P := fun x => x.text.size ≤ S.size + 1) (fun x h => by show (⟨#[35]⟩ : ByteArray).size ≤ _; have : (⟨#[35]⟩ : ByteArray).size = 1 := rfl; omega) _ ?_ ?_ x hx
    · intro y hy
      obtain ⟨z, hz, rfl⟩ := List.mem_map.1 hy
      have := mid_size _ z hz
      rw [extract_rest hp] at this
      show z.text.size ≤ _
      omega
    · intro y hy z hz
      have := mid_at hp hy
      exact wordsF_size S k _ (by omega) z hz
theorem wordsD_size (x : Tk) (hx : x.text.size ≤ 20000) : ∀ y ∈ wordsD x, y.text.size ≤ 20001 := by
  intro y hy
  unfold wordsD at hy
  split at hy
  · have h := wordsF_size (x.text.extract 1 x.text.size) _ 0 (by omega) y hy
    have : (x.text.extract 1 x.text.size).size ≤ x.text.size := by rw [ByteArray.size_extract]; omega
    omega
  · cases hy
theorem slc_tks (k : VK) (L : List Tk) (h : Nat) (h2 : h ≤ L.length) : slc Tryd.prog 24 (toks k L) (some (.lit (.int .i64 h))) none = some (toks k (L.drop h)) := by
  have : 0 ≤ (h : Int) := by omega
  cases k <;> simp [slc, bound, this, h2] <;> rw [List.take_of_length_le (by simp)]
theorem define_c (x : Tk) (hx : x.text.size ≤ 20000) (s : St) (hv : Vars s) : PCalls Tryd.prog 16 [encT x] s (fun r s' => s' = s ∧ ∃ k1 k2, r = .ret (.tup [encD k1 (defR x).1, toks k2 (defR x).2.1, .lit (.bool (defR x).2.2)])) := by
  have hok := wordsD_ok x
  have hlen := wordsD_len x hx
  have hsz := wordsD_size x hx
  have hdR : defR x = match defW (kindT x) (wordsD x) with | none => (zeroD, [], false) | some (d, b) => (d, b, true) := rfl
  refine PCalls.of Tryd.func16 rfl (by rfl) (by simp [Tryd.ntmps16]) ?_
  refine pwC_sound _ _ _ _ ?_
  refine pwC_cut fun K hK => ?_
  simp [Tryd.ntmps16]
  intro i1 h1 i2 h20 h21 h2
  refine hK _ _ ?_
  clear hK K
  generalize hE : Env.put _ _ _ = E
  have g1 : E 1 = .pt i1 0 0 := by rw [← hE]; simp
  have g2 : E 2 = .pt i2 0 0 := by rw [← hE]; simp
  clear hE
  generalize hσ : St.upd (St.upd _ _ _) _ _ = σ
  have b1 : σ i1 = some (.row 31 4 [encTC x]) := by rw [← hσ, St.upd_ne _ _ h21]; simp
  have b2 : σ i2 = some (.row 37 6 [encDC .nil zeroD]) := by rw [← hσ]; simp
  have hs : s.sub σ := by rw [← hσ]; exact (sub_refl.upd_of h1).upd_of h2
  clear hσ
  have hvσ := hv.sub hs
  refine pwC_cut fun K hK => ?_
  simp [g1, b1]
  refine (cKind_c x hx _ hvσ).mono ?_
  rintro _ s1 ⟨hs1, rfl⟩
  rw [hs1]
  clear hs1 s1
  simp
  refine hK _ _ ?_
  clear hK K
  refine pwC_cut fun K hK => ?_
  simp [g1, b1]
  refine (cWords_c x hx _ hvσ).mono ?_
  rintro _ s1 ⟨hs1, rfl⟩
  rw [hs1]
  clear hs1 s1
  have hkw : ∃ kw e, (if dirW x = true then PV.tup [toks .any (wordsT x), .lit (.int .i64 0)] else .tup [.vec .nil [], .lit (.int .i64 3)]) = .tup [toks kw (wordsD x), .lit (.int .i64 e)] := by
    unfold wordsD
    split
    · exact ⟨.any, 0, rfl⟩
    · exact ⟨.nil, 3, rfl⟩
  obtain ⟨kw, er, hkw⟩ := hkw
  rw [hkw]
  clear hkw
  simp
  refine hK _ _ ?_
  clear hK K
  generalize hE : Env.put _ _ _ = E'
  have f1 : E' 1 = .pt i1 0 0 := by rw [← hE]; simp [g1]
  have f2 : E' 2 = .pt i2 0 0 := by rw [← hE]; simp [g2]
  have f5 : E' 5 = .lit (.string (kindT x)) := by rw [← hE]; simp
  have f6 : E' 6 = toks kw (wordsD x) := by rw [← hE]; simp
  clear hE g1 g2 E
  generalize wordsD x = w at *
  generalize kindT x = kd at *
  have hRn : defW kd w = none → defR x = (zeroD, [], false) := fun h => by rw [hdR, h]
  have hRs : ∀ d b, defW kd w = some (d, b) → defR x = (d, b, true) := fun d b h => by rw [hdR, h]
  clear hdR
  refine pwC_cut fun K hK => ?_
  by_cases hk : kd ≠ defineS ∧ kd ≠ undefS
  · clear hK
    rw [hRn (by unfold defW; exact if_pos hk)]
    obtain ⟨hk1, hk2⟩ := hk
    simp [f2, f5, f6, hk1, hk2, b2]
    exact hs.upd_of h2
  have hkk : kd = defineS ∨ kd = undefS := by
    by_cases h1 : kd = defineS
    · exact .inl h1
    · exact .inr (Classical.not_not.1 fun h2 => hk ⟨h1, h2⟩)
  have hdu : ¬ defineS = undefS := by decide
  have hud : ¬ undefS = defineS := by decide
  by_cases hw : ∃ w0 w1 body, w = w0 :: w1 :: body ∧ w1.kind = 1
  · obtain ⟨w0, w1, body, rfl, hw1⟩ := hw
    have hlb : ¬ ((body.length : Int) + 1 + 1 < 2) := by omega
    have step : ∀ E : Env, E 2 = .pt i2 0 0 → E 5 = .lit (.string kd) → E 6 = toks kw (w0 :: w1 :: body) → K E σ := by
      intro E g2 g5 g6
      refine hK _ _ ?_
      clear hK K f2 f5 f6 f1
      refine pwC_cut fun K hK => ?_
      simp [g6]
      intro i8 h8
      refine hK _ _ ?_
      clear hK K
      have h28 : ¬ i2 = i8 := fun e => by subst e; rw [show σ i2 = none from h8] at b2; cases b2
      generalize hE : Env.put _ _ _ = E1
      have f2 : E1 2 = .pt i2 0 0 := by rw [← hE]; simp [g2]
      have f5 : E1 5 = .lit (.string kd) := by rw [← hE]; simp [g5]
      have f6 : E1 6 = toks kw (w0 :: w1 :: body) := by rw [← hE]; simp [g6]
      have f8 : E1 8 = .pt i8 0 0 := by rw [← hE]; simp
      clear hE g2 g5 g6 E
      generalize hσ : St.upd σ _ _ = σ1
      have c2 : σ1 i2 = some (.row 37 6 [encDC .nil zeroD]) := by rw [← hσ, St.upd_ne _ _ h28]; exact b2
      have c8 : σ1 i8 = some (.row 37 6 [encDC .nil ⟨w1.text, 0, [], false, ⟨#[]⟩, false⟩]) := by rw [← hσ]; simp
      have hs1 : s.sub σ1 := by rw [← hσ]; exact hs.upd_of (hs.fresh h8)
      clear hσ
      have s2n := h2
      have s8n := hs.fresh h8
      have h82 : ¬ i8 = i2 := fun e => h28 e.symm
      refine pwC_cut fun K hK => ?_
      rcases hkk with rfl | rfl
      · simp [f5, hdu]
        refine hK _ _ ?_
        clear hK K
        have hD : defW defineS (w0 :: w1 :: body) = bodyD w1.text body := by
          unfold defW
          rw [if_neg hk]
          simp only [hw1]
          rw [if_neg (by simp), if_neg hdu]
        rw [hD] at hRn hRs
        clear hD
        have hsl2 : slc Tryd.prog 24 (toks kw (w0 :: w1 :: body)) (some (.lit (.int .i64 2))) none = some (toks kw body) := slc_tks kw (w0 :: w1 :: body) 2 (by simp)
        refine pwC_cut fun K hK => ?_
        simp [f6, hsl2]
        refine hK _ _ ?_
        clear hK K hsl2
        generalize hE : Env.put _ _ _ = E2
        have g2 : E2 2 = .pt i2 0 0 := by rw [← hE]; simp [f2]
        have g8 : E2 8 = .pt i8 0 0 := by rw [← hE]; simp [f8]
        have g9 : E2 9 = toks kw body := by rw [← hE]; simp
        clear hE f2 f5 f6 f8 E1
        have hokb : ∀ y ∈ body, TokOk y := fun y hy => hok y (by simp [hy])
        have hszb : ∀ y ∈ body, y.text.size ≤ 20001 := fun y hy => hsz y (by simp [hy])
        have hlenb : body.length ≤ 20000 := by simp at hlen; omega
        refine pwC_cut fun R hR => ?_
        -- the body is told
        have fin : ∀ (E : Env) (σ2 : St) (ps : List ByteArray) (kp kb : VK) (fn : Bool) (rest : List Tk), E 2 = .pt i2 0 0 → E 8 = .pt i8 0 0 → E 9 = toks kb rest → s.sub σ2 → σ2 i2 = some (.row 37 6 [encDC .nil zeroD]) → σ2 i8 = some (.row 37 6 [encDC kp ⟨w1.text, 0, ps, fn, ⟨#[]⟩, false⟩]) → (∀ y ∈ rest, y ∈ body) → rest.length ≤ 20000 → bodyD w1.text body = some (⟨w1.text, 0, ps, fn, joinT rest, false⟩, rest) → R E σ2 := by
          intro E σ2 ps kp kb fn rest e2 e8 e9 hs2 d2 d8 hrb hrl hbd
          refine hR _ _ ?_
          clear hR R
          rw [hRs _ _ hbd]
          refine pwC_cut fun K hK => ?_
          simp [e9]
          refine (pjoined_c kb rest (by omega) (fun y hy => Nat.le_trans (hszb y (hrb y hy)) (by omega)) _).mono ?_
          rintro _ s1 ⟨hs1, rfl⟩
          rw [hs1]
          clear hs1 s1
          simp [e8, d8]
          refine hK _ _ ?_
          clear hK K
          simp [e2, e8, e9, d2, h28, h82]
          exact (hs2.upd_of s8n).upd_of s2n
        have plain : bodyD w1.text body = some (⟨w1.text, 0, [], false, joinT body, false⟩, body) → ∀ E : Env, E 2 = .pt i2 0 0 → E 8 = .pt i8 0 0 → E 9 = toks kw body → R E σ1 :=
          fun hb E e2 e8 e9 => fin E σ1 [] .nil kw false body e2 e8 e9 hs1 c2 c8 (fun _ h => h) hlenb hb
        match body, g9, hokb, hlenb, fin, plain with
        | [], g9, _, _, fin, plain =>
          clear hR
          simp [g9]
          exact plain rfl _ (by simp [g2]) (by simp [g8]) (by simp [g9])
        | b :: r, g9, hokb, hlenb, fin, plain =>
          have hr : (0 : Int) < (r.length : Int) + 1 := by omega
          simp [g9, hr]
          refine (isSign_c b _ _).mono ?_
          rintro _ s1 ⟨hs1', rfl⟩
          rw [hs1']
          clear hs1' s1
          rw [isSign_ok (hokb b (by simp)) (by simp [plainS])]
          by_cases hb1 : b.text = ⟨#[40]⟩
          · by_cases hb2 : b.before = ⟨#[]⟩
            · have hbd : bodyD w1.text (b :: r) = match paramsT r with
                | none => none
                | some (ps, n) => some (⟨w1.text, 0, ps, true, joinT (r.drop n), false⟩, r.drop n) := by
                unfold bodyD
                simp only
                rw [if_pos ⟨hb1, hb2⟩]
                all_goals rfl
              have hsl1 : slc Tryd.prog 24 (toks kw (b :: r)) (some (.lit (.int .i64 1))) none = some (toks kw r) := slc_tks kw (b :: r) 1 (by simp)
              have hlr : r.length ≤ 20000 := by simp at hlenb; omega
              simp [g9, hb1, hb2, hsl1]
              refine (pparams_c kw r (by omega) (fun y hy => hokb y (by simp [hy])) _).mono ?_
              rintro _ s1 ⟨hs1', rfl⟩
              rw [hs1']
              clear hs1' s1
              cases hpr : paramsT r with
              | none =>
                have hP : paramsR r = ([], 0, false) := by simp [paramsR, hpr]
                rw [hP]
                rw [hRn (by rw [hbd, hpr])]
                simp [g2, c2, h28, h82]
                exact hs1.upd_of s2n
              | some q =>
                obtain ⟨ps, n⟩ := q
                have hP : paramsR r = (ps, n, true) := by simp [paramsR, hpr]
                have hn := paramsT_le hpr
                rw [hP]
                have w1n : IntKind.i64.wrap (1 + (n : Int)) = ((1 + n : Nat) : Int) := by rw [wrap_i64 (by omega) (by omega)]; omega
                have hsl3 := slc_tks kw (b :: r) (1 + n) (by simp; omega)
                have hsl3' : slc Tryd.prog 24 (toks kw (b :: r)) (some (.lit (.int .i64 (1 + (n : Int))))) none = some (toks kw (r.drop n)) := by
                  rw [show (1 : Int) + (n : Int) = ((1 + n : Nat) : Int) by omega, hsl3, show 1 + n = n + 1 by omega, List.drop_succ_cons]
                simp [g2, g8, g9, c2, c8, h28, h82, w1n, hsl3']
                refine fin _ _ ps .any kw true (r.drop n) (by simp [g2]) (by simp [g8]) (by simp) ((hs1.upd_of s8n)) (by simp [h28, c2]) (by simp) (fun y hy => by simp [List.mem_of_mem_drop hy]) (by rw [List.length_drop]; omega) (by rw [hbd, hpr])
            · simp [g9, hb1, hb2]
              exact plain (by unfold bodyD; simp only; rw [if_neg (fun h => hb2 h.2)]) _ (by simp [g2]) (by simp [g8]) (by simp [g9])
          · simp [g9, hb1]
            exact plain (by unfold bodyD; simp only; rw [if_neg (fun h => hb1 h.1)]) _ (by simp [g2]) (by simp [g8]) (by simp [g9])
      · clear hK
        rw [hRs _ _ (by unfold defW; rw [if_neg hk]; simp only [hw1]; rfl)]
        simp [f2, f5, f6, f8, c2, c8, h28, h82]
        exact (hs1.upd_of s8n).upd_of s2n
    clear hK
    rcases hkk with rfl | rfl
    · simp [f2, f5, f6, hdu, hud, hlb, hw1]
      exact step _ (by simp [f2]) (by simp [f5]) (by simp [f6])
    · simp [f2, f5, f6, hdu, hud, hlb, hw1]
      exact step _ (by simp [f2]) (by simp [f5]) (by simp [f6])
  · clear hK
    rw [hRn (by
      unfold defW
      rw [if_neg hk]
      split
      · rename_i w0 w1 body
        rw [if_pos (fun h => hw ⟨_, _, _, rfl, h⟩)]
      · rfl)]
    match w, hw, f6 with
    | [], _, f6 =>
      rcases hkk with rfl | rfl
      · simp [f2, f5, f6, hdu, hud, b2]
        exact hs.upd_of h2
      · simp [f2, f5, f6, hdu, hud, b2]
        exact hs.upd_of h2
    | [w0], _, f6 =>
      rcases hkk with rfl | rfl
      · simp [f2, f5, f6, hdu, hud, b2]
        exact hs.upd_of h2
      · simp [f2, f5, f6, hdu, hud, b2]
        exact hs.upd_of h2
    | w0 :: w1 :: body, hw, f6 =>
      have hlb : ¬ ((body.length : Int) + 1 + 1 < 2) := by omega
      have hw1 : ¬ w1.kind = 1 := fun h => hw ⟨_, _, _, rfl, h⟩
      rcases hkk with rfl | rfl
      · simp [f2, f5, f6, hdu, hud, b2, hlb, hw1]
        exact hs.upd_of h2
      · simp [f2, f5, f6, hdu, hud, b2, hlb, hw1]
        exact hs.upd_of h2
end Go.Pv

/- The definition that a directive is: Define on both sides. -/
namespace Go.Pv
open Go.Proofs
set_option linter.unusedVariables false
set_option linter.unusedSimpArgs false
set_option maxRecDepth 100000
set_option maxHeartbeats 1000000
theorem pDefine_c (x : Tk) (hx : x.text.size ≤ 20000) (s : St) (hv : Vars s) : PCalls Tryd.prog 8 [encT x] s (fun r s' => s' = s ∧ ∃ k, r = .ret (.tup [encD k (defR x).1, .lit (.bool (defR x).2.2)])) := by
  refine PCalls.of Tryd.func8 rfl (by rfl) (by simp [Tryd.ntmps8]) ?_
  refine pwC_sound _ _ _ _ ?_
  refine pwC_cut fun K hK => ?_
  simp [Tryd.ntmps8]
  intro i1 h1 i2 h20 h21 h2
  refine hK _ _ ?_
  clear hK K
  have hs : s.sub ((s.upd i1 (some (.row 31 4 [encTC x]))).upd i2 (some (.row 37 6 [encDC .nil zeroD]))) := (sub_refl.upd_of h1).upd_of h2
  refine pwC_cut fun K hK => ?_
  simp [h20, h21]
  refine (define_c x hx _ (hv.sub hs)).mono ?_
  rintro _ s1 ⟨hs1, k1, k2, rfl⟩
  rw [hs1]
  clear hs1 s1
  simp
  intro i4 h42 h24 h41 h14 h4
  refine hK _ _ ?_
  clear hK K
  simp [h42, h24]
  exact (hs.upd_of h4).upd_of h2
def BLI (k : VK) (w : List Tk) (a : Nat) (base : St) (E0 : Env) (n : Nat) (e : Env) (s' : St) : Prop :=
  ∃ (j : Nat) (v : PV), a + j + n = w.length ∧ e 2 = E0 2 ∧ e 7 = E0 7 ∧ e 5 = toks k w ∧ e 8 = .lit (.int .i64 ((a + j : Nat) : Int)) ∧ e 10 = v ∧ OwnL 9 1 base ((((w.drop a).take j).map fun x => x.text).map strC) v s'
theorem filter_texts (l : List Tk) (h : ∀ x ∈ l, TokOk x) : (l.map fun x => x.text).filter neB = l.map fun x => x.text := by
  refine List.filter_eq_self.2 fun y hy => ?_
  obtain ⟨x, hx, rfl⟩ := List.mem_map.1 hy
  simp [neB, (h x hx).text]
end Go.Pv

/- The law of definitions. -/
namespace Go.Pv
open Go.Proofs
set_option linter.unusedVariables false
set_option linter.unusedSimpArgs false
set_option maxRecDepth 100000
set_option maxHeartbeats 1000000
theorem bin_bb (b : Bool) : bin Tryd.prog .eql 4 (.lit (.bool b)) (.lit (.bool b)) = some (.lit (.bool true)) := by
  cases b <;> simp [bin]
theorem awake_c (s : St) (hv : Vars s) : PCalls Tryd.prog 4 [] s (fun r s' => s' = s ∧ r = .ret (.lit (.bool true))) := by
  refine PCalls.of Tryd.func4 rfl (by rfl) (by simp [Tryd.ntmps4]) ?_
  refine pwC_sound _ _ _ _ ?_
  refine pwC_cut fun K hK => ?_
  simp [Tryd.ntmps4]
  refine hK _ _ ?_
  clear hK K
  have hD : defR ⟨7, ⟨#[]⟩, ⟨#[35, 100, 101, 102, 105, 110, 101, 32, 70, 40, 97, 41, 32, 97, 43, 49]⟩, 0⟩ = (⟨⟨#[70]⟩, 0, [⟨#[97]⟩], true, ⟨#[97, 32, 43, 32, 49]⟩, false⟩, (defR ⟨7, ⟨#[]⟩, ⟨#[35, 100, 101, 102, 105, 110, 101, 32, 70, 40, 97, 41, 32, 97, 43, 49]⟩, 0⟩).2.1, true) := by kernel_rfl
  refine pwC_cut fun K hK => ?_
  simp
  refine (pDefine_c ⟨7, ⟨#[]⟩, ⟨#[35, 100, 101, 102, 105, 110, 101, 32, 70, 40, 97, 41, 32, 97, 43, 49]⟩, 0⟩ (by decide) _ hv).mono ?_
  rintro _ s1 ⟨hs1, k, rfl⟩
  rw [hs1, hD]
  clear hs1 s1
  simp
  intro i1 h1
  refine hK _ _ ?_
  clear hK K
  generalize hE : Env.put _ _ _ = E1
  have f1 : E1 1 = .pt i1 0 0 := by rw [← hE]; simp
  have f2 : E1 2 = .lit (.bool true) := by rw [← hE]; simp
  clear hE
  have b1 : (s.upd i1 (some (.row 37 6 [encDC k ⟨⟨#[70]⟩, 0, [⟨#[97]⟩], true, ⟨#[97, 32, 43, 32, 49]⟩, false⟩]))) i1 = some (.row 37 6 [encDC k ⟨⟨#[70]⟩, 0, [⟨#[97]⟩], true, ⟨#[97, 32, 43, 32, 49]⟩, false⟩]) := by simp
  have hs : s.sub (s.upd i1 (some (.row 37 6 [encDC k ⟨⟨#[70]⟩, 0, [⟨#[97]⟩], true, ⟨#[97, 32, 43, 32, 49]⟩, false⟩]))) := sub_refl.upd_of h1
  generalize s.upd i1 _ = σ at *
  simp (maxSteps := 4000000) [f1, f2, b1]
  exact hs
theorem defR_len (x : Tk) (hx : x.text.size ≤ 20000) : (defR x).1.params.length ≤ 1000000 := by
  have hl := wordsD_len x hx
  have key : ∀ d b, defT x = some (d, b) → d.params.length ≤ 1000000 := by
    intro d b h
    unfold defT defW at h
    split at h
    · cases h
    · generalize wordsD x = w at *
      split at h
      · rename_i w0 w1 body
        split at h
        · cases h
        · split at h
          · cases h; simp
          · unfold bodyD at h
            simp at hl
            split at h
            · cases h; simp
            · rename_i bb r
              split at h
              · split at h
                · cases h
                · rename_i ps n hps
                  cases h
                  have := paramsT_le hps
                  simp at hl
                  show ps.length ≤ _
                  omega
              · cases h; simp
      · cases h
  unfold defR
  split
  · simp
  · rename_i d b h
    exact key d b h
end Go.Pv

/- A law that reads the program's variables: its start; a token that comes in. -/
namespace Go.Pv
open Go.Proofs Go.RowKit Go.ChangeShapes Go.WideShapes
set_option linter.unusedVariables false
set_option linter.unusedSimpArgs false
set_option maxRecDepth 100000
def varsS (m : Int) : St := fun i => if i = 0 then some (.ro tabP) else if i = 2 then some (.ro [.lit (.int .i64 m)]) else none
theorem vars_varsS (m : Int) : Vars (varsS m) := ⟨rfl, m, rfl⟩
theorem ro_br {w : World} {k : Nat} (hk : k < w.heap.size) {arr : Array Value} {ty : TypeId} {fr : Nat × Nat} {ls : List Value} (hb : w.heap[k]? = some (.cells arr ty fr)) (ha : arr.toList = ls) (hsc : ∀ v ∈ ls, scal v = true ∧ Value.oneCell' v = true) : BR w (g0 w) k (.ro (ls.map .lit)) := by
  subst ha
  refine .ro _ arr ty fr hk hb (by simp) (fun f c hf => ?_)
  rw [List.getElem?_map, Array.getElem?_toList] at hf
  obtain ⟨v, hv, rfl⟩ := Option.map_eq_some_iff.1 hf
  refine ⟨v, ?_, ?_, .lit v ?_⟩
  · show w.cell? ⟨k, f, none⟩ = some v
    simp only [World.cell?, hb]
    simpa using hv
  · exact (hsc v (by rw [Array.mem_toList_iff]; exact Array.mem_of_getElem? hv)).2
  · exact (hsc v (by rw [Array.mem_toList_iff]; exact Array.mem_of_getElem? hv)).1
theorem holdsV {w : World} {m : Int} {a1 a2 : Array Value} {t1 t2 : TypeId} {f1 f2 : Nat × Nat} (h1 : w.heap[0]? = some (.cells a1 t1 f1)) (e1 : a1.toList = Lib.asciiSpaceTab.map fun z => Value.int .u8 z) (h2 : w.heap[2]? = some (.cells a2 t2 f2)) (e2 : a2.toList = [.int .i64 m]) : Holds (g0 w) (varsS m) w := by
  have lt : ∀ (k : Nat) (o : Obj), w.heap[k]? = some o → k < w.heap.size := fun k o h => by
    rcases Nat.lt_or_ge k w.heap.size with hl | hl
    · exact hl
    · rw [Array.getElem?_eq_none hl] at h; cases h
  refine ⟨fun i hi => ?_, fun _ h => h, fun i b hb => ?_, fun i j hi hj h => h, fun i b hb hr => ?_⟩
  · have hi' : 64 ≤ i := hi
    unfold varsS
    rw [if_neg (by omega), if_neg (by omega)]
  · unfold varsS at hb
    split at hb
    · rename_i h; subst h; cases hb
      have := ro_br (lt _ _ h1) h1 e1 (fun v hv => by
        obtain ⟨z, _, rfl⟩ := List.mem_map.1 hv
        exact ⟨rfl, rfl⟩)
      rw [List.map_map] at this
      exact this
    · split at hb
      · rename_i h; subst h; cases hb
        exact ro_br (lt _ _ h2) h2 e2 (fun v hv => by
          rw [List.mem_singleton] at hv
          subst hv
          exact ⟨rfl, rfl⟩)
      · cases hb
  · unfold varsS at hb
    split at hb
    · cases hb; cases hr
    · split at hb
      · cases hb; cases hr
      · cases hb
/-- For a law that reads variables: it answers true. -/
theorem PCalls.lawS {P : Program} {f : FuncId} {args : List PV} {S : St} (h : PCalls P f args S fun r s' => s' = S ∧ r = .ret (.lit (.bool true))) (he : enters P f = true) {w : World} {vs : Array Value} (hS : Holds (g0 w) S w) (hA : Args w (g0 w) args vs) :
    Calls P f vs w fun e w' => e = .returned (.bool true) ∧ Below w.heap.size w w' := by
  rcases h with h | h
  · refine (h.2 (g0 w) w vs hS hA).mono fun e w' ⟨res, s', g', h1, h2, h3, h4⟩ => ?_
    obtain ⟨_, rfl⟩ := h4
    cases h3 with
    | ret p v hv => obtain ⟨rfl, _⟩ := hv.lit_inv; exact ⟨rfl, ⟨h1.os, h1.tape, h1.output, h1.size, fun k hk => h1.block k hk⟩⟩
  · obtain ⟨p, v, s', g', w', h1, _⟩ := h (g0 w) w vs hS hA
    rw [run_enters he] at h1
    cases h1
/-- What the row gives: the variables. -/
theorem start_of {W : World} (hL : laidMetH Tryd.prog [("unicode.White_Space", Go.Proofs.YtkdimfmnialabaaDoor.Rows.laid_unicode_White_Space), ("strings.asciiSpace", Go.Proofs.YtkdimfmnialabaaDoor.Rows.laid_strings_asciiSpace)] W) (hsh : W.ShapedOpen Tryd.prog) : ∃ m, Holds (g0 W) (varsS m) W := by
  rw [MakeChecks.laidMetH_plain _ _ _ (by kernel_rfl)] at hL
  obtain ⟨g, t, cs, fuel, p, hg, hty, hvar, hd⟩ := Lib.laidMet.reads hL (n := "strings.asciiSpace") (List.mem_cons_of_mem _ (List.mem_singleton.2 rfl))
  obtain rfl := Option.some.inj ((show Tryd.prog.globalNamed "strings.asciiSpace" = some 0 by kernel_rfl).symm.trans hg)
  obtain rfl := Option.some.inj ((show (Tryd.prog.globals[0]?).map (·.type) = some 80 by kernel_rfl).symm.trans hty)
  rw [show (Go.Proofs.YtkdimfmnialabaaDoor.Rows.laid_strings_asciiSpace : DataW Unit) = Lib.tabData .u8 Lib.asciiSpaceTab by kernel_rfl] at hd
  have hcs := Lib.cells_of_tab (n := 256) Tryd.underlying80 Tryd.underlying5 (by kernel_rfl) (by kernel_rfl) hd
  unfold World.var? at hvar
  rw [hg] at hvar
  simp only [Option.bind_some] at hvar
  split at hvar
  · rename_i a1 t1 f1 h1
    cases hvar
    obtain ⟨m, hm⟩ := cell_of_shapedOpen_int (zero := #[.int .i64 0]) (g := 2) (t := 3) hsh (of_decide_eq_true (by kernel_rfl)) (by kernel_rfl) rfl (by kernel_rfl) (by kernel_rfl) Tryd.underlying3
    obtain ⟨a2, h2, hs2, _⟩ := hsh.1 2 #[.int .i64 0] 3 (of_decide_eq_true (by kernel_rfl)) (by kernel_rfl)
    refine ⟨m, holdsV h1 hcs h2 ?_⟩
    simp only [World.cell?, h2] at hm
    have hs : a2.size = 1 := hs2
    obtain ⟨l⟩ := a2
    match l, hs with
    | [x], _ => simp at hm; rw [hm]
  · cases hvar
end Go.Pv

/- Numbers that come in. -/
namespace Go.Pv
open Go.Proofs Go.RowKit Go.ChangeShapes Go.WideShapes
set_option linter.unusedVariables false
set_option linter.unusedSimpArgs false
set_option maxRecDepth 100000
def I64 (n : Int) : Prop := -9223372036854775808 ≤ n ∧ n ≤ 9223372036854775807
theorem wf_i64 {n : Int} (h : (Lit.int .i64 n).wf = true) : I64 n := by
  simp only [Lit.wf, Bool.and_eq_true, decide_eq_true_eq] at h
  have h1 : IntKind.i64.min = -9223372036854775808 := by decide
  have h2 : IntKind.i64.max = 9223372036854775807 := by decide
  rw [h1, h2] at h
  exact h
section
variable {H : Type} {enc' : TypeId × Value → H} {w : World} {base : Nat} {spare : Nat → Bool} {held : Bool}
theorem open_numsP {W : World} {v : Value} {d : DataW H} {p : List MemPlace} (hv : Value.okWide Tryd.prog W .any base 22 v) (h : DataW.Trod enc' Tryd.prog w 0 spare held 22 v d p) :
    ∃ l : List Int, VR w (g0 w) (ints .any l) v ∧ l.length ≤ 2 ^ 63 - 1 ∧ ∀ y ∈ l, I64 y := by
  obtain ⟨a, len, cap, rfl⟩ := okWide_slice Tryd.underlying22 hv
  obtain ⟨fuel, hf⟩ := h
  obtain ⟨u, l, hcs, hv', _, hl, hG⟩ := rows_cr (sz := 1) (fun n : Int => PV.lit (.int .i64 n)) I64 (fun x => rfl) Tryd.underlying22 (by kernel_rfl) (fun m hm cs x h => by
    obtain ⟨n, rfl, hv, hw⟩ := int_cr Tryd.underlying3 h
    exact ⟨n, CRd.one rfl hv rfl, wf_i64 hw⟩) hf
  have he : Value.slice a len cap = u := by simpa [Value.cells] using hcs
  rw [he]
  exact ⟨l, hv', hl, hG⟩
end
end Go.Pv
