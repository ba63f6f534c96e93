/- Several texts, one behind the other. -/
import Derived.Test.YtkdimfmnialabaaGreatDoorK4
import Derived.RecoverIn
import Derived.Test.YtkdimfmnialabaaGreatDoorK3
import Derived.Test.YtkdimfmnialabaaGreatDoorK2
import Derived.Test.YtkdimfmnialabaaGreatDoorK1
/- What cannot be read; levels. -/
namespace Go.Pv
open Go.Proofs
set_option linter.unusedVariables false
set_option linter.unusedSimpArgs false
set_option maxRecDepth 100000
set_option maxHeartbeats 4000000
section
variable {c : Cx} {p : NT → Nat → Out Nd} {s : St} {ir : Nat} {at_ n : Nat} {k : Int}
theorem rawF_le (hc : c.ok) : ∀ (m j o : Nat), j ≤ c.v.length → j ≤ c.rawF m j o ∧ c.rawF m j o ≤ c.v.length
  | 0, j, o, h => ⟨Nat.le_refl _, h⟩
  | m + 1, j, o, h => by
    unfold Cx.rawF
    by_cases h1 : c.v.length ≤ j
    · rw [if_pos h1]; omega
    rw [if_neg h1]
    have ih := fun o => rawF_le hc m (j + 1) o (by omega)
    have he : j + 1 ≤ c.eat (j + 1) ⟨#[59]⟩ ∧ c.eat (j + 1) ⟨#[59]⟩ ≤ c.v.length := by
      unfold Cx.eat
      cases hh : c.is (j + 1) ⟨#[59]⟩ with
      | true => have := hc.lt hh; simp only [cond_true]; omega
      | false => simp only [cond_false]; omega
    have i0 := ih o; have i1 := ih (o + 1); have i2 := ih (o - 1)
    repeat' split
    all_goals omega
theorem raw_c (hc : c.ok) (h0 : at_ ≤ c.v.length) : MC c 128 [] at_ (.ok (encU (c.rawN at_)) (c.rawE at_)) := by
  have hvl := hc.vl
  refine mc_of (D := []) Tryz.func128 rfl (by kernel_rfl) fun s ir k he hs => ?_
  refine sc_place hc he h0 rfl rfl rfl ?_
  refine sw_loop (D := [(3, ([0, 1, 2, 4, 5, 6, 3, 7, 8, 9], [], []))]) ti_ok (by kernel_rfl) (fun m env st b => ∃ (j o : Nat) (k : Int), j + m = c.v.length ∧ at_ ≤ j ∧ o ≤ j ∧ c.rawF (c.v.length - j) j o = c.rawE at_ ∧ env = [(0, rdV), (2, .av (.cell 1 0)), (3, intV (c.place at_ : Nat)), (4, intV (o : Nat))] ∧ st = [rdLoc c (j : Nat) k, zLoc] ∧ b = s.upd ir none) (c.v.length - at_) ⟨[0, 1], [0, 2, 3, 4], rfl, at_, 0, k, by omega, Nat.le_refl _, Nat.zero_le _, rfl, rfl, rfl, rfl⟩ ?_
  rintro m env st b ⟨j, o, k4, hj, haj, hoj, hx, rfl, rfl, rfl⟩
  refine ⟨by kernel_rfl, ?_⟩
  have fin : ∀ {e : Nat} {kN : Int}, e = c.rawE at_ → MR c s ir (.ok (encU (c.rawN at_)) (c.rawE at_)) (.ret (encU (c.nodeN 6 ⟨#[]⟩ (c.place at_) e []))) (s.upd ir (some (rdRow c (e : Nat) kN))) := fun {e kN} h => by subst h; exact ⟨kN, rfl, rfl⟩
  rintro (_ | _) ht
  · rw [List.length_map] at ht
    have hle : c.v.length ≤ j := by have := of_decide_eq_false ht; omega
    have hjE : j = c.rawE at_ := by
      rw [← hx, show c.v.length - j = 0 by omega]; rfl
    refine sc_node [] hc he (show j ≤ c.v.length by omega) rfl rfl rfl rfl fun kN => ?_
    exact rd_end hc (fin hjE)
  rw [List.length_map] at ht
  have hlt : j < c.v.length := by have := of_decide_eq_true ht; omega
  rw [show c.v.length - j = (c.v.length - (j + 1)) + 1 by omega, Cx.rawF, if_neg (show ¬ c.v.length ≤ j by omega)] at hx
  refine sc_tok hc he (show j ≤ c.v.length by omega) rfl rfl rfl ?_
  have hinc := inc (show j ≤ 1000000000 by omega)
  rintro (_ | _) hk
  · have hk : c.kind j ≠ 6 := of_decide_eq_false hk
    rw [if_pos hk] at hx
    exact ⟨m - 1, by omega, [0, 1], [0, 2, 3, 4], rfl, j + 1, o, k4, by omega, by omega, by omega, hx, rfl, by rw [← hinc]; rfl, rfl⟩
  have hk : c.kind j = 6 := of_decide_eq_true hk
  rw [if_neg (fun h => h hk)] at hx
  have hdec : max (IntKind.i64.wrap ((o : Int) - 1)) 0 = ((o - 1 : Nat) : Int) := by
    rcases Nat.eq_zero_or_pos o with h | h
    · subst h; decide
    · rw [wrapN (by omega) (by omega)]; omega
  rintro (_ | _) a1
  rotate_left
  · have a1 : c.text j = ⟨#[40]⟩ := of_decide_eq_true a1
    rw [if_pos (.inl a1)] at hx
    refine ⟨m - 1, by omega, [0, 1], [0, 2, 3, 4], rfl, j + 1, o + 1, k4, by omega, by omega, by omega, hx, ?_, by rw [← hinc]; rfl, rfl⟩
    rw [← inc (show o ≤ 1000000000 by omega)]; rfl
  have a1 : c.text j ≠ ⟨#[40]⟩ := of_decide_eq_false a1
  rintro (_ | _) a2
  rotate_left
  · have a2 : c.text j = ⟨#[91]⟩ := of_decide_eq_true a2
    rw [if_pos (.inr (.inl a2))] at hx
    refine ⟨m - 1, by omega, [0, 1], [0, 2, 3, 4], rfl, j + 1, o + 1, k4, by omega, by omega, by omega, hx, ?_, by rw [← hinc]; rfl, rfl⟩
    rw [← inc (show o ≤ 1000000000 by omega)]; rfl
  have a2 : c.text j ≠ ⟨#[91]⟩ := of_decide_eq_false a2
  rintro (_ | _) a3
  rotate_left
  · have a3 : c.text j = ⟨#[123]⟩ := of_decide_eq_true a3
    rw [if_pos (.inr (.inr a3))] at hx
    refine ⟨m - 1, by omega, [0, 1], [0, 2, 3, 4], rfl, j + 1, o + 1, k4, by omega, by omega, by omega, hx, ?_, by rw [← hinc]; rfl, rfl⟩
    rw [← inc (show o ≤ 1000000000 by omega)]; rfl
  have a3 : c.text j ≠ ⟨#[123]⟩ := of_decide_eq_false a3
  rw [if_neg (fun h => h.elim a1 fun h => h.elim a2 a3)] at hx
  rintro (_ | _) b1
  rotate_left
  · have b1 : c.text j = ⟨#[41]⟩ := of_decide_eq_true b1
    rw [if_pos (.inl b1)] at hx
    refine ⟨m - 1, by omega, [0, 1], [0, 2, 3, 4], rfl, j + 1, o - 1, k4, by omega, by omega, by omega, hx, ?_, by rw [← hinc]; rfl, rfl⟩
    rw [← hdec]; rfl
  have b1 : c.text j ≠ ⟨#[41]⟩ := of_decide_eq_false b1
  rintro (_ | _) b2
  rotate_left
  · have b2 : c.text j = ⟨#[93]⟩ := of_decide_eq_true b2
    rw [if_pos (.inr b2)] at hx
    refine ⟨m - 1, by omega, [0, 1], [0, 2, 3, 4], rfl, j + 1, o - 1, k4, by omega, by omega, by omega, hx, ?_, by rw [← hinc]; rfl, rfl⟩
    rw [← hdec]; rfl
  have b2 : c.text j ≠ ⟨#[93]⟩ := of_decide_eq_false b2
  rw [if_neg (fun h => h.elim b1 b2)] at hx
  rintro (_ | _) c1
  rotate_left
  · have c1 : c.text j = ⟨#[125]⟩ := of_decide_eq_true c1
    rw [if_pos c1] at hx
    rintro (_ | _) z
    · have z := of_decide_eq_false z
      rw [hdec] at z
      rw [if_neg (fun h => z (by omega))] at hx
      refine ⟨m - 1, by omega, [0, 1], [0, 2, 3, 4], rfl, j + 1, o - 1, k4, by omega, by omega, by omega, hx, ?_, by rw [← hinc]; rfl, rfl⟩
      rw [← hdec]; rfl
    · have z := of_decide_eq_true z
      rw [hdec] at z
      rw [if_pos (show o - 1 = 0 by omega)] at hx
      unfold Cx.eat at hx
      refine sc_eat hc he (show j + 1 ≤ c.v.length by omega) rfl rfl hinc (fun h2 lt2 k2 => ?_) (fun h2 k2 => ?_)
      · rw [h2] at hx
        refine sc_node [] hc he (show j + 1 + 1 ≤ c.v.length by omega) rfl rfl rfl rfl fun kN => ?_
        exact rd_end hc (fin hx)
      · rw [h2] at hx
        refine sc_node [] hc he (show j + 1 ≤ c.v.length by omega) rfl rfl rfl rfl fun kN => ?_
        exact rd_end hc (fin hx)
  have c1 : c.text j ≠ ⟨#[125]⟩ := of_decide_eq_false c1
  rw [if_neg c1] at hx
  rintro (_ | _) d1
  · have d1 : c.text j ≠ ⟨#[59]⟩ := of_decide_eq_false d1
    rw [if_neg d1] at hx
    exact ⟨m - 1, by omega, [0, 1], [0, 2, 3, 4], rfl, j + 1, o, k4, by omega, by omega, by omega, hx, rfl, by rw [← hinc]; rfl, rfl⟩
  have d1 : c.text j = ⟨#[59]⟩ := of_decide_eq_true d1
  rw [if_pos d1] at hx
  rintro (_ | _) z
  · have z := of_decide_eq_false z
    rw [if_neg (fun h => z (by omega))] at hx
    exact ⟨m - 1, by omega, [0, 1], [0, 2, 3, 4], rfl, j + 1, o, k4, by omega, by omega, by omega, hx, rfl, by rw [← hinc]; rfl, rfl⟩
  · have z := of_decide_eq_true z
    rw [if_pos (show o = 0 by omega)] at hx
    refine sc_node [] hc he (show j + 1 ≤ c.v.length by omega) rfl rfl hinc rfl fun kN => ?_
    exact rd_end hc (fin hx)
end
end Go.Pv

/- How large a tree is that is read: two nodes a token at most. -/
namespace Go.Pv
open Go.Proofs
set_option linter.unusedVariables false
set_option linter.unusedSimpArgs false
set_option maxRecDepth 100000
set_option maxHeartbeats 4000000
def szL (l : List Nd) : Nat := (l.map Nd.size).sum
@[simp] theorem szL_nil : szL [] = 0 := rfl
@[simp] theorem szL_cons (x : Nd) (l : List Nd) : szL (x :: l) = x.size + szL l := by simp [szL]
@[simp] theorem szL_app (l m : List Nd) : szL (l ++ m) = szL l + szL m := by simp [szL, List.sum_append]
theorem Nd.size_l (x : Nd) : x.size = 1 + szL x.l := x.size_eq
@[simp] theorem nodeN_size (c : Cx) (op : Int) (u : ByteArray) (fr i : Nat) (l : List Nd) : (c.nodeN op u fr i l).size = 1 + szL l := Nd.size_l _
@[simp] theorem listN_l (l : List Nd) : (Cx.listN l).l = l := rfl
@[simp] theorem partN_size (c : Cx) (op : Int) (fr i : Nat) (l : List Nd) : (c.partN op fr i l).size = 1 + szL l := by
  cases l with
  | nil => exact Nd.size_l _
  | cons x l => exact Nd.size_l _
/-- What holds of a value and the place behind it. -/
def OP {α : Type} (o : Out α) (R : α → Nat → Prop) : Prop := ∀ x j, o = .ok x j → R x j
section
variable {α β : Type}
theorem OP.bad {R : α → Nat → Prop} : OP (.bad : Out α) R := fun x j h => by cases h
theorem OP.fuel {R : α → Nat → Prop} : OP (.fuel : Out α) R := fun x j h => by cases h
theorem OP.ok {R : α → Nat → Prop} {a : α} {i : Nat} (h : R a i) : OP (.ok a i) R := fun x j hx => by cases hx; exact h
theorem OP.bind {o : Out α} {f : α → Nat → Out β} {R : α → Nat → Prop} {S : β → Nat → Prop} (h : OP o R) (hf : ∀ x j, R x j → OP (f x j) S) : OP (o.bind f) S := by
  cases o with
  | fuel => exact .fuel
  | bad => exact .bad
  | ok a k => exact hf a k (h a k rfl)
theorem OP.ite {P : Prop} [Decidable P] {a b : Out α} {R : α → Nat → Prop} (h1 : P → OP a R) (h2 : ¬P → OP b R) : OP (if P then a else b) R := by
  by_cases h : P
  · rw [if_pos h]; exact h1 h
  · rw [if_neg h]; exact h2 h
theorem OP.want {c : Cx} (hc : c.ok) {u : ByteArray} {j : Nat} {f : Nat → Out α} {R : α → Nat → Prop} (hf : j < c.v.length → OP (f (j + 1)) R) : OP (c.want j u f) R := .ite (fun h => hf (hc.lt h)) fun _ => .bad
theorem OP.mono {o : Out α} {R S : α → Nat → Prop} (h : OP o R) (hs : ∀ x j, R x j → S x j) : OP o S := fun x j hx => hs x j (h x j hx)
end
/-- What counts of an answer; what is allowed besides the tokens. -/
def wOf (Y : NT) (x : Nd) : Nat := match Y with
  | .sizes => szL x.l
  | .dclrs _ => szL x.l
  | .args _ _ => x.size + 1
  | .used _ => x.size + 1
  | _ => x.size
def exOf : NT → Nat
  | .args f _ => f.size
  | .marked => 1
  | .initial => 1
  | _ => 0
def PZ (c : Cx) (p : NT → Nat → Out Nd) : Prop := ∀ Y i, i ≤ c.v.length → OP (p Y i) fun x j => i ≤ j ∧ j ≤ c.v.length ∧ wOf Y x ≤ 2 * (j - i) + exOf Y
section
variable {c : Cx} {p : NT → Nat → Out Nd} {n : Nat}
theorem PZ.at (hz : PZ c p) (Y : NT) {i : Nat} (hi : i ≤ c.v.length) : OP (p Y i) fun x j => i ≤ j ∧ j ≤ c.v.length ∧ wOf Y x ≤ 2 * (j - i) + exOf Y := hz Y i hi
theorem kind_lt (hc : c.ok) {i : Nat} {q : Int} (h : c.kind i = q) (hq : q ≠ 0) : i < c.v.length := hc.ltk (at_ := i) (by rw [show (c.tk i).kind = q from h]; exact hq)
theorem type_sz (hc : c.ok) {i : Nat} (hi : i ≤ c.v.length) (m : Nm) : OP (c.starred m i) (fun x j => i < j ∧ j ≤ c.v.length ∧ x.size = 1 ∧ x.l = []) ∧ OP (c.simple m i) (fun x j => i < j ∧ j ≤ c.v.length ∧ x.size = 1 ∧ x.l = []) := by
  have hb : OP (c.base m i) fun u j => i < j ∧ j ≤ c.v.length := by
    have h1 := quals_le (c := c) hi
    unfold Cx.base
    simp only
    refine .ite (fun h => .ite (fun h2 => ?_) fun _ => .bad) fun _ => .ite (fun h => ?_) fun _ => .ite (fun h => ?_) fun _ => .bad
    · have := kind_lt hc h2 (by decide)
      have := quals_le (c := c) (show c.quals i + 2 ≤ c.v.length by omega)
      exact .ok (by omega)
    · have h3 := among_lt hc h
      have h4 : c.quals i < (c.words basesL (c.quals i)).2 := by
        unfold Cx.words
        rw [wordsF_go hc h]
        have := words_le hc basesL (c.v.length - (c.quals i + 1)) (c.quals i + 1) ((if (⟨#[]⟩ : ByteArray) = ⟨#[]⟩ then ⟨#[]⟩ else (⟨#[]⟩ : ByteArray) ++ blank) ++ c.text (c.quals i)) h3
        omega
      have h5 := words_le hc basesL (c.v.length - c.quals i) (c.quals i) ⟨#[]⟩ h1.2
      have h5' : (c.words basesL (c.quals i)).2 ≤ c.v.length := h5.2
      have := quals_le (c := c) h5'
      exact .ok (by omega)
    · have := kind_lt hc h.1 (by decide)
      have := quals_le (c := c) (show c.quals i + 1 ≤ c.v.length by omega)
      exact .ok (by omega)
  constructor
  · unfold Cx.starred
    refine .bind hb fun u j hj => .ok ?_
    have := stars_le hc (c.v.length - j) j 0 hj.2
    have h2 : (c.stars j).2 = (c.starsF (c.v.length - j) j 0).2 := rfl
    exact ⟨by omega, by omega, Nd.size_l _, rfl⟩
  · unfold Cx.simple
    exact .bind hb fun u j hj => .ok ⟨hj.1, hj.2, Nd.size_l _, rfl⟩
theorem commas_sz (hc : c.ok) {q : Nat → Out Nd} {e : Nat} (hq : ∀ j, j ≤ c.v.length → OP (q j) fun x k => j ≤ k ∧ k ≤ c.v.length ∧ x.size ≤ 2 * (k - j)) : ∀ (m : Nat) (L : List Nd) (j : Nat), j ≤ c.v.length → OP (c.commas q m L j) fun l k => (j < k ∧ k ≤ c.v.length ∧ szL l + 2 ≤ szL L + 2 * (k - j)) ∨ (k = j ∧ l = L ∧ c.is j ⟨#[44]⟩ ≠ true)
  | 0, L, j, hj => .fuel
  | m + 1, L, j, hj => by
    unfold Cx.commas
    refine .ite (fun h => ?_) fun h => .ok (.inr ⟨rfl, rfl, h⟩)
    have hlt := hc.lt h
    refine .bind (hq (j + 1) hlt) fun x k hk => (commas_sz hc (e := e) hq m _ k hk.2.1).mono fun l k2 h2 => .inl ?_
    rcases h2 with h2 | ⟨rfl, rfl, _⟩
    · simp at h2; omega
    · simp; omega
theorem first_lt (hc : c.ok) {l : List ByteArray} {j : Nat} {u : ByteArray} (h : c.first l j = some u) : j < c.v.length := hc.lt (first_is h)
theorem step_sz (hc : c.ok) (hz : PZ c p) : PZ c (c.step p n) := by
  have E : ∀ Y, wOf Y = Nd.size → exOf Y = 0 → ∀ {j}, j ≤ c.v.length → OP (p Y j) fun x k => j ≤ k ∧ k ≤ c.v.length ∧ x.size ≤ 2 * (k - j) := fun Y h1 h2 j hj => (hz.at Y hj).mono fun x k h => by rw [h1, h2] at h; omega
  intro Y i hi
  have fin : ∀ {o : Out Nd}, wOf Y = Nd.size → exOf Y = 0 → (OP o fun x j => i ≤ j ∧ j ≤ c.v.length ∧ x.size ≤ 2 * (j - i)) → OP o fun x j => i ≤ j ∧ j ≤ c.v.length ∧ wOf Y x ≤ 2 * (j - i) + exOf Y := fun h1 h2 h => h.mono fun x j hx => by rw [h1, h2]; omega
  cases Y with
  | expr =>
    refine fin rfl rfl (.bind (E .assign rfl rfl hi) fun x j hx => .ite (fun h => ?_) fun _ => .ok hx)
    refine .bind (commas_sz hc (e := 0) (fun j hj => E .assign rfl rfl hj) n [x] j hx.2.1) fun l k hk => ?_
    rcases hk with hk | ⟨rfl, rfl, h2⟩
    · exact .ok (by simp at hk ⊢; omega)
    · exact absurd h h2
  | assign =>
    refine fin rfl rfl (.bind (E .choice rfl rfl hi) fun x j hx => ?_)
    split
    · rename_i u hu
      have := first_lt hc hu
      exact .bind (E .assign rfl rfl (show j + 1 ≤ c.v.length by omega)) fun y k hk => .ok (by simp; omega)
    · exact .ok hx
  | choice =>
    refine fin rfl rfl (.bind (E (.binary 0) rfl rfl hi) fun x j hx => .ite (fun h => ?_) fun _ => .ok hx)
    have := hc.lt h
    exact .bind (E .expr rfl rfl (show j + 1 ≤ c.v.length by omega)) fun y k hk => .want hc fun h2 => .bind (E .choice rfl rfl (show k + 1 ≤ c.v.length by omega)) fun z q hq => .ok (by simp; omega)
  | binary k =>
    have key : ∀ (m : Nat) (x : Nd) (j : Nat), i ≤ j → j ≤ c.v.length → x.size ≤ 2 * (j - i) → OP (c.binF p k (c.place i) m x j) fun x j => i ≤ j ∧ j ≤ c.v.length ∧ x.size ≤ 2 * (j - i) := by
      intro m
      induction m with
      | zero => intro x j _ _ _; exact .fuel
      | succ m ih =>
        intro x j h1 h2 h3
        unfold Cx.binF
        split
        · exact .ok ⟨h1, h2, h3⟩
        · rename_i u hu
          have := first_lt hc hu
          exact .bind (E (.binary (k + 1)) rfl rfl (show j + 1 ≤ c.v.length by omega)) fun y q hq => ih _ _ (by omega) (by omega) (by simp; omega)
    refine fin rfl rfl (.ite (fun h => E .cast rfl rfl hi) fun _ => .bind (E (.binary (k + 1)) rfl rfl hi) fun x j hx => key n x j hx.1 hx.2.1 hx.2.2)
  | cast =>
    refine fin rfl rfl (.ite (fun h => ?_) fun _ => E .unary rfl rfl hi)
    have := ahead_lt hc h
    exact .bind (type_sz hc (show i + 1 ≤ c.v.length by omega) .casted).1 fun t j ht => .want hc fun h2 => .bind (E .cast rfl rfl (show j + 1 ≤ c.v.length by omega)) fun x q hq => .ok (by simp; omega)
  | unary =>
    refine fin rfl rfl (.ite (fun h => ?_) fun _ => ?_)
    · have := hc.lt h
      refine .ite (fun h => ?_) fun _ => .bind (E .unary rfl rfl (show i + 1 ≤ c.v.length by omega)) fun x j hx => .ok (by simp; omega)
      have := ahead_lt hc h
      exact .bind (type_sz hc (show i + 2 ≤ c.v.length by omega) .casted).1 fun t j ht => .want hc fun h2 => .ok (by simp; omega)
    · split
      · rename_i u hu
        have := first_lt hc hu
        exact .bind (E .cast rfl rfl (show i + 1 ≤ c.v.length by omega)) fun x j hx => .ok (by simp; omega)
      · exact E .post rfl rfl hi
  | post =>
    have key : ∀ (m : Nat) (x : Nd) (j : Nat), i ≤ j → j ≤ c.v.length → x.size ≤ 2 * (j - i) → OP (c.postF p (c.place i) m x j) fun x j => i ≤ j ∧ j ≤ c.v.length ∧ x.size ≤ 2 * (j - i) := by
      intro m
      induction m with
      | zero => intro x j _ _ _; exact .fuel
      | succ m ih =>
        intro x j h1 h2 h3
        unfold Cx.postF
        refine .ite (fun h => .bind (hz.at (.args x (c.place i)) h2) fun y q hq => ih _ _ (by omega) (by omega) (by simp only [wOf, exOf] at hq; omega)) fun _ => .ite (fun h => ?_) fun _ => .ite (fun h => .ite (fun h4 => ?_) fun _ => .bad) fun _ => .ite (fun h => ?_) fun _ => .ok ⟨h1, h2, h3⟩
        · have := hc.lt h
          exact .bind (E .expr rfl rfl (show j + 1 ≤ c.v.length by omega)) fun y q hq => .want hc fun h5 => ih _ _ (by omega) (by omega) (by simp; omega)
        · have := kind_lt hc h4 (by decide)
          exact ih _ _ (by omega) (by omega) (by simp; omega)
        · have := among_lt hc h
          exact ih _ _ (by omega) (by omega) (by simp; omega)
    exact fin rfl rfl (.bind (E .primary rfl rfl hi) fun x j hx => key n x j hx.1 hx.2.1 hx.2.2)
  | primary =>
    refine fin rfl rfl (.ite (fun h => ?_) fun _ => .ite (fun h => ?_) fun _ => .ite (fun h => ?_) fun _ => .ite (fun h => ?_) fun _ => .want hc fun h1 => .bind (E .expr rfl rfl (show i + 1 ≤ c.v.length by omega)) fun x j hx => .want hc fun h2 => .ok (by simp; omega))
    · have := kind_lt hc h (by decide); exact .ok (by simp; omega)
    · have := kind_lt hc h (by decide); exact .ok (by simp; omega)
    · have := kind_lt hc h (by decide); exact .ok (by simp; omega)
    · have := kind_lt hc h (by decide)
      have := strs_le hc (c.v.length - (i + 1)) (i + 1) (c.text i) (by omega)
      exact .ok (by simp; omega)
  | value =>
    have key : ∀ (m : Nat) (L : List Nd) (j : Nat), j ≤ c.v.length → OP (c.valueF p m L j) fun l k => j ≤ k ∧ k ≤ c.v.length ∧ szL l ≤ szL L + 2 * (k - j) := by
      intro m
      induction m with
      | zero => intro L j _; exact .fuel
      | succ m ih =>
        intro L j hj
        unfold Cx.valueF
        refine .ite (fun h => .ok (by omega)) fun _ => .bind (E .value rfl rfl hj) fun x k hk => .ite (fun h => ?_) fun _ => .ok (by simp; omega)
        have := hc.lt h
        exact (ih (L ++ [x]) (k + 1) this).mono fun l q hq => by simp at hq; omega
    refine fin rfl rfl (.ite (fun h => ?_) fun _ => E .assign rfl rfl hi)
    have := hc.lt h
    exact .bind (key n [] (i + 1) this) fun l j hl => .want hc fun h2 => .ok (by simp at hl ⊢; omega)
  | initial => exact .bind (E .value rfl rfl hi) fun x j hx => .ok (by simp [wOf, exOf]; omega)
  | sizes =>
    have key : ∀ (m : Nat) (L : List Nd) (j : Nat), j ≤ c.v.length → OP (c.sizesF p m L j) fun l k => j ≤ k ∧ k ≤ c.v.length ∧ szL l ≤ szL L + 2 * (k - j) := by
      intro m
      induction m with
      | zero => intro L j _; exact .fuel
      | succ m ih =>
        intro L j hj
        unfold Cx.sizesF
        refine .ite (fun h => ?_) fun _ => .ok (by omega)
        have hlt := hc.lt h
        refine .bind (R := fun l k => j + 1 ≤ k ∧ k ≤ c.v.length ∧ szL l ≤ 2 * (k - (j + 1))) (.ite (fun h => .ok ⟨Nat.le_refl _, hlt, by simp⟩) fun _ => .bind (E .expr rfl rfl (show j + 1 ≤ c.v.length by omega)) fun x k hk => .ok (by simp; omega)) fun l k hk => .want hc fun h2 => (ih _ (k + 1) (by omega)).mono fun l2 q hq => ?_
        simp at hq
        omega
    exact .bind (key n [] i hi) fun l j hl => .ok (by simp [wOf, exOf] at hl ⊢; omega)
  | args f fr =>
    show OP (c.argsS p n f fr i) _
    unfold Cx.argsS
    refine .want hc fun h1 => .bind (R := fun l k => i + 1 ≤ k ∧ k ≤ c.v.length ∧ szL l ≤ f.size + 2 * (k - (i + 1))) (.ite (fun h => .ok ⟨Nat.le_refl _, h1, by simp⟩) fun _ => .bind (E .assign rfl rfl (show i + 1 ≤ c.v.length by omega)) fun x j hx => (commas_sz hc (e := 0) (fun j hj => E .assign rfl rfl hj) n [f, x] j hx.2.1).mono fun l k hk => ?_) fun l k hk => .want hc fun h2 => .ok (by simp [wOf, exOf]; omega)
    rcases hk with hk | ⟨rfl, rfl, _⟩
    · simp at hk; omega
    · simp; omega
  | dclr b =>
    refine fin rfl rfl ?_
    show OP (c.dclrS p b i) _
    unfold Cx.dclrS
    simp only
    have h1 := skip_le (c := c) (q := fun j => c.is j ⟨#[42]⟩) hi
    generalize c.skip (fun j => c.is j ⟨#[42]⟩) i = q at *
    refine .ite (fun hk => ?_) fun _ => .bad
    have hlt := kind_lt hc hk (by decide)
    refine .bind (hz.at .sizes (show q + 1 ≤ c.v.length by omega)) fun l j hl => ?_
    simp only [wOf, exOf] at hl
    refine .bind (R := fun l k => q + 1 ≤ k ∧ k ≤ c.v.length ∧ szL l ≤ 2 * (k - (q + 1))) (.ite (fun h => ?_) fun _ => .ok (by omega)) fun l k hk => .ok (by rw [Nd.size_l]; show i ≤ k ∧ _ ∧ 1 + szL l ≤ _; omega)
    have := hc.lt h.2
    refine .bind (hz.at .initial (show j + 1 ≤ c.v.length by omega)) fun x k hk => .ok ?_
    simp only [wOf, exOf] at hk
    simp
    omega
  | dclrs b =>
    refine .bind (E (.dclr b) rfl rfl hi) fun x j hx => .bind (commas_sz hc (e := 0) (fun j hj => E (.dclr b) rfl rfl hj) n [x] j hx.2.1) fun l k hk => .want hc fun h2 => .ok ?_
    simp only [wOf, exOf, listN_l]
    rcases hk with hk | ⟨rfl, rfl, _⟩
    · simp at hk; omega
    · simp; omega
  | decl m =>
    have h1 := words_le hc wordsL (c.v.length - i) i ⟨#[]⟩ hi
    have h1' : i ≤ (c.words wordsL i).2 ∧ (c.words wordsL i).2 ≤ c.v.length := h1
    refine fin rfl rfl (.bind (type_sz hc h1'.2 m).2 fun t j ht => .bind (hz.at (.dclrs true) ht.2.1) fun l k hk => .ok ?_)
    simp only [wOf, exOf] at hk
    have := ht.2.2.1
    simp
    omega
  | stat =>
    have one : ∀ {u : ByteArray}, c.is i u = true → i + 1 ≤ c.v.length := fun h => hc.lt h
    refine fin rfl rfl ?_
    show OP (c.statS p i) _
    unfold Cx.statS
    have M : ∀ {j}, j ≤ c.v.length → OP (p .marked j) fun x k => j ≤ k ∧ k ≤ c.v.length ∧ x.size ≤ 2 * (k - j) + 1 := fun hj => hz.at .marked hj
    refine .ite (fun h => ?_) fun _ => .ite (fun h => ?_) fun _ => .ite (fun h => E .block rfl rfl hi) fun _ => .ite (fun h => .ok (by have := one h; simp; omega)) fun _ => .ite (fun h => ?_) fun _ => .ite (fun h => ?_) fun _ => .ite (fun h => ?_) fun _ => .ite (fun h => ?_) fun _ => .ite (fun h => (E (.loop (c.place i)) rfl rfl (one h)).mono fun x j hx => by omega) fun _ => .ite (fun h => ?_) fun _ => .ite (fun h => ?_) fun _ => .ite (fun h => ?_) fun _ => .ite (fun h => ?_) fun _ => E (.other (c.place i)) rfl rfl hi
    · have := kind_lt hc h.1 (by decide); exact .want hc fun h1 => .ok (by simp; omega)
    · have := kind_lt hc h.1 (by decide); exact .want hc fun h1 => .ok (by simp; omega)
    · exact .bind (E .nested rfl rfl (one h)) fun x j hx => .bind (E .stat rfl rfl hx.2.1) fun y k hy => .ite (fun h2 => .bind (E .stat rfl rfl (show k + 1 ≤ c.v.length from hc.lt h2)) fun z q hq => .ok (by simp; omega)) fun _ => .ok (by simp; omega)
    · exact .bind (E .nested rfl rfl (one h)) fun x j hx => .bind (E .stat rfl rfl hx.2.1) fun y k hy => .ok (by simp; omega)
    · exact .bind (E .nested rfl rfl (one h)) fun x j hx => .bind (E .stat rfl rfl hx.2.1) fun y k hy => .ok (by simp; omega)
    · exact .bind (E .stat rfl rfl (one h)) fun x j hx => .want hc fun h1 => .bind (E .nested rfl rfl (show j + 1 ≤ c.v.length by omega)) fun y k hy => .want hc fun h2 => .ok (by simp; omega)
    · exact .bind (E .expr rfl rfl (one h)) fun x j hx => .want hc fun h1 => .bind (M (show j + 1 ≤ c.v.length by omega)) fun y k hy => .ok (by simp; omega)
    · exact .want hc fun h1 => .bind (M (show i + 1 + 1 ≤ c.v.length by omega)) fun y k hy => .ok (by simp; omega)
    · exact .ite (fun h2 => .want hc fun h3 => .ok (by simp; omega)) fun _ => .bad
    · exact .bind (R := fun l k => i + 1 ≤ k ∧ k ≤ c.v.length ∧ szL l ≤ 2 * (k - (i + 1))) (.ite (fun h2 => .ok ⟨Nat.le_refl _, one h, by simp⟩) fun _ => .bind (E .expr rfl rfl (one h)) fun x k hk => .ok (by simp; omega)) fun l k hk => .want hc fun h2 => .ok (by simp; omega)
  | block =>
    have key : ∀ (m : Nat) (L : List Nd) (j : Nat), j ≤ c.v.length → OP (c.blockF p m L j) fun l k => j ≤ k ∧ k ≤ c.v.length ∧ szL l ≤ szL L + 2 * (k - j) := by
      intro m
      induction m with
      | zero => intro L j _; exact .fuel
      | succ m ih =>
        intro L j hj
        unfold Cx.blockF
        refine .ite (fun h => .ok (by omega)) fun _ => .bind (E .stat rfl rfl hj) fun x k hk => (ih _ k hk.2.1).mono fun l q hq => by simp at hq; omega
    refine fin rfl rfl ?_
    show OP (c.blockS p n i) _
    unfold Cx.blockS
    exact .want hc fun h1 => .bind (key n [] (i + 1) h1) fun l j hl => .want hc fun h2 => .ok (by simp at hl ⊢; omega)
  | other fr =>
    refine fin rfl rfl ?_
    show OP (c.otherS p fr i) _
    unfold Cx.otherS
    refine .ite (fun h => ?_) fun _ => .ite (fun h => ?_) fun _ => .ite (fun h => ?_) fun _ => .ite (fun h => E (.decl .typed) rfl rfl hi) fun _ => .bind (E .expr rfl rfl hi) fun x j hx => .want hc fun h2 => .ok (by simp; omega)
    · have := sg_lt hc h.2
      refine .bind (hz.at .marked (show i + 2 ≤ c.v.length by omega)) fun x j hx => .ok ?_
      simp only [wOf, exOf] at hx
      simp; omega
    · refine .bind (hz.at (.used true) hi) fun x j hx => .bind (E .stat rfl rfl hx.2.1) fun y k hy => .ok ?_
      simp only [wOf, exOf] at hx
      simp; omega
    · refine .bind (hz.at (.used false) hi) fun x j hx => .ok ?_
      simp only [wOf, exOf] at hx
      simp; omega
  | loop fr =>
    refine fin rfl rfl ?_
    show OP (c.loopS p fr i) _
    unfold Cx.loopS
    have H : ∀ (u : ByteArray) {j}, j ≤ c.v.length → OP (c.perhaps p u j) fun l k => j ≤ k ∧ k ≤ c.v.length ∧ szL l ≤ 2 * (k - j) := fun u j hj => .ite (fun h => .ok (by simp; omega)) fun _ => .bind (E .expr rfl rfl hj) fun x k hk => .ok (by simp; omega)
    refine .want hc fun h1 => .bind (R := fun l k => i + 1 ≤ k ∧ k ≤ c.v.length ∧ szL l ≤ 1 + 2 * (k - (i + 1))) (.ite (fun h => .bind (E (.decl .typed) rfl rfl (show i + 1 ≤ c.v.length by omega)) fun d k hk => .ok (by simp; omega)) fun _ => .bind (H _ (show i + 1 ≤ c.v.length by omega)) fun l k hk => .want hc fun h2 => .ok (by simp; omega)) fun l j hl => .bind (H _ hl.2.1) fun t k hk => .want hc fun h2 => .bind (H _ (show k + 1 ≤ c.v.length by omega)) fun u q hq => .want hc fun h3 => .bind (E .stat rfl rfl (show q + 1 ≤ c.v.length by omega)) fun x m hm => .ok (by simp; omega)
  | marked =>
    refine .ite (fun h => .ok ?_) fun _ => (E .stat rfl rfl hi).mono fun x j hx => by simp [wOf, exOf]; omega
    simp [wOf, exOf, Nd.size_l]; omega
  | nested =>
    refine fin rfl rfl ?_
    show OP (c.nestedS p i) _
    unfold Cx.nestedS
    exact .want hc fun h1 => .bind (E .expr rfl rfl (show i + 1 ≤ c.v.length by omega)) fun x j hx => .want hc fun h2 => .ok (by omega)
  | used b =>
    show OP (c.usedS p b i) _
    unfold Cx.usedS
    refine .ite (fun h => .ite (fun h2 => ?_) fun _ => .ite (fun _ => .bad) fun _ => ?_) fun _ => .bad
    · have := hc.lt h2
      refine (hz.at (.args (c.nodeN 50 (c.text i) (c.place i) (i + 1) []) (c.place i)) (show i + 1 ≤ c.v.length by omega)).mono fun x j hx => ?_
      simp only [wOf, exOf] at hx ⊢
      simp at hx
      omega
    · have := kind_lt hc h (by decide)
      exact .ok (by simp [wOf, exOf]; omega)
theorem pz_run (hc : c.ok) : ∀ n, PZ c (c.run n)
  | 0 => fun Y i hi x j h => by cases h
  | n + 1 => step_sz hc (pz_run hc n)
/-! ### items -/
theorem typedef_sz (hc : c.ok) (hz : PZ c p) {i : Nat} (hi : i ≤ c.v.length) : OP (c.typedefS p i) fun x j => i < j ∧ j ≤ c.v.length ∧ x.size ≤ 2 * (j - i) ∧ x.op = 5 ∧ ∃ t y, x.l = [t, y] := by
  unfold Cx.typedefS
  refine .want hc fun h1 => .bind (type_sz hc (show i + 1 ≤ c.v.length by omega) .always).2 fun t j ht => .bind (hz.at (.dclr false) ht.2.1) fun x k hk => .want hc fun h2 => .ok ?_
  simp only [wOf, exOf] at hk
  have := ht.2.2.1
  exact ⟨by omega, by omega, by simp; omega, rfl, _, _, rfl⟩
theorem fields_sz (hc : c.ok) (hz : PZ c p) : ∀ (m : Nat) (L : List Nd) (j : Nat), j ≤ c.v.length → OP (c.fieldsF p m L j) fun l k => j ≤ k ∧ k ≤ c.v.length ∧ szL l ≤ szL L + 2 * (k - j)
  | 0, L, j, hj => .fuel
  | m + 1, L, j, hj => by
    unfold Cx.fieldsF
    refine .ite (fun h => .ok (by omega)) fun _ => .bind (type_sz hc hj .always).2 fun t k ht => .bind (hz.at (.dclrs false) ht.2.1) fun l q hq => ?_
    simp only [wOf, exOf] at hq
    have := ht.2.2.1
    refine (fields_sz hc hz m _ q hq.2.1).mono fun l2 r hr => ?_
    simp at hr
    omega
theorem struct_sz (hc : c.ok) (hz : PZ c p) {i : Nat} (hi : i ≤ c.v.length) : OP (c.structS p n i) fun x j => i < j ∧ j ≤ c.v.length ∧ x.size ≤ 2 * (j - i) ∧ x.op = 4 := by
  unfold Cx.structS
  refine .want hc fun h1 => .ite (fun hk => .want hc fun h2 => .bind (fields_sz hc hz n [] _ (by omega)) fun l k hk => .want hc fun h3 => .want hc fun h4 => .ok ?_) fun _ => .bad
  simp at hk
  exact ⟨by omega, by omega, by simp; omega, rfl⟩
theorem param_sz (hc : c.ok) (hz : PZ c p) {j : Nat} (hj : j ≤ c.v.length) : OP (c.paramS p j) fun x k => j < k ∧ k ≤ c.v.length ∧ x.size ≤ 2 * (k - j) := by
  unfold Cx.paramS
  refine .bind (type_sz hc hj .always).1 fun t k ht => .bind (R := fun ps q => k ≤ q ∧ q ≤ c.v.length ∧ (szL ps = 1 ∧ q = k ∨ k < q ∧ szL ps ≤ 2 * (q - k))) (.ite (fun hk => ?_) fun _ => .ok ⟨Nat.le_refl _, ht.2.1, .inl ⟨by simp [ht.2.2.1], rfl⟩⟩) fun ps q hq => .ok (by simp; omega)
  have := kind_lt hc hk (by decide)
  refine .bind (hz.at .sizes (show k + 1 ≤ c.v.length by omega)) fun l q hl => .ok ?_
  simp only [wOf, exOf] at hl
  have := ht.2.2.1
  exact ⟨by omega, by omega, .inr ⟨by omega, by simp; omega⟩⟩
theorem params_sz (hc : c.ok) (hz : PZ c p) : ∀ (m : Nat) (L : List Nd) (j : Nat), j ≤ c.v.length → OP (c.paramsF p m L j) fun l k => j ≤ k ∧ k ≤ c.v.length ∧ szL l ≤ szL L + 2 * (k - j)
  | 0, L, j, hj => .fuel
  | m + 1, L, j, hj => by
    unfold Cx.paramsF
    refine .ite (fun h => .ok (by have := hc.lt h.2; omega)) fun _ => .bind (param_sz hc hz hj) fun x k hk => .ite (fun h => ?_) fun _ => .ok (by simp; omega)
    have := hc.lt h
    refine (params_sz hc hz m _ (k + 1) this).mono fun l2 r hr => ?_
    simp at hr
    omega
theorem func_sz (hc : c.ok) (hz : PZ c p) {i : Nat} (hi : i ≤ c.v.length) : OP (c.funcS p n i) fun x j => i < j ∧ j ≤ c.v.length ∧ x.size ≤ 2 * (j - i) ∧ x.op = 2 := by
  have h1 := words_le hc wordsL (c.v.length - i) i ⟨#[]⟩ hi
  have h1' : i ≤ (c.words wordsL i).2 ∧ (c.words wordsL i).2 ≤ c.v.length := h1
  unfold Cx.funcS
  refine .bind (type_sz hc h1'.2 .always).1 fun t k ht => .ite (fun hk => .want hc fun h2 => .bind (R := fun l q => k + 2 ≤ q ∧ q ≤ c.v.length ∧ szL l ≤ 2 * (q - (k + 2))) ?_ fun ps q hq => .want hc fun h3 => .ite (fun h4 => .bind (hz.at .block (show q + 1 ≤ c.v.length by omega)) fun b r hr => .ok ?_) fun _ => .bad) fun _ => .bad
  · unfold Cx.paramsS
    refine .ite (fun h => .ok ⟨by omega, by omega, by simp⟩) fun _ => .ite (fun h => .ok ?_) fun _ => (params_sz hc hz n [] _ (by omega)).mono fun l q hq => by simp at hq; omega
    rw [Bool.and_eq_true] at h
    have := hc.lt h.1
    exact ⟨by omega, by omega, by simp⟩
  · simp only [wOf, exOf] at hr
    have := ht.2.2.1
    exact ⟨by omega, by omega, by simp; omega, rfl⟩
theorem declarer_sz (hc : c.ok) (hz : PZ c p) {i : Nat} (hi : i ≤ c.v.length) : OP (c.declarerS p i) fun x j => i < j ∧ j ≤ c.v.length ∧ x.size ≤ 2 * (j - i) ∧ x.op = 35 := by
  unfold Cx.declarerS
  refine .ite (fun h => .bind (hz.at (.used true) hi) fun x j hx => .ok ?_) fun _ => .bad
  simp only [wOf, exOf] at hx
  have hxs := x.size_pos
  unfold Cx.eat
  cases h2 : c.is j ⟨#[59]⟩ with
  | true => have := hc.lt h2; simp only [cond_true]; exact ⟨by omega, by omega, by simp; omega, rfl⟩
  | false => simp only [cond_false]; exact ⟨by omega, by omega, by simp; omega, rfl⟩
theorem empty_sz (hc : c.ok) {i : Nat} (hi : i ≤ c.v.length) : OP (c.emptyS i) fun x j => i < j ∧ j ≤ c.v.length ∧ x.size ≤ 2 * (j - i) ∧ x.op = 34 := by
  unfold Cx.emptyS
  exact .want hc fun h1 => .ok ⟨by omega, by omega, by simp; try omega, rfl⟩
theorem decl_op (m : Nm) {i : Nat} : OP (c.run n (.decl m) i) fun x j => x.op = 3 := by
  cases n with
  | zero => exact fun x j h => by cases h
  | succ n =>
    show OP (c.declS (c.run n) m i) _
    unfold Cx.declS
    exact .bind (R := fun _ _ => True) (fun _ _ _ => trivial) fun t j _ => .bind (R := fun _ _ => True) (fun _ _ _ => trivial) fun l k _ => .ok rfl
theorem outer_sz (hc : c.ok) {i : Nat} (hi : i ≤ c.v.length) : OP (c.run n (.decl .always) i) fun x j => i < j ∧ j ≤ c.v.length ∧ x.size ≤ 2 * (j - i) ∧ x.op = 3 := fun x j h => by
  have h1 := pz_run hc n (.decl .always) i hi x j h
  simp only [wOf, exOf] at h1
  have := x.size_pos
  exact ⟨by omega, h1.2.1, by omega, decl_op .always x j h⟩
end
end Go.Pv

/- Levels and sizes, counted. -/
namespace Go.Pv
open Go.Proofs
set_option linter.unusedVariables false
set_option linter.unusedSimpArgs false
set_option maxRecDepth 100000
def maxL : List Nat → Nat
  | [] => 0
  | n :: l => max n (maxL l)
def Nd.lev : Nd → Nat
  | ⟨_, _, _, _, _, l⟩ => maxL (l.attach.map fun ⟨x, _⟩ => x.lev) + 1
theorem Nd.lev_eq (x : Nd) : x.lev = maxL (x.l.map Nd.lev) + 1 := by
  obtain ⟨op, s, n, fr, tz, l⟩ := x
  rw [Nd.lev]
  simp only [List.map_attach_eq_pmap, List.pmap_eq_map]
theorem maxL_snoc (l : List Nat) (n : Nat) : maxL (l ++ [n]) = max (maxL l) n := by
  induction l with
  | nil => simp [maxL]
  | cons a l ih => simp only [List.cons_append, maxL, ih]; omega
theorem maxL_take {l : List Nat} {k : Nat} (h : k < l.length) : maxL (l.take (k + 1)) = max (maxL (l.take k)) l[k] := by
  rw [List.take_succ_eq_append_getElem h, maxL_snoc]
theorem maxL_le {l : List Nat} {m : Nat} (h : ∀ n ∈ l, n ≤ m) : maxL l ≤ m := by
  induction l with
  | nil => simp [maxL]
  | cons a l ih =>
    have h1 := h a List.mem_cons_self
    have h2 := ih fun n hn => h n (List.mem_cons_of_mem _ hn)
    simp only [maxL]; omega
theorem Nd.lev_le (x : Nd) : x.lev ≤ x.size := by
  rw [x.lev_eq, x.size_eq]
  have : maxL (x.l.map Nd.lev) ≤ (x.l.map Nd.size).sum := maxL_le fun n hn => by
    obtain ⟨y, hy, rfl⟩ := List.mem_map.1 hn
    exact Nat.le_trans (Nd.lev_le y) (mem_le_sum hy)
  omega
termination_by x.size
decreasing_by exact Nd.mem_lt hy
theorem lev_c (x : Nd) (hx : x.size ≤ 100000000) (s : St) : PCalls Tryz.prog 127 [encU x] s (fun r s' => s' = s ∧ r = .ret (.lit (.int .i64 (x.lev : Nat)))) := by
  refine PCalls.fun (D := []) ti_ok Tryz.func127 rfl (by kernel_rfl) ?_
  have hn := x.len_lt
  have hle := x.lev_eq
  have hll := x.lev_le
  refine sw_loop (D := []) ti_ok (by kernel_rfl) (fun n env st b => ∃ (k m : Nat), k + n = x.l.length ∧ m = maxL ((x.l.map Nd.lev).take k) ∧ env = [(3, intV (m : Nat)), (7, .av (.pv (.vec .any (x.l.map enc)))), (8, intV ((x.l.map enc).length : Nat)), (9, intV (k : Nat))] ∧ st = [] ∧ b = s) x.l.length ⟨[], [3, 7, 8, 9], rfl, 0, 0, by omega, rfl, rfl, rfl, rfl⟩ ?_
  rintro n env st b ⟨k, m, hk, hm, rfl, rfl, rfl⟩
  have hmm : m ≤ maxL (x.l.map Nd.lev) := by
    rw [hm]
    refine maxL_le fun q hq => ?_
    have hq2 := List.mem_of_mem_take hq
    clear hm hle hll
    generalize x.l.map Nd.lev = l at hq2
    induction l with
    | nil => cases hq2
    | cons a l ih =>
      rcases List.mem_cons.1 hq2 with rfl | h
      · simp only [maxL]; omega
      · have := ih h; simp only [maxL]; omega
  rintro (_ | _) ht
  · rw [List.length_map] at ht
    have hle2 : x.l.length ≤ k := by have := of_decide_eq_false ht; omega
    rw [List.take_of_length_le (by simpa using hle2)] at hm
    refine ⟨rfl, ?_⟩
    rw [hle, ← hm, ← inc (show m ≤ 1000000000 by omega)]
    rfl
  rw [List.length_map] at ht
  have hlt : k < x.l.length := by have := of_decide_eq_true ht; omega
  have hg := List.getElem?_eq_getElem hlt
  have hmem := List.getElem_mem hlt
  have hms := Nd.mem_lt hmem
  have hs := maxL_take (l := x.l.map Nd.lev) (k := k) (by simpa using hlt)
  rw [List.getElem_map] at hs
  obtain ⟨y, hy⟩ : ∃ y, x.l[k] = y := ⟨_, rfl⟩
  rw [hy] at hg hs hms
  refine ⟨encU y, ⟨by omega, by rw [Int.toNat_natCast, List.getElem?_map, hg]; exact congrArg some (enc_eq y), rfl⟩, ?_⟩
  refine sc_pure (fun s _ => lev_c y (by omega) s) rfl rfl ?_
  refine ⟨n - 1, by omega, [], [3, 7, 8, 9], rfl, k + 1, max m y.lev, by omega, by rw [hs, hm], ?_, rfl, rfl⟩
  rw [← inc (show k ≤ 1000000000 by omega), show ((max m y.lev : Nat) : Int) = max (m : Int) (y.lev : Int) by omega]
  rfl
termination_by x.size
decreasing_by first | assumption | (rw [← hy]; exact hms)
theorem size_c (x : Nd) (hx : x.size ≤ 100000000) (s : St) : PCalls Tryz.prog 72 [encU x] s (fun r s' => s' = s ∧ r = .ret (.lit (.int .i64 (x.size : Nat)))) := by
  refine PCalls.fun (D := []) ti_ok Tryz.func72 rfl (by kernel_rfl) ?_
  have hn := x.len_lt
  have hle := x.size_eq
  refine sw_loop (D := []) ti_ok (by kernel_rfl) (fun n env st b => ∃ (k m : Nat), k + n = x.l.length ∧ m = 1 + ((x.l.map Nd.size).take k).sum ∧ env = [(3, intV (m : Nat)), (7, .av (.pv (.vec .any (x.l.map enc)))), (8, intV ((x.l.map enc).length : Nat)), (9, intV (k : Nat))] ∧ st = [] ∧ b = s) x.l.length ⟨[], [3, 7, 8, 9], rfl, 0, 1, by omega, rfl, rfl, rfl, rfl⟩ ?_
  rintro n env st b ⟨k, m, hk, hm, rfl, rfl, rfl⟩
  have hmm := sum_take_le (x.l.map Nd.size) k
  rintro (_ | _) ht
  · rw [List.length_map] at ht
    have hle2 : x.l.length ≤ k := by have := of_decide_eq_false ht; omega
    rw [List.take_of_length_le (by simpa using hle2)] at hm
    refine ⟨rfl, ?_⟩
    rw [hle, ← hm]
    rfl
  rw [List.length_map] at ht
  have hlt : k < x.l.length := by have := of_decide_eq_true ht; omega
  have hg := List.getElem?_eq_getElem hlt
  have hmem := List.getElem_mem hlt
  have hms := Nd.mem_lt hmem
  have hs := sum_take_succ (l := x.l.map Nd.size) (k := k) (by simpa using hlt)
  have hmm2 := sum_take_le (x.l.map Nd.size) (k + 1)
  rw [List.getElem_map] at hs
  obtain ⟨y, hy⟩ : ∃ y, x.l[k] = y := ⟨_, rfl⟩
  rw [hy] at hg hs hms
  refine ⟨encU y, ⟨by omega, by rw [Int.toNat_natCast, List.getElem?_map, hg]; exact congrArg some (enc_eq y), rfl⟩, ?_⟩
  refine sc_pure (fun s _ => size_c y (by omega) s) rfl rfl ?_
  refine ⟨n - 1, by omega, [], [3, 7, 8, 9], rfl, k + 1, m + y.size, by omega, by rw [hs, hm]; omega, ?_, rfl, rfl⟩
  have hw : IntKind.i64.wrap ((m : Int) + (y.size : Int)) = ((m + y.size : Nat) : Int) := by rw [wrapN (by omega) (by omega)]; omega
  rw [← inc (show k ≤ 1000000000 by omega), ← hw]
  rfl
termination_by x.size
decreasing_by first | assumption | (rw [← hy]; exact hms)
end Go.Pv

/- A part read whole, or not at all: a deferred closure that recovers. -/
namespace Go.Pv
open Go.Proofs
set_option linter.unusedVariables false
set_option linter.unusedSimpArgs false
set_option maxRecDepth 100000
/-- Operations that lay no call aside. -/
def calm : Go.Op → Bool
  | .move _ => true
  | .assign _ => true
  | .alloc _ => true
  | .load _ _ => true
  | .store _ _ _ => true
  | .fieldAddr _ _ _ => true
  | .extract _ _ => true
  | .build _ _ => true
  | .unOp _ _ _ => true
  | .nilCheck _ => true
  | _ => false
def ND (s : Sem Next) : Prop := ∀ (P : Program) (w w' : World) (d : Deferred), s.run P w ≠ .ok (.defer d) w'
theorem ND.no {s : Sem Next} (h : ND s) {P : Program} {w w' : World} {d : Deferred} (e : s.run P w = .ok (.defer d) w') : False := h P w w' d e
theorem nd_val (v : Value) : ND (pure (.value v)) := fun P w w' d h => by cases h
theorem nd_bind {α : Type} {s : Sem α} {f : α → Sem Next} (h : ∀ x, ND (f x)) : ND (s >>= f) := fun P w w' d e => by
  rw [Sem.run_bind] at e
  cases hs : s.run P w with
  | ok v w1 => rw [hs] at e; exact h v P w1 w' d e
  | halt x w1 => rw [hs] at e; cases e
theorem valN {P : Program} {w w' : World} {s : Sem Value} {d : Deferred} (h : (do pure (.value (← s)) : Sem Next).run P w = .ok (.defer d) w') : False := by
  rw [Sem.run_bind] at h
  cases hs : s.run P w with
  | ok v w1 => rw [hs] at h; cases h
  | halt x w1 => rw [hs] at h; cases h
theorem untN {P : Program} {w w' : World} {s : Sem Unit} {d : Deferred} (h : (do s; pure .skip : Sem Next).run P w = .ok (.defer d) w') : False := by
  rw [Sem.run_bind] at h
  cases hs : s.run P w with
  | ok v w1 => rw [hs] at h; cases h
  | halt x w1 => rw [hs] at h; cases h
theorem calm_next {P : Program} {w w' : World} {ρ : Operand → Value} {o : Oper} {d : Deferred} (hc : calm o.op = true) (h : (execOp ρ o).run P w = .ok (.defer d) w') : False := by
  unfold execOp at h
  cases ho : o.op with
  | move x => rw [ho] at h; cases h
  | assign x => rw [ho] at h; cases h
  | alloc t => rw [ho] at h; exact valN h
  | load t x => rw [ho] at h; exact valN h
  | store t x y => rw [ho] at h; exact untN h
  | fieldAddr t x f => rw [ho] at h; exact valN h
  | extract x k => rw [ho] at h; exact valN h
  | build t ps => rw [ho] at h; exact valN h
  | unOp u t x => rw [ho] at h; exact valN h
  | nilCheck x =>
    rw [ho] at h
    simp only at h
    split at h
    · cases h
    · cases h
    · cases h
    · split at h
      · cases h
      · refine ND.no ?_ h
        repeat' first
          | exact nd_val _
          | refine nd_bind fun _ => ?_
          | split
      · cases h
    · cases h
  | _ => rw [ho] at hc; cases hc
def frQ (D1 D2 : List Deferred) (Q : Exit → Act → World → Prop) : Exit → Act → World → Prop := fun e a w => match e with
  | .outgrown => ∃ a0 w0, Q .outgrown a0 w0
  | e => a.defers = D2 ∧ Q e { a with defers := D1 } w
theorem put_df (a : Act) (D : List Deferred) (d : Option Tmp) (v : Value) : ({ a with defers := D } : Act).put d v = { a.put d v with defers := D } := by cases d <;> rfl
section
variable {P : Program} {ops : Array Oper} {Q : Exit → Act → World → Prop} {D1 D2 : List Deferred}
theorem wpListR_frame : ∀ (l : List Oper) (a : Act) (w : World), (l.all fun o => calm o.op) = true → wpListR P ops Q l { a with defers := D1 } w → wpListR P ops (frQ D1 D2 Q) l { a with defers := D2 } w
  | [], a, w, hl, h => ⟨rfl, h⟩
  | o :: l, a, w, hl, h => by
    rw [List.all_cons, Bool.and_eq_true] at hl
    unfold wpListR at h ⊢
    split at h
    · rename_i hw
      rw [if_pos hw]
      refine ⟨h.1, ?_⟩
      have h2 := h.2
      have next : ∀ (a : Act) (v : Value) (w : World), wpListR P ops Q l (({ a with defers := D1 } : Act).put o.dst v) w → wpListR P ops (frQ D1 D2 Q) l (({ a with defers := D2 } : Act).put o.dst v) w := fun a v w h => by
        rw [put_df] at h ⊢
        exact wpListR_frame l (a.put o.dst v) w hl.2 h
      have out : LetsOut Q → LetsOut (frQ D1 D2 Q) := fun ⟨a0, w0, h0⟩ => ⟨a0, w0, a0, w0, h0⟩
      have he : ({ a with defers := D2 } : Act).eval = ({ a with defers := D1 } : Act).eval := rfl
      rw [he]
      have hcalm := fun d w' => calm_next (P := P) (w := w) (w' := w') (ρ := ({ a with defers := D1 } : Act).eval) (o := o) (d := d) hl.1
      generalize (execOp ({ a with defers := D1 } : Act).eval o).run P w = res at *
      cases res with
      | ok x w' =>
        cases x with
        | value v => exact next a v w' h2
        | skip => exact next a _ w' h2
        | defer d => exact (hcalm d w' rfl).elim
        | enter f args => exact ⟨h2.1, h2.2.mono fun e w'' he => by
            cases e with
            | returned v => exact next a v w'' he
            | panicked c => exact ⟨rfl, he⟩
            | outgrown => exact out he⟩
        | row r args => exact ⟨h2.1, h2.2.mono fun v w'' he => next a v w'' he⟩
        | round l2 f tmps assign body => exact ⟨h2.1, h2.2.mono fun e w'' he => by
            cases e with
            | returned v => exact next a v w'' he
            | panicked c => exact ⟨rfl, he⟩
            | outgrown => exact out he⟩
        | _ => exact h2.elim
      | halt x w' =>
        cases x with
        | panic v => exact ⟨rfl, h2⟩
        | _ => exact h2.elim
    · rename_i hw
      rw [if_neg hw, put_df]
      rw [put_df] at h
      exact wpListR_frame l (a.put o.dst undef) w hl.2 h
end
end Go.Pv

/- A part read whole, or not at all: the closure. -/
namespace Go.Pv
open Go.Proofs
set_option linter.unusedVariables false
set_option linter.unusedSimpArgs false
set_option maxRecDepth 100000
theorem whole1_idle (v0 v1 v2 v3 v4 : Value) (w : World) : CallsDIn (fen none) 0 Tryz.prog 199 #[v0, v1, v2, v3, v4] .returning w fun e u' w' => e = .returned (.tuple #[]) ∧ u' = .returning ∧ w' = w := by
  refine callsDIn_of_wpSIn Tryz.func199 rfl trivial fun c₀ cs hu => ?_
  apply wpSIn_seq
  apply wpSIn_region
  simp [wpOpsSIn, go_sem, recoverD, hu, Tryz.ntmps199, Exit.thenS]
  apply wpSIn_seq
  apply wpSIn_region
  simp [wpOpsSIn, go_sem, Exit.thenS, Array.replicate]
  refine wpSIn_cond (t := false) (by simp [Act.eval, Array.replicate]) ?_
  simp only [Bool.false_eq_true, if_false]
  refine wpSIn_of_wpIn rfl (wpIn_skip ?_)
  cases c₀
  simp_all [bodyPostS, results, Tryz.results199]
theorem holds_grow {g : G} {s : St} {w w' : World} (hH : Holds g s w) (hb : ∀ k, k < w.heap.size → w'.heap[k]? = w.heap[k]?) (hs : w.heap.size ≤ w'.heap.size) (h1 : w'.os = w.os) (h2 : w'.tape = w.tape) (h3 : w'.output = w.output) : Holds g s w' ∧ LE g w g w' := by
  have hle : LEv g w g w' := ⟨Nat.le_refl _, fun _ _ => rfl, fun _ h => h, fun k hk => hb k (hH.zlt k hk)⟩
  refine ⟨⟨hH.fresh, fun k hk => Nat.lt_of_lt_of_le (hH.zlt k hk) hs, fun i b hi => ?_, hH.inj, hH.apart⟩, ⟨hle, h1, h2, h3, hs⟩⟩
  have hB := hH.blk i b hi
  have hn : i < g.n := by
    rcases Nat.lt_or_ge i g.n with h | h
    · exact h
    · rw [hH.fresh i h] at hi; cases hi
  exact hB.le hle hn (hb _ hB.lt)
theorem holds_alloc {g : G} {s : St} {w : World} (o : Obj) (hH : Holds g s w) : Holds g s (w.alloc o) ∧ LE g w g (w.alloc o) := by
  have e : (w.alloc o).heap = w.heap.push o := rfl
  exact holds_grow hH (fun k hk => by rw [e]; simp [Array.getElem?_push, Nat.ne_of_lt hk]) (by rw [e]; simp) rfl rfl rfl
/-- The frame's first values. -/
def fiveE (p0 p1 p2 p3 p4 : PV) : Env := fun t => match t with
  | 0 => p0
  | 1 => p1
  | 2 => p2
  | 3 => p3
  | 4 => p4
  | _ => .junk
theorem ta_run (w : World) : (Instr.typeAssert (.iface 247 (.agg #[])) 20 247 true).run Tryz.prog w = .ok (.tuple #[.agg #[], .bool true]) w := by
  kernel_rfl
theorem whole1_pan {g : G} {w : World} {s : St} {c : Cx} {i0 i1 i2 i3 i4 ir : Nat} {a n a' : Int} {k' : Int} {cs3 : List PV} {bb : Bool} {v0 v1 v2 v3 v4 : Value} (hH : Holds g s w) (h0 : s i0 = some (.row 3 1 [[.lit (.int .i64 a)]])) (h1 : s i1 = some (.row 3 1 [[.lit (.int .i64 n)]])) (h2 : s i2 = some (.row 121 1 [[.pt ir 0 0]])) (h3 : s i3 = some (.row 26 6 [cs3])) (hl3 : cs3.length = 6) (h4 : s i4 = some (.row 4 1 [[.lit (.bool bb)]])) (hr : s ir = some (rdRow c a' k'))
    (r0 : VR w g (.pt i0 0 0) v0) (r1 : VR w g (.pt i1 0 0) v1) (r2 : VR w g (.pt i2 0 0) v2) (r3 : VR w g (.pt i3 0 0) v3) (r4 : VR w g (.pt i4 0 0) v4) :
    CallsDIn (fen none) 0 Tryz.prog 199 #[v0, v1, v2, v3, v4] (.panicking [flt]) w fun e u' w' => e = .returned (.tuple #[]) ∧ u' = .panicking [{ flt with recovered := true }] ∧ ∃ g', LE g w g' w' ∧ Holds g' (((s.upd ir (some (rdRow c a n))).upd i3 (some (.row 26 6 [zeroN.cells]))).upd i4 (some (.row 4 1 [[.lit (.bool false)]]))) w' := by
  refine callsDIn_of_wpSIn Tryz.func199 rfl trivial fun c₀ cs hu => ?_
  apply wpSIn_seq
  apply wpSIn_region
  simp [wpOpsSIn, go_sem, recoverD, hu, Tryz.ntmps199, Exit.thenS, flt]
  apply wpSIn_seq
  apply wpSIn_region
  simp [wpOpsSIn, go_sem, Exit.thenS, Array.replicate]
  refine wpSIn_cond (t := true) (by simp [Act.eval, Array.replicate]) ?_
  simp only [if_true]
  apply wpSIn_seq
  apply wpSIn_seq
  apply wpSIn_region
  have hta := ta_run
  simp [wpOpsSIn, go_sem, Exit.thenS, Array.replicate, hta]
  apply wpSIn_seq
  apply wpSIn_region
  simp [wpOpsSIn, go_sem, Exit.thenS, Array.replicate]
  refine wpSIn_cond (t := false) (by simp [Act.eval]) ?_
  simp only [Bool.false_eq_true, if_false]
  refine wpSIn_of_wpIn rfl (wpIn_skip ?_)
  show Code.wpSIn _ _ _ _ _ _ _ _
  clear hta
  obtain ⟨hHa, hLa⟩ := holds_alloc (.cells #[] 247) hH
  generalize w.alloc (.cells #[] 247) = wa at *
  have hER : ER wa g 28 (fiveE (.pt i0 0 0) (.pt i1 0 0) (.pt i2 0 0) (.pt i3 0 0) (.pt i4 0 0)) { tmps := #[v0, v1, v2, v3, v4, Value.iface 247 (Value.agg #[]), Value.pointer (some { block := w.heap.size, off := 0 }), Value.bool true, Value.iface 247 (Value.agg #[]), Value.iface 247 (Value.agg #[]), Value.bool true, Value.tuple #[Value.agg #[], Value.bool true], Value.iface 247 (Value.agg #[]), Value.tuple #[Value.agg #[], Value.bool true], Value.agg #[], Value.bool true, Value.bool true, Value.bool false, undef, undef, undef, undef, undef, undef, undef, undef, undef, undef], defers := [] } := by
    refine ⟨rfl, fun t => ?_⟩
    match t with
    | 0 => exact r0.le hLa.toLEv
    | 1 => exact r1.le hLa.toLEv
    | 2 => exact r2.le hLa.toLEv
    | 3 => exact r3.le hLa.toLEv
    | 4 => exact r4.le hLa.toLEv
    | _ + 5 => exact .junk _
  generalize hA : Act.mk _ [] = A at hER ⊢
  have hAd : A.defers = [] := by rw [← hA]
  clear hA
  have n3 : ir ≠ i3 := fun e => by rw [← e, hr] at h3; cases h3
  have n4 : ir ≠ i4 := fun e => by rw [← e, hr] at h4; cases h4
  have n34 : i3 ≠ i4 := fun e => by rw [← e, h3] at h4; cases h4
  refine wpSIn_of_wpIn rfl ?_
  have hAA : ({ A with defers := [] } : Act) = A := by rw [← hAd]
  refine wpIn_seq (wpIn_mono (Q := frQ [] [] (PQ 28 wa.heap.size g wa (fun x e s' => x = .normal ∧ e 3 = .pt i3 0 0 ∧ e 4 = .pt i4 0 0 ∧ s' = s.upd ir (some (rdRow c a n))))) ?_ ?_)
  · rw [← hAA]
    refine wpR_region (wpListR_frame _ A wa (by rfl) ?_)
    rw [hAA]
    refine pws_sound g wa _ _ s g A wa (.refl _ _) hHa hER (by rw [hAd]; exact ⟨Nat.le_refl _, trivial⟩) ?_
    simp [fiveE, h0, h1, h2, hr]
  · rintro ex a1 w1 hq
    cases ex with
    | normal =>
      obtain ⟨hd1, e1, s1, g1, l1, H1, E1, D1, _, e3, e4, rfl⟩ := hq
      have hA1 : ({ a1 with defers := [] } : Act) = a1 := by rw [← hd1]
      rw [hA1] at E1
      clear hER hHa
      refine wpIn_mono (Q := frQ [] [] (PQ 28 w1.heap.size g1 w1 (fun x e s' => x = .normal ∧ s' = ((s.upd ir (some (rdRow c a n))).upd i3 (some (.row 26 6 [zeroN.cells]))).upd i4 (some (.row 4 1 [[.lit (.bool false)]]))))) ?_ ?_
      · rw [← hA1]
        refine wpR_region (wpListR_frame _ a1 w1 (by rfl) ?_)
        rw [hA1]
        refine pws_sound g1 w1 _ _ _ g1 a1 w1 (.refl _ _) H1 E1 (by rw [hd1]; exact ⟨Nat.le_refl _, trivial⟩) ?_
        have b3 : (s.upd ir (some (rdRow c a n))) i3 = some (.row 26 6 [cs3]) := by rw [St.upd_ne _ _ (Ne.symm n3)]; exact h3
        have b4 : (s.upd ir (some (rdRow c a n))) i4 = some (.row 4 1 [[.lit (.bool bb)]]) := by rw [St.upd_ne _ _ (Ne.symm n4)]; exact h4
        generalize s.upd ir (some (rdRow c a n)) = σ at *
        have hdr : List.drop 6 cs3 = [] := List.drop_eq_nil_of_le (by omega)
        simp [e3, e4, b3, b4, hl3, zeroN, Ne.symm n34, hdr]
      · rintro ex a2 w2 hq
        cases ex with
        | normal =>
          obtain ⟨hd2, e2, s2, g2, l2, H2, E2, D2, _, rfl⟩ := hq
          refine ⟨hd2, _, rfl, .tuple #[], by simp [results, Tryz.results199], rfl, rfl, g2, (hLa.trans l1).trans l2, H2⟩
        | outgrown => obtain ⟨a0, w0, _, _, _, _, _, _, _, h, _⟩ := hq; cases h
        | exit i => obtain ⟨_, _, _, _, _, _, _, _, h, _⟩ := hq; cases h
        | goto i => obtain ⟨_, _, _, _, _, _, _, _, h, _⟩ := hq; cases h
        | ret => obtain ⟨_, _, _, _, _, _, _, _, h, _⟩ := hq; cases h
        | panic i => obtain ⟨_, _, _, _, _, _, _, _, h, _⟩ := hq; cases h
    | outgrown => obtain ⟨a0, w0, _, _, _, _, _, _, _, h, _⟩ := hq; cases h
    | exit i => obtain ⟨_, _, _, _, _, _, _, _, h, _⟩ := hq; cases h
    | goto i => obtain ⟨_, _, _, _, _, _, _, _, h, _⟩ := hq; cases h
    | ret => obtain ⟨_, _, _, _, _, _, _, _, h, _⟩ := hq; cases h
    | panic i => obtain ⟨_, _, _, _, _, _, _, _, h, _⟩ := hq; cases h
end Go.Pv

/- A part read whole, or not at all. -/
namespace Go.Pv
open Go.Proofs
set_option linter.unusedVariables false
set_option linter.unusedSimpArgs false
set_option maxRecDepth 100000
/-- What holds where a region has come to; the deferred calls are as they were. -/
def PQK (N : Nat) (D : List Deferred) (g : G) (w : World) (Q : Exit → Env → St → Prop) : Exit → Act → World → Prop := fun ex a' w' =>
  ∃ e' s' g', LE g w g' w' ∧ Holds g' s' w' ∧ ER w' g' N e' a' ∧ a'.defers = D ∧ Q ex e' s'
section
variable {P : Program} {N : Nat}
theorem pws_keep {D : List Deferred} {ops : Array Oper} (g0 : G) (w0 : World) {Q : Exit → Env → St → Prop} : ∀ (l : List Oper) (e : Env) (s : St) (g : G) (a : Act) (w : World), LE g0 w0 g w → Holds g s w → ER w g N e a → a.defers = D →
    pws P (fun j => (ops[j]?).bind (·.dst)) N l e s (Q .normal) (fun c e s => Q (.panic c) e s) → wpListR P ops (PQK N D g0 w0 Q) l a w
  | [], e, s, g, a, w, hle, hH, hE, hd, h => ⟨e, s, g, hle, hH, hE, hd, h⟩
  | o :: os, e, s, g, a, w, hle, hH, hE, hd, h => by
    obtain ⟨hdst, h⟩ := h
    have main : opw P e s (fun v s' => pws P (fun j => (ops[j]?).bind (·.dst)) N os (e.put o.dst v) s' (Q .normal) (fun c e s => Q (.panic c) e s)) (fun c s' => Q (.panic c) e s') o.op → wpR P o a w (wpListR P ops (PQK N D g0 w0 Q) os) (PQK N D g0 w0 Q) := fun h =>
      opw_sound hH hE o h (fun p v s' g' w' k1 k2 k3 k4 => pws_keep g0 w0 os _ s' g' _ w' (hle.trans k1) k2 ((hE.le k1.toLEv).put hdst k3) (by rw [put_defers]; exact hd) k4)
        (fun c s' g' w' k1 k2 k3 => ⟨e, s', g', hle.trans k1, k2, hE.le k1.toLEv, hd, k3⟩)
    unfold wpListR
    split at h
    · rename_i hg
      rw [if_pos (by simp [Region.wanted, hg])]
      exact main h
    · rename_i j want hg
      obtain ⟨d, hdj, h⟩ := okv_ex h
      have hu : VR w g (.tup []) undef := .tup [] #[] rfl (by simp)
      split at h
      case h_3 => exact h.elim
      case h_2 hed =>
        have hv := hE.vr d
        rw [hed] at hv
        have hvd : a.tmps.getD d undef = .tuple #[] := by
          generalize a.tmps.getD d undef = u at hv
          cases hv with
          | tup _ vs h1 h3 =>
            have : vs = #[] := Array.eq_empty_of_size_eq_zero (by simpa using h1)
            rw [this]
        have hy : yielded ops a.tmps j = none := by
          unfold yielded
          have hdj' : (ops[j]?).bind (·.dst) = some d := hdj
          rw [hdj']
          simp only [Option.bind_some]
          rw [Array.getD_eq_getD_getElem?] at hvd
          cases ht : a.tmps[d]? with
          | none => rfl
          | some v => rw [ht] at hvd; cases hvd; rfl
        rw [if_neg (by simp [Region.wanted, hg, hy])]
        exact pws_keep g0 w0 os _ s g _ w hle hH (hE.put hdst hu) (by rw [put_defers]; exact hd) h
      rename_i t hed
      obtain ⟨h1, h2⟩ := h
      have hv := hE.vr d
      rw [hed] at hv
      obtain ⟨hvd, _⟩ := hv.lit_inv
      have hy : yielded ops a.tmps j = some t := by
        unfold yielded
        have hdj' : (ops[j]?).bind (·.dst) = some d := hdj
        rw [hdj']
        simp only [Option.bind_some]
        rw [Array.getD_eq_getD_getElem?] at hvd
        cases ht : a.tmps[d]? with
        | none => rw [ht] at hvd; cases hvd
        | some v => rw [ht] at hvd; cases hvd; rfl
      by_cases hw : t = want
      · rw [if_pos (by simp [Region.wanted, hg, hy, hw])]
        exact main (h1 hw)
      · rw [if_neg (by simp [Region.wanted, hg, hy, hw])]
        exact pws_keep g0 w0 os _ s g _ w hle hH (hE.put hdst hu) (by rw [put_defers]; exact hd) (h2 (by cases t <;> cases want <;> simp_all))
end
section
variable {c : Cx} {s : St} {ir : Nat} {at_ : Nat} {k : Int}
/-- How a part ends that is read whole or not at all. -/
def WR (c : Cx) (s : St) (ir : Nat) (o : Out Nd) (r : Res) (s' : St) : Prop := match o with
  | .fuel => True
  | .bad => s' = s ∧ r = .ret (.tup [zeroN, .lit (.bool false)])
  | .ok x i => ∃ k', s' = s.upd ir (some (rdRow c (i : Nat) k')) ∧ r = .ret (.tup [encU x, .lit (.bool true)])
theorem whole_c (hc : c.ok) {q : FuncId} {o : Out Nd} (hq : MC c q [] at_ (o.map encU)) (hn : o ≠ .fuel) (he : c.env s) (hs : s ir = some (rdRow c (at_ : Nat) k)) : PCalls Tryz.prog 126 [.pt ir 0 0, .fn q [.pt ir 0 0] []] s (WR c s ir o) := by
  refine .inl ⟨by unfold enters; rw [Tryz.func126]; rfl, fun g w vs hH hA => ?_⟩
  have hE := start_er hA (n := 19) (by simp)
  refine callsIn_wide.1 (callsIn_of_wp_marks (F := fen none) (n := 0) Tryz.func126 rfl trivial ?_)
  refine wpIn_seq (wpIn_mono (PW.region (N := 19) (Q := fun x e s' => x = .normal ∧ ∃ i2 i4 i5, e 0 = .pt ir 0 0 ∧ e 1 = .fn q [.pt ir 0 0] [] ∧ e 2 = .pt i2 0 0 ∧ e 4 = .pt i4 0 0 ∧ e 5 = .pt i5 0 0 ∧ s' i2 = some (.row 121 1 [[.pt ir 0 0]]) ∧ s' i4 = some (.row 26 6 [zeroN.cells]) ∧ s' i5 = some (.row 4 1 [[.lit (.bool false)]]) ∧ s.sub s' ∧ s i4 = none ∧ s i5 = none) ?_ none w.heap.size g _ w (.inr rfl) hH hE ⟨Nat.le_refl _, trivial⟩) ?_)
  · simp [Env.start]
    intro i2 h2 i4 h24 h42 h4 i5 h25 h52 h45 h54 h5
    refine ⟨by simp [h54, h42], by simp [h52, zeroN], ((St.sub.set (fun _ _ h => h) h2).set h4).set h5, h4, h5⟩
  rintro x a1 w1 ⟨e1, s1, g1, l1, H1, E1, D1, hx, i2, i4, i5, e0, ee1, e2, e4, e5, b2, b4, b5, hsub1, z4, z5⟩
  subst hx
  have br := hsub1 _ _ hs
  refine wpIn_seq (wpIn_mono (PW.drawnA (N := 19) (Q := fun x e s' => x = .normal ∧ ∃ i6 i7, e 1 = .fn q [.pt ir 0 0] [] ∧ e 2 = .pt i2 0 0 ∧ e 4 = .pt i4 0 0 ∧ e 5 = .pt i5 0 0 ∧ e 6 = .pt i6 0 0 ∧ e 7 = .pt i7 0 0 ∧ s' i6 = some (.row 3 1 [[.lit (.int .i64 (at_ : Nat))]]) ∧ s' i7 = some (.row 3 1 [[.lit (.int .i64 k)]]) ∧ s1.sub s') s1 (fun i => match i with | 0 => 3 | 3 => 3 | 4 => 3 | 7 => 3 | _ => 0) [0, 1, 2, 3, 4, 5, 6, 7, 8, 9, 10, 11] mixed_ (fun _ _ _ _ h => by cases h.1) (by kernel_rfl) (fun _ _ h => h) ?_ none w.heap.size g1 a1 w1 (.inr rfl) H1 E1 D1) ?_)
  · simp [e0, ee1, e2, e4, e5, b2, br]
    intro i6 h6 i7 h76 h67 h7
    have q1 := ((St.sub.set (s := s1) (fun _ _ h => h) h6 (b := some (.row 3 1 [[.lit (.int .i64 0)]]))).set h7 (b := some (.row 3 1 [[.lit (.int .i64 0)]]))).set h6 (b := some (.row 3 1 [[.lit (.int .i64 (at_ : Nat))]]))
    refine ⟨q1, ?_⟩
    have q2 := q1.set h7 (b := some (.row 3 1 [[.lit (.int .i64 k)]]))
    simp [h76, h67]
    exact q2
  rintro x a2 w2 ⟨e3, s2, g2, l2, H2, E2, D2, hx, i6, i7, f1, f2, f4, f5, f6, f7, b6, b7, hsub2⟩
  subst hx
  have hmf : ∀ (fn : Fn) (first cap : Array Value) (w : World), (Instr.makeFunc fn first cap).run Tryz.prog w = .ok (.func fn first cap) w := fun _ _ _ _ => rfl
  refine wpIn_seq ?_
  apply wpIn_region
  have h16 : 16 < a2.tmps.size := by rw [E2.size]; decide
  simp [wpOpsIn, Oper.wpIn, Oper.uponIn, go_sem, Region.wanted, hmf, Oper.semAt, h16, Act.put]
  have getv : ∀ t, VR w2 g2 (e3 t) (a2.tmps[t]?.getD undef) := fun t => by have := E2.vr t; rw [Array.getD_eq_getD_getElem?] at this; exact this
  have r6 := getv 6; have r7 := getv 7; have r2 := getv 2; have r4 := getv 4; have r5 := getv 5
  rw [f6] at r6; rw [f7] at r7; rw [f2] at r2; rw [f4] at r4; rw [f5] at r5
  have E3 := E2.put (d := some 16) (fun t ht => by cases ht; decide) (p := .junk) (v := Value.func (Fn.func 199) #[] #[a2.tmps[6]?.getD undef, a2.tmps[7]?.getD undef, a2.tmps[2]?.getD undef, a2.tmps[4]?.getD undef, a2.tmps[5]?.getD undef]) (.junk _)
  have E3' : ER w2 g2 19 (e3.put (some 16) .junk) { tmps := a2.tmps.setIfInBounds 16 (Value.func (Fn.func 199) #[] #[a2.tmps[6]?.getD undef, a2.tmps[7]?.getD undef, a2.tmps[2]?.getD undef, a2.tmps[4]?.getD undef, a2.tmps[5]?.getD undef]), defers := { target := Target.fn (Fn.func 199) #[a2.tmps[6]?.getD undef, a2.tmps[7]?.getD undef, a2.tmps[2]?.getD undef, a2.tmps[4]?.getD undef, a2.tmps[5]?.getD undef], args := #[] } :: a2.defers } := ⟨E3.size, E3.vr⟩
  clear E3 hmf h16 getv
  generalize a2.tmps[6]?.getD undef = v6 at *
  generalize a2.tmps[7]?.getD undef = v7 at *
  generalize a2.tmps[2]?.getD undef = v2 at *
  generalize a2.tmps[4]?.getD undef = v4 at *
  generalize a2.tmps[5]?.getD undef = v5 at *
  generalize a2.tmps.setIfInBounds 16 _ = tm at *
  generalize hds : a2.defers = ds at *
  clear E2
  have br2 := hsub2 _ _ br
  have c2 := hsub2 _ _ b2
  have c4 := hsub2 _ _ b4
  have c5 := hsub2 _ _ b5
  have hss2 : s.sub s2 := fun i x h => hsub2 _ _ (hsub1 _ _ h)
  refine wpIn_seq (wpIn_mono (Q := PQK 19 ({ target := Target.fn (Fn.func 199) #[v6, v7, v2, v4, v5], args := #[] } :: ds) g2 w2 (fun x e s' => (x = .normal ∧ ∃ y i k', o = .ok y i ∧ e 4 = .pt i4 0 0 ∧ e 5 = .pt i5 0 0 ∧ s' = ((s2.upd ir (some (rdRow c (i : Nat) k'))).upd i4 (some (.row 26 6 [encC y]))).upd i5 (some (.row 4 1 [[.lit (.bool true)]]))) ∨ (∃ a' k', x = .panic [flt] ∧ o = .bad ∧ e 4 = .pt i4 0 0 ∧ e 5 = .pt i5 0 0 ∧ s' = s2.upd ir (some (rdRow c a' k'))))) (wpR_region (pws_keep g2 w2 _ _ _ g2 _ w2 (.refl _ _) H2 E3' rfl ?_)) ?_)
  · simp [f1, f4, f5]
    refine (hq (by cases o <;> simp_all) s2 ir k (he.sub hss2) br2).mono ?_
    intro r s9 hr
    cases o with
    | fuel => exact absurd rfl hn
    | bad =>
      obtain ⟨a', k', rfl, rfl⟩ := hr
      exact ⟨rfl, rfl, by simp [f4], by simp [f5], a', k', rfl⟩
    | ok y i =>
      obtain ⟨k', rfl, rfl⟩ := hr
      have n4 : i4 ≠ ir := fun e => by rw [e, br2] at c4; cases c4
      have n5 : i5 ≠ ir := fun e => by rw [e, br2] at c5; cases c5
      have n45 : i5 ≠ i4 := fun e => by rw [e, c4] at c5; cases c5
      have d4 : (s2.upd ir (some (rdRow c (i : Nat) k'))) i4 = some (.row 26 6 [zeroN.cells]) := by rw [St.upd_ne _ _ n4]; exact c4
      have d5 : (s2.upd ir (some (rdRow c (i : Nat) k'))) i5 = some (.row 4 1 [[.lit (.bool false)]]) := by rw [St.upd_ne _ _ n5]; exact c5
      have key : ∀ σ : St, σ = s2.upd ir (some (rdRow c (i : Nat) k')) → ∃ x, (σ.upd i4 (some (.row 26 6 [encC y]))).upd i5 (some (.row 4 1 [[.lit (.bool true)]])) = ((s2.upd ir (some (rdRow c (i : Nat) x))).upd i4 (some (.row 26 6 [encC y]))).upd i5 (some (.row 4 1 [[.lit (.bool true)]])) := fun σ h => ⟨k', by rw [h]⟩
      obtain ⟨σ, hσ⟩ : ∃ σ, σ = s2.upd ir (some (rdRow c (i : Nat) k')) := ⟨_, rfl⟩
      have hk := key σ hσ
      rw [← hσ] at d4 d5 ⊢
      clear key hσ
      simp [f4, f5, d4, d5, n45, zeroN]
      exact ⟨y, i, ⟨rfl, rfl⟩, hk⟩
  -- the deferred call, then the results
  have hD : ∀ {g3 : G} {w3 : World}, LE g2 w2 g3 w3 → DK w.heap.size g3 w3 ds := fun h => D2.le h
  have fin : ∀ (g4 : G) (w4 : World) (s4 : St) (a3 : Act) (e4' : Env) (nv bv : PV), LE g2 w2 g4 w4 → Holds g4 s4 w4 → ER w4 g4 19 e4' a3 → e4' 4 = .pt i4 0 0 → e4' 5 = .pt i5 0 0 → (∃ cs, s4 i4 = some (.row 26 6 [cs]) ∧ cs.length = 6 ∧ nv = .agg cs) → s4 i5 = some (.row 4 1 [[bv]]) → (∃ sF, sF.sub s4 ∧ WR c s ir o (.ret (.tup [nv, bv])) sF) →
      LeavesInM (fen none) 0 Tryz.prog Tryz.f126 a3.tmps (fun e w' => ∃ res s' g', LE g w g' w' ∧ Holds g' s' w' ∧ RR w' g' res e ∧ WR c s ir o res s') ds .returning w4 := by
    rintro g4 w4 s4 a3 e4' nv bv l4 H4 E4 x4 x5 ⟨cs, y4, y6, rfl⟩ y5 ⟨sF, z1, z2⟩
    have lw := ((l1.trans l2).trans l4)
    refine leaves_drop hH (by simp) ds g4 w4 (hD l4).2 lw H4 (ds0 := a3.defers) E4 (fun g5 w5 l5 H5 E5 => ?_)
    have hres : resP Tryz.prog e4' s4 Tryz.f126.results.toList = some [.agg cs, bv] := by
      show resP Tryz.prog e4' s4 [.cell 4 26, .cell 5 4] = _
      have ht : cs.take 6 = cs := List.take_of_length_le (by omega)
      simp [resP, resP1, x4, x5, cellsAt, y4, y5, y6, ht, pack]
    obtain ⟨vs', m1, m2, m3⟩ := resP_sound (P := Tryz.prog) H5 E5 _ _ hres
    exact ⟨_, results_run Tryz.f126 a3.tmps m1, _, sF, g5, l5, H5.sub z1, .ret _ _ (one_vr m2 m3), z2⟩
  have hinv : ∀ w : World, (invoke (Target.fn (Fn.func 199) #[v6, v7, v2, v4, v5]) #[]).run Tryz.prog w = .ok (.enter 199 #[v6, v7, v2, v4, v5]) w := fun w => by
    simp [go_sem]
  rintro x a3 w3 ⟨e4', s3, g3, l3, H3, E4, hdf, hQ⟩
  rcases hQ with ⟨rfl, y, i, k', rfl, x4, x5, rfl⟩ | ⟨a', k', rfl, rfl, x4, x5, rfl⟩
  · refine wpIn_ret ?_
    show LeavesInM _ _ _ _ _ _ _ _ _
    rw [hdf]
    refine ⟨by simp, .inr ⟨by simp, _, _, _, _, rfl, hinv w3, fun _ _ => trivial, (whole1_idle v6 v7 v2 v4 v5 w3).mono ?_⟩⟩
    rintro e u' w'' ⟨rfl, rfl, rfl⟩
    refine fin g3 w'' _ a3 e4' (encU y) (.lit (.bool true)) l3 H3 E4 x4 x5 ⟨encC y, ?_, rfl, rfl⟩ (St.upd_same _ _ _) ⟨s.upd ir (some (rdRow c (i : Nat) k')), ?_, k', rfl, rfl⟩
    · have n45 : i4 ≠ i5 := fun e => by rw [e, c5] at c4; cases c4
      rw [St.upd_ne _ _ n45]; exact St.upd_same _ _ _
    · intro j x hj
      by_cases h1 : j = ir
      · subst h1
        have n4 : j ≠ i4 := fun e => by rw [e, z4] at hs; cases hs
        have n5 : j ≠ i5 := fun e => by rw [e, z5] at hs; cases hs
        rw [St.upd_same] at hj
        rw [St.upd_ne _ _ n5, St.upd_ne _ _ n4, St.upd_same]; exact hj
      · rw [St.upd_ne _ _ h1] at hj
        have n4 : j ≠ i4 := fun e => by rw [e, z4] at hj; cases hj
        have n5 : j ≠ i5 := fun e => by rw [e, z5] at hj; cases hj
        rw [St.upd_ne _ _ n5, St.upd_ne _ _ n4, St.upd_ne _ _ h1]; exact hss2 _ _ hj
  · show LeavesInM _ _ _ _ _ _ _ _ _
    rw [hdf]
    have m6 : i6 ≠ ir := fun e => by rw [e, br2] at b6; cases b6
    have m7 : i7 ≠ ir := fun e => by rw [e, br2] at b7; cases b7
    have m2 : i2 ≠ ir := fun e => by rw [e, br2] at c2; cases c2
    have m4 : i4 ≠ ir := fun e => by rw [e, br2] at c4; cases c4
    have m5 : i5 ≠ ir := fun e => by rw [e, br2] at c5; cases c5
    refine ⟨by simp, .inr ⟨by simp, _, _, _, _, rfl, hinv w3, fun _ _ => trivial, (whole1_pan H3 (by rw [St.upd_ne _ _ m6]; exact b6) (by rw [St.upd_ne _ _ m7]; exact b7) (by rw [St.upd_ne _ _ m2]; exact c2) (by rw [St.upd_ne _ _ m4]; exact c4) rfl (by rw [St.upd_ne _ _ m5]; exact c5) (St.upd_same _ _ _) (r6.le l3.toLEv) (r7.le l3.toLEv) (r2.le l3.toLEv) (r4.le l3.toLEv) (r5.le l3.toLEv)).mono ?_⟩⟩
    rintro e u' w'' ⟨rfl, rfl, g5, l5, H5⟩
    have n45 : i4 ≠ i5 := fun e => by rw [e, c5] at c4; cases c4
    refine fin g5 w'' _ a3 e4' zeroN (.lit (.bool false)) (l3.trans l5) H5 (E4.le l5.toLEv) x4 x5 ⟨zeroN.cells, ?_, rfl, rfl⟩ (St.upd_same _ _ _) ⟨s, ?_, rfl, rfl⟩
    · rw [St.upd_ne _ _ n45]; exact St.upd_same _ _ _
    · intro j x hj
      have n4 : j ≠ i4 := fun e => by rw [e, z4] at hj; cases hj
      have n5 : j ≠ i5 := fun e => by rw [e, z5] at hj; cases hj
      rw [St.upd_ne _ _ n5, St.upd_ne _ _ n4]
      by_cases h1 : j = ir
      · subst h1; rw [St.upd_same, ← hs]; exact hj
      · rw [St.upd_ne _ _ h1, St.upd_ne _ _ h1]; exact hss2 _ _ hj
end
end Go.Pv

/- An item. -/
namespace Go.Pv
open Go.Proofs
set_option linter.unusedVariables false
set_option linter.unusedSimpArgs false
set_option maxRecDepth 100000
set_option maxHeartbeats 4000000
namespace Cx
section
variable (c : Cx) (p : NT → Nat → Out Nd) (n : Nat)
/-- The parts that an item may be. -/
def altF : Nat → Nat → Out Nd
  | 0 => c.typedefS p
  | 1 => c.structS p n
  | 2 => c.funcS p n
  | 3 => p (.decl .always)
  | 4 => c.declarerS p
  | _ => c.emptyS
/-- An item, so many parts are left to try. -/
def itemG : Nat → Nat → Out Nd
  | 0, i => .ok (c.rawN i) (c.rawE i)
  | m + 1, i => match c.altF p n (5 - m) i with
    | .fuel => .fuel
    | .bad => itemG m i
    | .ok x j => if 60 < x.lev then .ok (c.rawN i) (c.rawE i) else .ok x j
end
/-- An item, with so much fuel. -/
def itemS (c : Cx) (n : Nat) (i : Nat) : Out Nd := c.itemG (c.run n) n 6 i
/-- What is known behind an item. -/
def after (c : Cx) (x : Nd) : Cx := if x.op = 5 then (match x.l[1]? with
  | some y => { c with ty := y.s :: c.ty }
  | none => c) else c
end Cx
def altFn : Nat → FuncId
  | 0 => 120
  | 1 => 121
  | 2 => 122
  | 3 => 123
  | 4 => 124
  | _ => 125
section
variable {c : Cx} {p : NT → Nat → Out Nd} {s : St} {ir : Nat} {at_ n : Nat} {k : Int}
theorem alt_c (hc : c.ok) (hn : n ≤ 1000000000) (h0 : at_ < c.v.length) : ∀ q, MC c (altFn q) [] at_ ((c.altF (c.run n) n q at_).map encU)
  | 0 => typedef_c hc (ph_run hc n hn) (by omega)
  | 1 => struct_c hc (ph_run hc n hn) hn (by omega)
  | 2 => func_c hc (ph_run hc n hn) hn (by omega)
  | 3 => outer_c hc (ph_run hc n hn) (by omega)
  | 4 => declarer_c hc (ph_run hc n hn) h0
  | _ + 5 => empty_c hc (by omega)
theorem alt_sz (hc : c.ok) (h0 : at_ < c.v.length) : ∀ q, OP (c.altF (c.run n) n q at_) fun x j => at_ < j ∧ j ≤ c.v.length ∧ x.size ≤ 2 * (j - at_) ∧ (x.op = 5 → ∃ t y, x.l = [t, y])
  | 0 => (typedef_sz hc (pz_run hc n) (by omega)).mono fun x j h => ⟨h.1, h.2.1, h.2.2.1, fun _ => h.2.2.2.2⟩
  | 1 => (struct_sz hc (pz_run hc n) (by omega)).mono fun x j h => ⟨h.1, h.2.1, h.2.2.1, fun e => by rw [h.2.2.2] at e; cases e⟩
  | 2 => (func_sz hc (pz_run hc n) (by omega)).mono fun x j h => ⟨h.1, h.2.1, h.2.2.1, fun e => by rw [h.2.2.2] at e; cases e⟩
  | 3 => (outer_sz hc (by omega)).mono fun x j h => ⟨h.1, h.2.1, h.2.2.1, fun e => by rw [h.2.2.2] at e; cases e⟩
  | 4 => (declarer_sz hc (pz_run hc n) (by omega)).mono fun x j h => ⟨h.1, h.2.1, h.2.2.1, fun e => by rw [h.2.2.2] at e; cases e⟩
  | _ + 5 => (empty_sz hc (by omega)).mono fun x j h => ⟨h.1, h.2.1, h.2.2.1, fun e => by rw [h.2.2.2] at e; cases e⟩
theorem raw_lt (hc : c.ok) (h0 : at_ < c.v.length) : at_ < c.rawE at_ ∧ c.rawE at_ ≤ c.v.length := by
  unfold Cx.rawE
  rw [show c.v.length - at_ = (c.v.length - (at_ + 1)) + 1 by omega]
  unfold Cx.rawF
  rw [if_neg (by omega)]
  have he : at_ + 1 ≤ c.eat (at_ + 1) ⟨#[59]⟩ ∧ c.eat (at_ + 1) ⟨#[59]⟩ ≤ c.v.length := by
    unfold Cx.eat
    cases hh : c.is (at_ + 1) ⟨#[59]⟩ with
    | true => have := hc.lt hh; simp only [cond_true]; omega
    | false => simp only [cond_false]; omega
  have i0 := rawF_le hc (c.v.length - (at_ + 1)) (at_ + 1) 0 (by omega)
  have i1 := rawF_le hc (c.v.length - (at_ + 1)) (at_ + 1) (0 + 1) (by omega)
  have i2 := rawF_le hc (c.v.length - (at_ + 1)) (at_ + 1) (0 - 1) (by omega)
  repeat' split
  all_goals omega
theorem item_sz (hc : c.ok) (h0 : at_ < c.v.length) : ∀ m, OP (c.itemG (c.run n) n m at_) fun x j => at_ < j ∧ j ≤ c.v.length ∧ x.size ≤ 2 * (j - at_) ∧ (x.op = 5 → ∃ t y, x.l = [t, y])
  | 0 => by
    have := raw_lt hc h0
    refine .ok ⟨this.1, this.2, ?_, fun e => by cases e⟩
    unfold Cx.rawN
    simp
    omega
  | m + 1 => by
    unfold Cx.itemG
    have hz := alt_sz (n := n) hc h0 (5 - m)
    cases ha : c.altF (c.run n) n (5 - m) at_ with
    | fuel => exact .fuel
    | bad => exact item_sz hc h0 m
    | ok x j => exact .ite (fun _ => item_sz hc h0 0) fun _ => .ok (hz x j ha)
end
section
variable {P : Program} {imp : List Nat} {f : FuncId} {args : List SV} {ps : List PV} {st : SS} {b : St} {K : SV → SS → St → Prop} {Kp : List PanicEntry → SS → St → Prop}
theorem srel_upd {σ : Nat → Nat} {s : St} {ir : Nat} {x0 x : Blk} (hb : b ir = some x0) (hR : SRel imp σ st b s) : SRel imp σ st (b.upd ir (some x)) (s.upd ir (some x)) := by
  have hsn : ∀ k l, st[k]? = some (some l) → l.has = true → σ k ≠ ir := fun k l hk hl e => by
    have := hR.fr k l hk hl
    rw [e] at this
    rw [show b ir = none from this] at hb; cases hb
  refine ⟨fun k c hk => ?_, hR.imp, fun k l hk hl => ?_, hR.inj, fun k l hk => ?_⟩
  · by_cases hki : k = ir
    · subst hki; rw [St.upd_same] at hk ⊢; exact hk
    · rw [St.upd_ne _ _ hki] at hk ⊢; exact hR.sub k c hk
  · show (b.upd ir _) _ = none
    rw [St.upd_ne _ _ (hsn k l hk hl)]; exact hR.fr k l hk hl
  · have := hR.loc k l hk
    cases l with
    | cel ty sz cs => obtain ⟨ps, h1, h2⟩ := this; exact ⟨ps, h1, by rw [St.upd_ne _ _ (hsn k _ hk rfl)]; exact h2⟩
    | lst ty sz els =>
      cases els with
      | nil => exact trivial
      | cons c els => show (s.upd ir _) (σ k) = _; rw [St.upd_ne _ _ (hsn k _ hk rfl)]; exact this
theorem sc_eqb {b2 : St} (h : b = b2) (hs : SC P imp f args st b2 K Kp) : SC P imp f args st b K Kp := by rw [h]; exact hs
/-- A call that changes one block of the outer state. -/
theorem sc_out {ir : Nat} {x0 : Blk} {R : PV → Blk → Prop} (hb : b ir = some x0) (ha : args = pvs ps) (hl : ps.all PV.live = true)
    (h : ∀ s, b.sub s → PCalls P f ps s fun r s' => ∃ v x, r = .ret v ∧ s' = s.upd ir (some x) ∧ R v x) (hK : ∀ v x, R v x → K (.av (.pv v)) st (b.upd ir (some x))) : SC P imp f args st b K Kp := by
  intro σ s qs hR hA
  subst ha
  rw [pvs_rel hl hA]
  refine (h s hR.sub).mono ?_
  rintro _ s' ⟨v, x, rfl, rfl, hx⟩
  exact ⟨σ, st, _, .av (.pv v), .refl, srel_upd hb hR, Or.inr rfl, hK v x hx⟩
end
section
variable {c : Cx} {p : NT → Nat → Out Nd} {s : St} {ir : Nat} {at_ n : Nat} {k : Int}
@[reducible] def altP (ir : Nat) : List PV := [.fn (altFn 0) [.pt ir 0 0] [], .fn (altFn 1) [.pt ir 0 0] [], .fn (altFn 2) [.pt ir 0 0] [], .fn (altFn 3) [.pt ir 0 0] [], .fn (altFn 4) [.pt ir 0 0] [], .fn (altFn 5) [.pt ir 0 0] []]
theorem altP_get : ∀ q, q < 6 → (altP ir)[q]? = some (.fn (altFn q) [.pt ir 0 0] [])
  | 0, _ => rfl
  | 1, _ => rfl
  | 2, _ => rfl
  | 3, _ => rfl
  | 4, _ => rfl
  | 5, _ => rfl
  | _ + 6, h => absurd h (by omega)
/-- How an item ends. -/
def IR (c : Cx) (s : St) (ir : Nat) (o : Out Nd) (r : Res) (s' : St) : Prop := ∃ x j k', o = .ok x j ∧ r = .ret (encU x) ∧ ((x.op ≠ 5 ∧ s' = s.upd ir (some (rdRow c (j : Nat) k'))) ∨ (x.op = 5 ∧ ∃ t y es, x.l = [t, y] ∧ s c.it = some (.dict es) ∧ s' = (s.upd ir (some (rdRow c (j : Nat) k'))).upd c.it (some (.dict (dset es y.s (.lit (.bool true)))))))
theorem item_c (hc : c.ok) (hn9 : n ≤ 1000000000) (h0 : at_ < c.v.length) (hn : c.itemS n at_ ≠ .fuel) (he : c.env s) (hs : s ir = some (rdRow c (at_ : Nat) k)) : PCalls Tryz.prog 70 [.pt ir 0 0] s (IR c s ir (c.itemS n at_)) := by
  have hvl := hc.vl
  obtain ⟨o, ho⟩ : ∃ o, c.itemS n at_ = o := ⟨_, rfl⟩
  rw [ho] at hn ⊢
  unfold Cx.itemS at ho
  have hne : c.it ≠ ir := fun e => by obtain ⟨es, h, _⟩ := he; rw [e, hs] at h; cases h
  refine PCalls.fun (D := [(10, ([0, 1, 2, 4, 3, 5, 6, 7, 8, 9], [], []))]) ti_ok Tryz.func70 rfl (by kernel_rfl) ?_
  refine sw_loop (D := [(10, ([0, 1, 2, 4, 3, 5, 6, 7, 8, 9], [], []))]) ti_ok (by kernel_rfl) (fun m env st b => ∃ q : Nat, q + m = 6 ∧ c.itemG (c.run n) n m at_ = o ∧ env = [(0, .av (.pv (.pt ir 0 0))), (2, .av (.cell 0 0)), (20, .av (.pv (.vec .tight (altP ir)))), (21, intV 6), (22, intV (q : Nat))] ∧ st = [zLoc] ∧ s = b) 6 ⟨[0], [0, 2, 20, 21, 22], rfl, 0, rfl, ho, rfl, rfl, rfl⟩ ?_
  rintro m env st b ⟨q, hq, hm, rfl, rfl, rfl⟩
  clear ho
  rintro (_ | _) ht
  · have hm0 : m = 0 := by have := of_decide_eq_false ht; omega
    subst hm0
    unfold Cx.itemG at hm
    subst hm
    refine sc_eqb (b2 := s.upd ir (some (rdRow c (at_ : Nat) k))) (St.upd_self hs).symm ?_
    refine sc_out (ps := [.pt ir 0 0]) (R := fun v x => v = encU (c.rawN at_) ∧ ∃ k', x = rdRow c (c.rawE at_ : Nat) k') (St.upd_same _ _ _) rfl rfl (fun s hs' => ?_) ?_
    · refine (raw_c hc (show at_ ≤ c.v.length by omega) (by simp) s ir _ (Cx.env.sub ?_ hs') (hs' _ _ (St.upd_same _ _ _))).mono ?_
      · obtain ⟨es, h1, h2⟩ := he; exact ⟨es, by rw [St.upd_ne _ _ hne]; exact h1, h2⟩
      · rintro r s' ⟨k', rfl, rfl⟩; exact ⟨_, _, rfl, rfl, rfl, k', rfl⟩
    rintro v x ⟨rfl, k', rfl⟩
    exact ⟨_, _, k', rfl, rfl, .inl ⟨by unfold Cx.rawN Cx.nodeN; simp, by rw [St.upd_upd]⟩⟩
  have hq6 : q < 6 := by have := of_decide_eq_true ht; omega
  obtain ⟨m, rfl⟩ : ∃ m', m = m' + 1 := ⟨m - 1, by omega⟩
  unfold Cx.itemG at hm
  rw [show 5 - m = q by omega] at hm
  refine ⟨.fn (altFn q) [.pt ir 0 0] [], ⟨by omega, by rw [Int.toNat_natCast]; exact altP_get q hq6, rfl⟩, ?_⟩
  refine ⟨[.lit (.int .i64 (at_ : Nat))], .lit (.int .i64 (at_ : Nat)), by simp only [cellsAt, hs]; rfl, rfl, ?_⟩
  have hsz := alt_sz (n := n) hc h0 q
  have hq1 := alt_c (n := n) hc hn9 h0 q
  cases ha : c.altF (c.run n) n q at_ with
  | fuel => rw [ha] at hm; exact absurd hm.symm hn
  | bad =>
    rw [ha] at hm hq1
    simp only at hm
    refine sc_out (ps := [.pt ir 0 0, .fn (altFn q) [.pt ir 0 0] []]) (R := fun v x => v = .tup [zeroN, .lit (.bool false)] ∧ x = rdRow c (at_ : Nat) k) hs rfl rfl (fun s1 hs1 => ?_) ?_
    · refine (whole_c hc hq1 (by simp) (he.sub hs1) (hs1 _ _ hs)).mono ?_
      rintro r s' ⟨rfl, rfl⟩
      exact ⟨_, _, rfl, (St.upd_self (hs1 _ _ hs)).symm, rfl, rfl⟩
    rintro v x ⟨rfl, rfl⟩
    refine ⟨m, by omega, [0], [0, 2, 20, 21, 22], rfl, q + 1, by omega, hm, ?_, rfl, (St.upd_self hs).symm⟩
    rw [← inc (show q ≤ 1000000000 by omega)]; rfl
  | ok x j =>
    rw [ha] at hm hq1
    simp only at hm
    obtain ⟨z1, z2, z3, z4⟩ := hsz x j ha
    refine sc_out (ps := [.pt ir 0 0, .fn (altFn q) [.pt ir 0 0] []]) (R := fun v y => v = .tup [encU x, .lit (.bool true)] ∧ ∃ k', y = rdRow c (j : Nat) k') hs rfl rfl (fun s1 hs1 => ?_) ?_
    · refine (whole_c hc hq1 (by simp) (he.sub hs1) (hs1 _ _ hs)).mono ?_
      rintro r s' ⟨k', rfl, rfl⟩
      exact ⟨_, _, rfl, rfl, rfl, k', rfl⟩
    rintro v y ⟨rfl, k', rfl⟩
    refine sc_pure (fun s _ => lev_c x (by omega) s) rfl rfl ?_
    rintro (_ | _) hl
    · have hl := of_decide_eq_false hl
      rw [if_neg (by omega)] at hm
      subst hm
      rintro (_ | _) h5
      · have h5 : x.op ≠ 5 := of_decide_eq_false h5
        exact ⟨x, j, k', rfl, rfl, .inl ⟨h5, rfl⟩⟩
      · have h5 : x.op = 5 := of_decide_eq_true h5
        obtain ⟨t, y, hxl⟩ := z4 h5
        obtain ⟨es, he1, he2⟩ := he
        refine ⟨by kernel_rfl, ?_⟩
        refine ⟨[.mp c.it], .mp c.it, by simp only [cellsAt, St.upd_same]; rfl, rfl, ?_⟩
        refine ⟨encU y, ⟨by omega, by rw [hxl]; exact congrArg some (enc_eq y), rfl⟩, ?_⟩
        refine ⟨es, by rw [St.upd_ne _ _ hne]; exact he1, ?_⟩
        exact ⟨x, j, k', rfl, rfl, .inr ⟨h5, t, y, es, hxl, he1, rfl⟩⟩
    · have hl := of_decide_eq_true hl
      rw [if_pos (by omega)] at hm
      subst hm
      refine ⟨_, _, _, _, _, rfl, St.upd_same _ _ _, rfl, by show 5 ≤ 8; omega, ?_⟩
      refine sc_eqb (b2 := s.upd ir (some (rdRow c (at_ : Nat) k'))) (by rw [St.upd_upd]; rfl) ?_
      refine sc_out (ps := [.pt ir 0 0]) (R := fun v x => v = encU (c.rawN at_) ∧ ∃ k', x = rdRow c (c.rawE at_ : Nat) k') (St.upd_same _ _ _) rfl rfl (fun s hs' => ?_) ?_
      · refine (raw_c hc (show at_ ≤ c.v.length by omega) (by simp) s ir _ (Cx.env.sub ?_ hs') (hs' _ _ (St.upd_same _ _ _))).mono ?_
        · obtain ⟨es, h1, h2⟩ := he; exact ⟨es, by rw [St.upd_ne _ _ hne]; exact h1, h2⟩
        · rintro r s' ⟨k', rfl, rfl⟩; exact ⟨_, _, rfl, rfl, rfl, k', rfl⟩
      rintro v x ⟨rfl, k', rfl⟩
      exact ⟨_, _, k', rfl, rfl, .inl ⟨by unfold Cx.rawN Cx.nodeN; simp, by rw [St.upd_upd]⟩⟩
end
end Go.Pv

/- A reader is made. -/
namespace Go.Pv
open Go.Proofs
set_option linter.unusedVariables false
set_option linter.unusedSimpArgs false
set_option maxRecDepth 100000
set_option maxHeartbeats 4000000
/-- The place behind what is seen. -/
def endP (l : List Tk) (v : List Int) : Nat := if 0 < v.length ∧ (tokV l v (v.length - 1)).kind = 0 then (v.getD (v.length - 1) 0).toNat else l.length
def seenL (l : List Tk) (v : List Int) : List Nat := (sightL l v).map fun x => (v.getD x.1 0).toNat
def cxOf (kk k0 : VK) (l : List Tk) (v : List Int) (it : Nat) : Cx := ⟨kk, k0, k0, l, seenL l v, sgL (sightL l v), endP l v, it, [], .lit (.map none)⟩
theorem sightF_mem (l : List Tk) (v : List Int) : ∀ (n k : Nat), ∀ x ∈ sightF l v n k, x.1 < v.length
  | 0, k, x, h => by cases h
  | n + 1, k, x, h => by
    unfold sightF at h
    split at h
    · split at h
      · exact sightF_mem l v n _ x h
      · split at h
        · rcases List.mem_cons.1 h with rfl | h
          · assumption
          · exact sightF_mem l v n _ x h
        · exact sightF_mem l v n _ x h
    · cases h
theorem sightF_len (l : List Tk) (v : List Int) : ∀ (n k : Nat), (sightF l v n k).length ≤ n
  | 0, k => by simp [sightF]
  | n + 1, k => by
    unfold sightF
    split
    · split
      · have := sightF_len l v n (callT l v k).1.toNat; omega
      · split
        · have := sightF_len l v n (k + 1); simp; omega
        · have := sightF_len l v n (k + 1); omega
    · simp
theorem seen_natL {l : List Tk} {v : List Int} (hv : AscV l.length v) (k0 : VK) : ints k0 (svL v (sightL l v)) = natL k0 (seenL l v) := by
  unfold svL seenL ints natL
  rw [List.map_map, List.map_map]
  congr 1
  refine List.map_congr_left fun x hx => ?_
  have hlt := sightF_mem l v _ _ x hx
  have hg := List.getElem?_eq_getElem hlt
  have hr := hv.rng _ (List.getElem_mem hlt)
  simp only [Function.comp, List.getD, hg, Option.getD]
  congr 2
  omega
theorem cxOf_ok {kk k0 : VK} {l : List Tk} {v : List Int} {it : Nat} (hv : AscV l.length v) (h1 : l.length ≤ 1000000000) (h2 : v.length ≤ 1000000) (h3 : ∀ t ∈ l, t.text.size ≤ 1000000) : (cxOf kk k0 l v it).ok := by
  refine ⟨fun p hp => ?_, h1, ?_, h3, ?_, ?_, rfl⟩
  · obtain ⟨x, hx, rfl⟩ := List.mem_map.1 hp
    have hlt := sightF_mem l v _ _ x hx
    have hg := List.getElem?_eq_getElem hlt
    have hr := hv.rng _ (List.getElem_mem hlt)
    show (v.getD x.1 0).toNat < l.length
    simp only [List.getD, hg, Option.getD]
    omega
  · show (seenL l v).length ≤ _
    have := sightF_len l v v.length 0
    unfold seenL
    rw [List.length_map]
    show (sightF l v v.length 0).length ≤ _
    omega
  · show endP l v ≤ _
    unfold endP
    split
    · rename_i h
      have hlt : v.length - 1 < v.length := by omega
      have hg := List.getElem?_eq_getElem hlt
      have hr := hv.rng _ (List.getElem_mem hlt)
      simp only [List.getD, hg, Option.getD]
      omega
    · exact h1
  · show (sgL (sightL l v)).length = (seenL l v).length
    simp [sgL, seenL]
theorem begin_c (kk kv : VK) (l : List Tk) (v : List Int) (hv : SiteV l v) (hx : ∀ t ∈ l, t.text.size ≤ 1000000) (hl : v.length ≤ 1000000) (s : St) : PCalls Tryz.prog 68 [toks kk l, ints kv v] s (fun r s' => ∃ k0 it ir, s it = none ∧ (s.upd it (some (.dict []))) ir = none ∧ s' = (s.upd it (some (.dict []))).upd ir (some (rdRow (cxOf kk k0 l v it) 0 0)) ∧ r = .ret (.tup [.pt ir 0 0, .lit (.int .i64 0)])) := by
  refine PCalls.funG (D := []) ti_ok Tryz.func68 rfl (by kernel_rfl) ?_
  refine sc_pureR (ps := [toks kk l, ints kv v]) (R := fun x => ∃ k0 : VK, x = .tup [ints k0 (svL v (sightL l v)), ints k0 (sgL (sightL l v)), .lit (.int .i64 0)]) (fun s2 _ => (sight_c kk kv l v hv hx hl s2).mono ?_) rfl rfl ?_
  · rintro r s' ⟨rfl, k0, rfl⟩
    exact ⟨rfl, _, ⟨k0, rfl⟩, rfl⟩
  rintro _ ⟨k0, rfl⟩
  rintro (_ | _) h0
  · exact absurd h0 (by decide)
  have hn := seen_natL hv.asc k0
  rintro (_ | _) h1
  · have h1 := of_decide_eq_false h1
    rw [List.length_map] at h1
    intro it hit
    refine Gh.cellOut (k := 0) (ps := [toks kk l, ints k0 (svL v (sightL l v)), ints k0 (sgL (sightL l v)), .mp it, .lit (.int .i64 0), .lit (.int .i64 ((l.map encT).length : Nat)), .lit (.int .i64 0), .lit (.map none)]) rfl rfl (fun ir hir => Gh.ret ⟨k0, it, ir, hit, hir, ?_, rfl⟩)
    rw [hn]
    have he : (endP l v : Int) = ((l.map encT).length : Nat) := by
      unfold endP
      rw [if_neg (by omega), List.length_map]
    show _ = St.upd _ _ (some (.row _ _ [[toks kk l, natL k0 (seenL l v), ints k0 (sgL (sightL l v)), .mp it, .lit (.int .i64 0), .lit (.int .i64 (endP l v : Nat)), .lit (.int .i64 0), .lit (.map none)]]))
    rw [he]
    rfl
  have h1 := of_decide_eq_true h1
  rw [List.length_map] at h1
  have hvl : v.length - 1 < v.length := by omega
  obtain ⟨q, g1, g2, g3⟩ := tokV_get hv.asc hvl
  have w1 : IntKind.i64.wrap ((v.length : Int) - 1) = ((v.length - 1 : Nat) : Int) := by rw [wrap_i64 (by omega) (by omega)]; omega
  have ix : 0 ≤ IntKind.i64.wrap (((v.map fun n => PV.lit (.int .i64 n)).length : Int) - 1) ∧ (v.map fun n => PV.lit (.int .i64 n))[(IntKind.i64.wrap (((v.map fun n => PV.lit (.int .i64 n)).length : Int) - 1)).toNat]? = some (.lit (.int .i64 (q : Nat))) := by
    rw [List.length_map, w1]
    exact ⟨by omega, by rw [Int.toNat_natCast, List.getElem?_map, g1]; rfl⟩
  refine ⟨.lit (.int .i64 (q : Nat)), ⟨ix.1, ix.2, rfl⟩, ?_⟩
  refine ⟨encT (tokV l v (v.length - 1)), ⟨by omega, by rw [Int.toNat_natCast, List.getElem?_map, g3]; rfl, rfl⟩, ?_⟩
  rintro (_ | _) h2
  · have h2 : ¬ (tokV l v (v.length - 1)).kind = 0 := of_decide_eq_false h2
    intro it hit
    refine Gh.cellOut (k := 0) (ps := [toks kk l, ints k0 (svL v (sightL l v)), ints k0 (sgL (sightL l v)), .mp it, .lit (.int .i64 0), .lit (.int .i64 ((l.map encT).length : Nat)), .lit (.int .i64 0), .lit (.map none)]) rfl rfl (fun ir hir => Gh.ret ⟨k0, it, ir, hit, hir, ?_, rfl⟩)
    rw [hn]
    have he : (endP l v : Int) = ((l.map encT).length : Nat) := by
      unfold endP
      rw [if_neg (by omega), List.length_map]
    show _ = St.upd _ _ (some (.row _ _ [[toks kk l, natL k0 (seenL l v), ints k0 (sgL (sightL l v)), .mp it, .lit (.int .i64 0), .lit (.int .i64 (endP l v : Nat)), .lit (.int .i64 0), .lit (.map none)]]))
    rw [he]
    rfl
  have h2 : (tokV l v (v.length - 1)).kind = 0 := of_decide_eq_true h2
  refine ⟨.lit (.int .i64 (q : Nat)), ⟨ix.1, ix.2, rfl⟩, ?_⟩
  intro it hit
  refine Gh.cellOut (k := 0) (ps := [toks kk l, ints k0 (svL v (sightL l v)), ints k0 (sgL (sightL l v)), .mp it, .lit (.int .i64 0), .lit (.int .i64 (q : Nat)), .lit (.int .i64 0), .lit (.map none)]) rfl rfl (fun ir hir => Gh.ret ⟨k0, it, ir, hit, hir, ?_, rfl⟩)
  rw [hn]
  have he : (endP l v : Int) = (q : Nat) := by
    unfold endP
    rw [if_pos ⟨by omega, h2⟩]; simp [List.getD, g1]
  show _ = St.upd _ _ (some (.row _ _ [[toks kk l, natL k0 (seenL l v), ints k0 (sgL (sightL l v)), .mp it, .lit (.int .i64 0), .lit (.int .i64 (endP l v : Nat)), .lit (.int .i64 0), .lit (.map none)]]))
  rw [he]
  rfl
end Go.Pv

/- The program's lexer: a comment. -/
namespace Go.Pv
open Go.Proofs
set_option linter.unusedVariables false
set_option linter.unusedSimpArgs false
set_option maxRecDepth 100000
set_option maxHeartbeats 400000
theorem prefix_beg (t : ByteArray) (x : List UInt8) (a : Nat) (ha : a ≤ t.size) : x.isPrefixOf (t.data.toList.drop a) = beg t a ⟨x.toArray⟩ := by
  have hl : t.data.toList.length = t.size := by simp
  have hx : (⟨x.toArray⟩ : ByteArray).size = x.length := by simp [ByteArray.size]
  have he : (t.extract a (a + x.length)).data.toList = (t.data.toList.drop a).take x.length := by
    rw [ByteArray.data_extract]
    simp
  unfold beg
  rw [hx, Bool.eq_iff_iff, List.isPrefixOf_iff_prefix]
  simp only [Bool.and_eq_true, decide_eq_true_eq]
  constructor
  · rintro ⟨r, hr⟩
    have h1 : a + x.length ≤ t.size := by
      have := congrArg List.length hr
      simp at this
      omega
    refine ⟨h1, ?_⟩
    apply ByteArray.ext
    apply Array.ext'
    rw [he, ← hr]
    simp
  · rintro ⟨h1, h2⟩
    have h3 := congrArg (fun y : ByteArray => y.data.toList) h2
    simp only [he] at h3
    refine ⟨(t.data.toList.drop a).drop x.length, ?_⟩
    have : x = (t.data.toList.drop a).take x.length := h3.symm
    conv => lhs; arg 1; rw [this]
    exact List.take_append_drop _ _
theorem index_drop (t : ByteArray) (x : List UInt8) (hx : x ≠ []) : ∀ (m a : Nat), t.size - a = m → Lib.index (t.data.toList.drop a) x = (if scanW (fun j => !beg t j ⟨x.toArray⟩) t.size a < t.size then ((scanW (fun j => !beg t j ⟨x.toArray⟩) t.size a - a : Nat) : Int) else -1)
  | 0, a, hm => by
    have hl : t.data.toList.length = t.size := by simp
    rw [List.drop_eq_nil_of_le (by omega), scanW_end (by omega), if_neg (by omega)]
    unfold Lib.index
    cases x with
    | nil => exact absurd rfl hx
    | cons => rfl
  | m + 1, a, hm => by
    have hl : t.data.toList.length = t.size := by simp
    have ha : a < t.data.toList.length := by omega
    have ih := index_drop t x hx m (a + 1) (by omega)
    have hp := prefix_beg t x a (by omega)
    rw [List.drop_eq_getElem_cons ha] at hp ⊢
    rw [Lib.index, ih, hp]
    by_cases hc : beg t a ⟨x.toArray⟩ = true
    · rw [scanW_stop (i := a) (by simp [hc]), if_pos hc, if_pos (by omega), Nat.sub_self]
      rfl
    · rw [scanW_step (i := a) (by omega) (by simp [hc])]
      have hge := scanW_ge (fun j => !beg t j ⟨x.toArray⟩) t.size (a + 1)
      generalize scanW (fun j => !beg t j ⟨x.toArray⟩) t.size (a + 1) = k at *
      rw [if_neg hc]
      by_cases hk : k < t.size
      · simp only [hk, if_true]
        have h1 : ¬ ((k - (a + 1) : Nat) : Int) = -1 := by omega
        simp [h1]
        omega
      · simp [hk]
theorem index_rest (t : ByteArray) (x : List UInt8) (hx : x ≠ []) (a : Nat) : Lib.index (t.extract a t.size).data.toList x = (if scanW (fun j => !beg t j ⟨x.toArray⟩) t.size a < t.size then ((scanW (fun j => !beg t j ⟨x.toArray⟩) t.size a - a : Nat) : Int) else -1) := by
  rw [ext_list]; exact index_drop t x hx _ a rfl
theorem scanW_congr {p q : Nat → Bool} {n : Nat} : ∀ (m i : Nat), n - i = m → (∀ j, i ≤ j → j < n → p j = q j) → scanW p n i = scanW q n i
  | 0, i, hm, h => by rw [scanW_end (by omega), scanW_end (by omega)]
  | m + 1, i, hm, h => by
    have h1 := h i (Nat.le_refl _) (by omega)
    by_cases hp : p i = true
    · rw [scanW_step (p := p) (i := i) (by omega) hp, scanW_step (p := q) (i := i) (by omega) (by rw [← h1]; exact hp)]
      exact scanW_congr m (i + 1) (by omega) (fun j hj hn => h j (by omega) hn)
    · rw [scanW_stop (p := p) (i := i) (by simpa using hp), scanW_stop (p := q) (i := i) (by rw [← h1]; simpa using hp)]
theorem bt_ext (t : ByteArray) (e : Nat) (he : e ≤ t.size) (j : Nat) (hj : j < e) : bt (t.extract 0 e) j = bt t j := by
  have h1 : j < (t.extract 0 e).size := by simp; omega
  rw [← bt_get _ j h1, ← bt_get t j (by omega)]
  simp [ByteArray.getElem_eq_getElem_data]
theorem nl_ext (t : ByteArray) (a e : Nat) (hae : a ≤ e) (he : e ≤ t.size) : decide (0 ≤ Lib.indexByte (t.extract a e).data.toList 10) = hasNL t a e := by
  have h1 : t.extract a e = (t.extract 0 e).extract a (t.extract 0 e).size := by
    rw [ByteArray.extract_extract]
    simp
    congr 1 <;> omega
  have hs : (t.extract 0 e).size = e := by simp; omega
  rw [h1, idxB_rest, hs, show (((10 : UInt8).toNat : Nat) : Int) = 10 from rfl]
  rw [scanW_congr (q := fun j => decide (bt t j ≠ 10)) (e - a) a rfl (fun j h2 h3 => by rw [bt_ext t e he j h3])]
  unfold hasNL
  generalize scanW (fun j => decide (bt t j ≠ 10)) e a = k
  by_cases h : k < e
  · rw [if_pos h]
    simp [h]
  · rw [if_neg h]
    simp [h]
theorem beg_byte {t : ByteArray} {a : Nat} {b : UInt8} {x : List UInt8} (h : beg t a ⟨(b :: x).toArray⟩ = true) : bt t a = (b.toNat : Int) := by
  have ha : a ≤ t.size := by have := beg_le h; omega
  rw [← prefix_beg t _ a ha, List.isPrefixOf_iff_prefix] at h
  obtain ⟨r, hr⟩ := h
  have hl : t.data.toList.length = t.size := by simp
  have hlt : a < t.data.toList.length := by
    have := congrArg List.length hr
    simp at this
    omega
  rw [List.drop_eq_getElem_cons hlt] at hr
  simp at hr
  rw [← bt_list t a hlt]
  have h1 := hr.1
  simp at h1 ⊢
  rw [← h1]
section
variable {t : ByteArray} {a : Nat} {M S : PV} {c : Bool} {s : St} {p : Nat}
def isC1 (t : ByteArray) (a : Nat) : Bool := beg t a ⟨#[47, 47]⟩
def isC2 (t : ByteArray) (a : Nat) : Bool := beg t a ⟨#[47, 42]⟩
theorem comment_c (hv : Vars s) (hb : s p = some (scB t a M S c)) (ht : t.size ≤ 1000000) (ha : a ≤ t.size) : PCalls Tryz.prog 172 [.pt p 0 0] s (fun r s' => r = .ret (.lit (.bool (isC1 t a || isC2 t a))) ∧
    s' = s.upd p (some (scB t (cmtEnd t a) M S (if isC1 t a then c else if isC2 t a then c || hasNL t a (cmtEnd t a) else c)))) := by
  refine PCalls.of Tryz.func172 rfl (by rfl) (by simp [Tryz.ntmps172]) ?_
  refine PW.cutR fun R hR hC => ?_
  simp [Tryz.ntmps172]
  refine hR _ _ ?_
  clear hR hC R
  refine PW.cutR fun R hR hC => ?_
  simp
  refine (rest_c hb ht ha).mono ?_
  rintro _ s1 ⟨hs1, rfl⟩
  rw [hs1]
  clear hs1 s1
  have husz : (t.extract a t.size).size = t.size - a := by simp
  simp
  refine hR _ _ ?_
  clear hR hC R
  refine PW.cutR fun R hR hC => ?_
  simp
  refine (prefix_c _ _ _).mono ?_
  rintro _ s1 ⟨hs1, rfl⟩
  rw [hs1]
  clear hs1 s1
  rw [prefB_rest t a _ ha]
  by_cases h1 : beg t a ⟨#[47, 47]⟩ = true
  · have hE : cmtEnd t a = scanW (fun j => decide (bt t j ≠ 10)) t.size a := by unfold cmtEnd; rw [if_pos h1]
    have hge := scanW_ge (fun j => decide (bt t j ≠ 10)) t.size a
    have hle := scanW_le (fun j => decide (bt t j ≠ 10)) ha
    rw [hE]
    simp [h1, isC1]
    refine (idxByte_c _ 10 _).mono ?_
    rintro _ s1 ⟨hs1, rfl⟩
    rw [hs1]
    clear hs1 s1
    rw [show (10 : Int).toNat.toUInt8 = 10 from rfl, idxB_rest, show (((10 : UInt8).toNat : Nat) : Int) = 10 from rfl]
    generalize scanW (fun j => decide (bt t j ≠ 10)) t.size a = J at *
    by_cases hJ : J < t.size
    · rw [if_pos hJ]
      have hn : ¬ ((J - a : Nat) : Int) < 0 := by omega
      have w1 : IntKind.i64.wrap ((a : Int) + ((J - a : Nat) : Int)) = (J : Int) := by rw [wrap_i64 (by omega) (by omega)]; omega
      simp [hn, hb, w1, h1]
    · rw [if_neg hJ]
      have hJ2 : J = t.size := by omega
      subst hJ2
      have w1 : IntKind.i64.wrap ((a : Int) + ((t.size - a : Nat) : Int)) = (t.size : Int) := by rw [wrap_i64 (by omega) (by omega)]; omega
      simp [hb, husz, w1, h1]
  · simp [h1, isC1]
    refine (prefix_c _ _ _).mono ?_
    rintro _ s1 ⟨hs1, rfl⟩
    rw [hs1]
    clear hs1 s1
    rw [prefB_rest t a _ ha]
    by_cases h2 : beg t a ⟨#[47, 42]⟩ = true
    · have hsz := beg_le h2
      have h22 : (⟨#[47, 42]⟩ : ByteArray).size = 2 := rfl
      rw [h22] at hsz
      have hE : cmtEnd t a = (if scanW (fun j => !beg t j ⟨#[42, 47]⟩) t.size (a + 2) < t.size then scanW (fun j => !beg t j ⟨#[42, 47]⟩) t.size (a + 2) + 2 else t.size) := by unfold cmtEnd; rw [if_neg h1, if_pos h2]
      have hle := cmtEnd_le (t := t) (i := a) ha
      have hu1 : (t.extract a t.size).extract 2 (t.size - a) = t.extract (a + 2) t.size := by
        rw [ByteArray.extract_extract]; congr 1; omega
      have h2s : 2 ≤ t.size - a := by omega
      simp [h1, h2, husz, h2s]
      rw [hu1]
      refine (index_c (t.extract (a + 2) t.size) ⟨#[42, 47]⟩ (by simp; omega) _ hv).mono ?_
      rintro _ s1 ⟨hs1, rfl⟩
      rw [hs1]
      clear hs1 s1
      rw [show (⟨#[42, 47]⟩ : ByteArray).data.toList = [42, 47] from rfl, index_rest t [42, 47] (by simp), show (⟨[42, 47].toArray⟩ : ByteArray) = ⟨#[42, 47]⟩ from rfl]
      have hge := scanW_ge (fun j => !beg t j ⟨#[42, 47]⟩) t.size (a + 2)
      have hend : ∀ E : Nat, E = cmtEnd t a → a ≤ E → (t.extract a t.size).extract 0 (E - a) = t.extract a E := fun E hE1 hE2 => by
        rw [ByteArray.extract_extract]; congr 1 <;> omega
      generalize scanW (fun j => !beg t j ⟨#[42, 47]⟩) t.size (a + 2) = J at *
      have fin : ∀ (E : Nat), E = cmtEnd t a → a ≤ E → True := fun _ _ _ => trivial
      by_cases hJ : J < t.size
      · rw [if_pos hJ] at hE ⊢
        rw [hE] at hle
        obtain ⟨E, hEE⟩ : ∃ E, E = J + 2 := ⟨_, rfl⟩
        rw [← hEE] at hE hle
        have w1 : IntKind.i64.wrap (((J - (a + 2) : Nat) : Int) + 4) = ((E - a : Nat) : Int) := by rw [wrap_i64 (by omega) (by omega)]; omega
        have hn : ¬ ((E - a : Nat) : Int) < 4 := by omega
        have hn' : ¬ (E - a) < 4 := by omega
        have hx := hend E hE.symm (by omega)
        have hlez : E - a ≤ t.size - a := by omega
        have w2 : IntKind.i64.wrap ((a : Int) + ((E - a : Nat) : Int)) = (E : Int) := by rw [wrap_i64 (by omega) (by omega)]; omega
        rw [hE]
        cases c with
        | true =>
          simp [hb, w1, hn, hn', h1, h2, isC1, isC2, w2]
        | false =>
          simp [hb, w1, hn, hn', husz, hlez, hx]
          refine (contains1_c _ 10 _).mono ?_
          rintro _ s1 ⟨hs1, rfl⟩
          rw [hs1]
          clear hs1 s1
          rw [nl_ext t a E (by omega) hle]
          simp [hb, w1, hn, hn', h1, h2, isC1, isC2, w2]
      · rw [if_neg hJ] at hE ⊢
        have hx := hend t.size hE.symm ha
        have w1 : IntKind.i64.wrap 3 = 3 := by decide
        have w2 : IntKind.i64.wrap ((a : Int) + ((t.size - a : Nat) : Int)) = (t.size : Int) := by rw [wrap_i64 (by omega) (by omega)]; omega
        rw [hE]
        cases c with
        | true =>
          simp [hb, w1, h1, h2, isC1, isC2, w2, husz]
        | false =>
          simp [hb, w1, husz, hx]
          refine (contains1_c _ 10 _).mono ?_
          rintro _ s1 ⟨hs1, rfl⟩
          rw [hs1]
          clear hs1 s1
          rw [nl_ext t a t.size ha (Nat.le_refl _)]
          simp [hb, w1, h1, h2, isC1, isC2, w2, husz]
    · have hE : cmtEnd t a = a := by unfold cmtEnd; rw [if_neg h1, if_neg h2]
      rw [hE] at hR
      simp [h1, h2]
      refine hR _ _ ?_
      refine pwC_sound _ _ _ _ ?_
      simp [h1, h2, isC1, isC2, St.upd_self hb]
end
end Go.Pv

/- The program's lexer: what stands before a token. -/
namespace Go.Pv
open Go.Proofs
set_option linter.unusedVariables false
set_option linter.unusedSimpArgs false
set_option maxRecDepth 100000
set_option maxHeartbeats 400000
theorem scanW_cut {p : Nat → Bool} {n : Nat} : ∀ (m i : Nat), n - i = m → scanW p (scanW p n i) i = scanW p n i
  | 0, i, hm => by rw [scanW_end (n := n) (by omega)]; exact scanW_end (Nat.le_refl _)
  | m + 1, i, hm => by
    by_cases hp : p i = true
    · rw [scanW_step (n := n) (i := i) (by omega) hp]
      have hge := scanW_ge p n (i + 1)
      rw [scanW_step (i := i) (by omega) hp]
      exact scanW_cut m (i + 1) (by omega)
    · rw [scanW_stop (n := n) (i := i) (by simpa using hp)]
      exact scanW_stop (by simpa using hp)
theorem c1_facts {t : ByteArray} {i : Nat} (c : Bool) (h : isC1 t i = true) : i < pieceEnd t i ∧ pieceEnd t i = cmtEnd t i ∧ clearB t i (pieceEnd t i) c = c := by
  have hb : bt t i = 47 := beg_byte h
  have hle := beg_le h
  have h2 : (⟨#[47, 47]⟩ : ByteArray).size = 2 := rfl
  unfold isC1 at h
  have hE : cmtEnd t i = scanW (fun j => decide (bt t j ≠ 10)) t.size i := by unfold cmtEnd; rw [if_pos h]
  have hP : pieceEnd t i = cmtEnd t i := by simp [pieceEnd, isB, hb]
  have hgt : i < cmtEnd t i := by
    rw [hE, scanW_step (by omega) (by simp [hb])]
    exact scanW_ge _ _ (i + 1)
  refine ⟨by rw [hP]; exact hgt, hP, ?_⟩
  have hN : hasNL t i (cmtEnd t i) = false := by
    unfold hasNL
    rw [hE, scanW_cut _ i rfl]
    simp
  rw [hP]
  simp [clearB, hb, hN]
theorem c2_facts {t : ByteArray} {i : Nat} (c : Bool) (h1 : ¬ isC1 t i = true) (h : isC2 t i = true) : i < pieceEnd t i ∧ pieceEnd t i = cmtEnd t i ∧ clearB t i (pieceEnd t i) c = (c || hasNL t i (cmtEnd t i)) := by
  have hb : bt t i = 47 := beg_byte h
  have hle := beg_le h
  have h2 : (⟨#[47, 42]⟩ : ByteArray).size = 2 := rfl
  have hP : pieceEnd t i = cmtEnd t i := by simp [pieceEnd, isB, hb]
  unfold isC1 at h1
  unfold isC2 at h
  have hgt : i < cmtEnd t i := by
    unfold cmtEnd
    rw [if_neg h1, if_pos h]
    have hge := scanW_ge (fun j => !beg t j ⟨#[42, 47]⟩) t.size (i + 2)
    simp only
    split <;> omega
  refine ⟨by rw [hP]; exact hgt, hP, ?_⟩
  rw [hP]
  cases hN : hasNL t i (cmtEnd t i) <;> simp [clearB, hb, hN]
theorem c0_facts {t : ByteArray} {i : Nat} (h1 : ¬ isC1 t i = true) (h2 : ¬ isC2 t i = true) : cmtEnd t i = i := by
  unfold isC1 at h1
  unfold isC2 at h2
  unfold cmtEnd
  rw [if_neg h1, if_neg h2]
theorem nl_here {t : ByteArray} {i j e : Nat} (hij : i ≤ j) (hje : j < e) (h : bt t j = 10) : hasNL t i e = true := by
  unfold hasNL
  have hsub : ∀ (m i : Nat), j - i = m → i ≤ j → scanW (fun k => decide (bt t k ≠ 10)) e i ≤ j := by
    intro m
    induction m with
    | zero =>
      intro i hm hi
      have : i = j := by omega
      subst this
      rw [scanW_stop (by simp [h])]
      exact Nat.le_refl _
    | succ m ih =>
      intro i hm hi
      by_cases hb : bt t i = 10
      · rw [scanW_stop (by simp [hb])]; exact hi
      · rw [scanW_step (by omega) (by simp [hb])]
        exact ih (i + 1) (by omega) (by omega)
  have := hsub _ i rfl hij
  simp only [decide_eq_true_eq]
  omega
section
variable {t : ByteArray} {a : Nat} {M S : PV} {c : Bool} {s : St} {p : Nat}
def BefI (t : ByteArray) (a : Nat) (M S : PV) (c : Bool) (s : St) (p n : Nat) (e : Env) (s' : St) : Prop := ∃ (i : Nat) (d : Bool), i + n = t.size ∧ a ≤ i ∧ e 0 = .pt p 0 0 ∧ e 3 = .lit (.int .i64 a) ∧ s' = s.upd p (some (scB t i M S d)) ∧ bef t i d = bef t a c
theorem before_c (hv : Vars s) (hb : s p = some (scB t a M S c)) (ht : t.size ≤ 1000000) (ha : a ≤ t.size) : PCalls Tryz.prog 109 [.pt p 0 0] s (fun r s' => r = .ret (.lit (.string (t.extract a (bef t a c).1))) ∧
    s' = s.upd p (some (scB t (bef t a c).1 M S (bef t a c).2))) := by
  refine PCalls.of Tryz.func109 rfl (by rfl) (by simp [Tryz.ntmps109]) ?_
  refine PW.cutR fun R hR hC => ?_
  simp [Tryz.ntmps109]
  refine hR _ _ ?_
  clear hR hC R
  refine PW.cutR fun R hR hC => ?_
  simp [hb]
  refine hR _ _ ?_
  clear hR hC R
  refine PW.cutR fun R hR hC => ?_
  simp
  obtain ⟨hp0, hp2⟩ := hv.ne hb
  refine PW.loop (BefI t a M S c s p) (t.size - a) ⟨a, c, by omega, by omega, by simp, by simp, (St.upd_self hb).symm, rfl⟩ ?_
  rintro n e s' ⟨i, d, hn, hai, e0, e3, rfl, hbef⟩
  have hvi : Vars (s.upd p (some (scB t i M S d))) := hv.upd hp0 hp2
  have hbi : (s.upd p (some (scB t i M S d))) p = some (scB t i M S d) := St.upd_same _ _ _
  refine pwC_sound _ _ _ _ ?_
  simp
  refine PW.drawn (fun i => 0) [0, 1, 2, 3, 4, 5, 6, 7, 8, 9] mixed_ (fun _ _ _ _ h => h) (by kernel_rfl) ?_
  by_cases hi : i < t.size
  · have hi' : (i : Int) < t.size := by omega
    simp [e0, hi, hi']
    refine PW.drawn (fun i => 0) [0, 1, 2, 3, 4, 5, 6, 7, 8, 9] mixed_ (fun _ _ _ _ h => h) (by kernel_rfl) ?_
    have w1 : IntKind.i64.wrap ((i : Int) + 1) = ((i + 1 : Nat) : Int) := by rw [wrap_i64 (by omega) (by omega)]; omega
    have w2 : IntKind.i64.wrap ((i : Int) + 2) = ((i + 2 : Nat) : Int) := by rw [wrap_i64 (by omega) (by omega)]; omega
    have w3 : IntKind.i64.wrap ((i : Int) + 3) = ((i + 3 : Nat) : Int) := by rw [wrap_i64 (by omega) (by omega)]; omega
    have step : ∀ (e' : Nat) (d' : Bool), pieceEnd t i = e' → clearB t i e' d = d' → i < e' → e' ≤ t.size ∧ bef t e' d' = bef t a c := fun e' d' h1 h2 h3 => by
      have h4 := pieceEnd_le (t := t) (i := i) (by omega)
      rw [h1] at h4
      refine ⟨h4.2, ?_⟩
      rw [← hbef, bef_step (t := t) (i := i) (c := d) (by omega) (by rw [h1]; exact h3), h1, h2]
    by_cases q1 : bt t i = 10
    · obtain ⟨s1, s2⟩ := step (i + 1) true (by simp [pieceEnd, isB, q1]) (by simp [clearB, q1, nl_here (Nat.le_refl i) (Nat.lt_succ_self i) q1]) (by omega)
      simp [e0, e3, hi, q1, w1]
      exact ⟨n - 1, by omega, i + 1, true, by omega, by omega, by simp [e0], by simp [e3], by first | rfl | simp, s2⟩
    have no10 : hasNL t i (i + 1) = false := by
      unfold hasNL
      rw [scanW_step (by omega) (by simp [q1]), scanW_end (Nat.le_refl _)]
      simp
    by_cases q2 : bt t i = 32
    · obtain ⟨s1, s2⟩ := step (i + 1) d (by simp [pieceEnd, isB, q2]) (by simp [clearB, q2, no10]) (by omega)
      simp [e0, e3, hi, q2, w1]
      exact ⟨n - 1, by omega, i + 1, d, by omega, by omega, by simp [e0], by simp [e3], by first | rfl | simp, s2⟩
    by_cases q3 : bt t i = 9
    · obtain ⟨s1, s2⟩ := step (i + 1) d (by simp [pieceEnd, isB, q3]) (by simp [clearB, q3, no10]) (by omega)
      simp [e0, e3, hi, q3, w1]
      exact ⟨n - 1, by omega, i + 1, d, by omega, by omega, by simp [e0], by simp [e3], by first | rfl | simp, s2⟩
    by_cases q4 : bt t i = 11
    · obtain ⟨s1, s2⟩ := step (i + 1) false (by simp [pieceEnd, isB, q4]) (by simp [clearB, q4]) (by omega)
      simp [e0, e3, hi, q4, w1]
      exact ⟨n - 1, by omega, i + 1, false, by omega, by omega, by simp [e0], by simp [e3], by first | rfl | simp, s2⟩
    by_cases q5 : bt t i = 12
    · obtain ⟨s1, s2⟩ := step (i + 1) false (by simp [pieceEnd, isB, q5]) (by simp [clearB, q5]) (by omega)
      simp [e0, e3, hi, q5, w1]
      exact ⟨n - 1, by omega, i + 1, false, by omega, by omega, by simp [e0], by simp [e3], by first | rfl | simp, s2⟩
    by_cases q6 : bt t i = 13
    · obtain ⟨s1, s2⟩ := step (i + 1) false (by simp [pieceEnd, isB, q6]) (by simp [clearB, q6]) (by omega)
      simp [e0, e3, hi, q6, w1]
      exact ⟨n - 1, by omega, i + 1, false, by omega, by omega, by simp [e0], by simp [e3], by first | rfl | simp, s2⟩
    have hB : isB (bt t i) = false := by simp [isB, q1, q2, q3, q4, q5, q6]
    have nx1 := next_c hbi 1 ht (by omega) (by omega)
    have nx2 := next_c hbi 2 ht (by omega) (by omega)
    by_cases q7 : bt t i = 92
    · simp [e0, e3, hi, q7]
      refine nx1.mono ?_
      rintro _ s1 ⟨hs1, rfl⟩
      rw [hs1]
      clear hs1 s1
      by_cases d1 : bt t (i + 1) = 10
      · have hlt : i + 1 < t.size := bt_lt (by omega)
        obtain ⟨s1, s2⟩ := step (i + 2) true (by simp [pieceEnd, q7, d1, isB]) (by simp [clearB, q7, nl_here (t := t) (i := i) (j := i + 1) (e := i + 2) (by omega) (by omega) d1]) (by omega)
        simp [e0, e3, d1, w2]
        exact ⟨n - 2, by omega, i + 2, true, by omega, by omega, by simp [e0], by simp [e3], by first | rfl | simp, s2⟩
      · simp [e0, e3, d1]
        refine nx1.mono ?_
        rintro _ s1 ⟨hs1, rfl⟩
        rw [hs1]
        clear hs1 s1
        by_cases d2 : bt t (i + 1) = 13
        · simp [e0, e3, d2]
          refine nx2.mono ?_
          rintro _ s1 ⟨hs1, rfl⟩
          rw [hs1]
          clear hs1 s1
          by_cases d3 : bt t (i + 2) = 10
          · have hlt : i + 2 < t.size := bt_lt (by omega)
            obtain ⟨s1, s2⟩ := step (i + 3) true (by simp [pieceEnd, q7, d2, d3, isB]) (by simp [clearB, q7, nl_here (t := t) (i := i) (j := i + 2) (e := i + 3) (by omega) (by omega) d3]) (by omega)
            simp [e0, e3, d3, w3]
            exact ⟨n - 3, by omega, i + 3, true, by omega, by omega, by simp [e0], by simp [e3], by first | rfl | simp, s2⟩
          · have hst : bef t i d = (i, d) := bef_stop (by simp [pieceEnd, q7, d2, d3, isB])
            have f1 : isC1 t i = false := by
              cases h : isC1 t i with
              | false => rfl
              | true => have := beg_byte h; rw [q7] at this; cases this
            have f2 : isC2 t i = false := by
              cases h : isC2 t i with
              | false => rfl
              | true => have := beg_byte h; rw [q7] at this; cases this
            have f0 := c0_facts (by rw [f1]; simp) (by rw [f2]; simp)
            rw [hst] at hbef
            simp [e0, e3, d3]
            refine (comment_c hvi hbi ht (by omega)).mono ?_
            rintro _ _ ⟨rfl, rfl⟩
            simp [f1, f2, f0]
            refine PW.drawn (fun i => 0) [0, 1, 2, 3, 4, 5, 6, 7, 8, 9, 10] mixed_ (fun _ _ _ _ h => h) (by kernel_rfl) ?_
            have hil : i ≤ t.size := by omega
            simp [e0, e3, hai, hil, ← hbef]
        · have hst : bef t i d = (i, d) := bef_stop (by simp [pieceEnd, q7, d1, d2, isB])
          have f1 : isC1 t i = false := by
            cases h : isC1 t i with
            | false => rfl
            | true => have := beg_byte h; rw [q7] at this; cases this
          have f2 : isC2 t i = false := by
            cases h : isC2 t i with
            | false => rfl
            | true => have := beg_byte h; rw [q7] at this; cases this
          have f0 := c0_facts (by rw [f1]; simp) (by rw [f2]; simp)
          rw [hst] at hbef
          simp [e0, e3, d2]
          refine (comment_c hvi hbi ht (by omega)).mono ?_
          rintro _ _ ⟨rfl, rfl⟩
          simp [f1, f2, f0]
          refine PW.drawn (fun i => 0) [0, 1, 2, 3, 4, 5, 6, 7, 8, 9, 10] mixed_ (fun _ _ _ _ h => h) (by kernel_rfl) ?_
          have hil : i ≤ t.size := by omega
          simp [e0, e3, hai, hil, ← hbef]
    · have hP : pieceEnd t i = cmtEnd t i := by simp [pieceEnd, hB, q7]
      simp [e0, e3, hi, q1, q2, q3, q4, q5, q6, q7]
      refine (comment_c hvi hbi ht (by omega)).mono ?_
      rintro _ _ ⟨rfl, rfl⟩
      by_cases f1 : isC1 t i = true
      · obtain ⟨g1, g2, g3⟩ := c1_facts d f1
        obtain ⟨s1, s2⟩ := step (cmtEnd t i) d hP (by rw [← hP]; exact g3) (by rw [← hP]; exact g1)
        simp [e0, e3, f1]
        exact ⟨n - (cmtEnd t i - i), by omega, cmtEnd t i, d, by omega, by omega, by simp [e0], by simp [e3], by first | rfl | simp, s2⟩
      by_cases f2 : isC2 t i = true
      · obtain ⟨g1, g2, g3⟩ := c2_facts d f1 f2
        obtain ⟨s1, s2⟩ := step (cmtEnd t i) (d || hasNL t i (cmtEnd t i)) hP (by rw [← hP]; rw [hP] at g3 ⊢; exact g3) (by rw [← hP]; exact g1)
        simp [e0, e3, f1, f2]
        exact ⟨n - (cmtEnd t i - i), by omega, cmtEnd t i, _, by omega, by omega, by simp [e0], by simp [e3], by first | rfl | simp, s2⟩
      have f0 := c0_facts f1 f2
      have hst : bef t i d = (i, d) := bef_stop (by rw [hP, f0]; omega)
      rw [hst] at hbef
      simp [f1, f2, f0]
      refine PW.drawn (fun i => 0) [0, 1, 2, 3, 4, 5, 6, 7, 8, 9, 10] mixed_ (fun _ _ _ _ h => h) (by kernel_rfl) ?_
      have hil : i ≤ t.size := by omega
      simp [e0, e3, hai, hil, ← hbef]
  · have hit : i = t.size := by omega
    subst hit
    have hst : bef t t.size d = (t.size, d) := bef_stop (by have := pieceEnd_le (t := t) (i := t.size) (Nat.le_refl _); omega)
    rw [hst] at hbef
    simp [e0, hi]
    refine hR _ _ ?_
    refine pwC_sound _ _ _ _ ?_
    simp [e0, e3, ha, ← hbef]
end
end Go.Pv

/- The program's lexer: numbers. -/
namespace Go.Pv
open Go.Proofs
set_option linter.unusedVariables false
set_option linter.unusedSimpArgs false
set_option maxRecDepth 100000
set_option maxHeartbeats 1000000
section
variable {t : ByteArray} {a : Nat} {M S : PV} {c : Bool} {s : St} {p : Nat}
def numLen (t : ByteArray) (a : Nat) : Nat := if isD (bt t a) = true ∨ (bt t a = 46 ∧ isD (bt t (a + 1)) = true) then numEnd t a - a else 0
set_option maxHeartbeats 400000
theorem number_c (hb : s p = some (scB t a M S c)) (ht : t.size ≤ 1000000) (ha : a < t.size) : PCalls Tryz.prog 112 [.pt p 0 0] s (fun r s' => s' = s ∧ r = .ret (.lit (.int .i64 (numLen t a : Nat)))) := by
  refine PCalls.of Tryz.func112 rfl (by rfl) (by simp [Tryz.ntmps112]) ?_
  refine pwC_sound _ _ _ _ ?_
  refine pwC_cut fun K hK => ?_
  simp [Tryz.ntmps112]
  refine hK _ _ ?_
  clear hK K
  refine pwC_cut fun K hK => ?_
  have fin : ∀ e : Env, e 0 = .pt p 0 0 → numLen t a = numEnd t a - a → K e s := by
    intro e e0 hN
    refine hK _ _ ?_
    clear hK K
    rw [hN]
    refine pwC_cut fun K hK => ?_
    simp [e0]
    refine hK _ _ ?_
    clear hK K
    simp
    refine PW.loop (fun n e s' => ∃ j : Nat, 1 ≤ j ∧ a + j + n = t.size ∧ e 0 = .pt p 0 0 ∧ e 3 = .lit (.int .i64 j) ∧ scanW (numP t) t.size (a + j) = numEnd t a ∧ s' = s) (t.size - (a + 1)) ⟨1, by omega, by omega, by simp [e0], by simp, rfl, rfl⟩ ?_
    clear e0 e
    rintro n e s' ⟨j, hj1, hj, e0, e3, hs, rfl⟩
    refine pwC_sound _ _ _ _ ?_
    have w1 : IntKind.i64.wrap ((j : Int) + 1) = ((j + 1 : Nat) : Int) := by rw [wrap_i64 (by omega) (by omega)]; omega
    have w2 : IntKind.i64.wrap ((j : Int) - 1) = ((j - 1 : Nat) : Int) := by rw [wrap_i64 (by omega) (by omega)]; omega
    simp [e0, e3]
    refine (next_c hb j ht (by omega) (by omega)).mono ?_
    rintro _ s1 ⟨hs1, rfl⟩
    rw [hs1]
    clear hs1 s1
    simp [e0, e3, w2]
    refine (next_c hb (j - 1) ht (by omega) (by omega)).mono ?_
    rintro _ s1 ⟨hs1, rfl⟩
    rw [hs1]
    clear hs1 s1
    simp [e0, e3, w2]
    refine (pletter_c _ _).mono ?_
    rintro _ s1 ⟨hs1, rfl⟩
    rw [hs1]
    clear hs1 s1
    have hpj : a + j - 1 = a + (j - 1) := by omega
    have hgo : numP t (a + j) = true → a + j < t.size := fun h => bt_lt (by
      intro h0
      have hl0 : isL 0 = false := by decide
      have hd0 : isD 0 = false := by decide
      simp [numP, h0, hl0, hd0] at h)
    have hnx : numP t (a + j) = true → scanW (numP t) t.size (a + (j + 1)) = numEnd t a := fun h => by
      rw [scanW_step (hgo h) h] at hs; exact hs
    have hno : numP t (a + j) = false → numEnd t a - a = j := fun h => by rw [scanW_stop h] at hs; omega
    have hX : numP t (a + j) = (isL (bt t (a + j)) || isD (bt t (a + j)) || decide (bt t (a + j) = 46) || ((decide (bt t (a + j) = 43) || decide (bt t (a + j) = 45)) && (decide (bt t (a + (j - 1)) = 101) || decide (bt t (a + (j - 1)) = 69)))) := by unfold numP; rw [hpj]
    rw [hX] at hnx hno hgo
    clear hX
    by_cases hl : isL (bt t (a + j)) = true
    · simp [e0, e3, hl, w1]
      have := hgo (by simp [hl])
      exact ⟨n - 1, by omega, j + 1, by omega, by omega, by omega, hnx (by simp [hl])⟩
    · simp [e0, e3, hl, w1]
      refine (pdigit_c _ _).mono ?_
      rintro _ s1 ⟨hs1, rfl⟩
      rw [hs1]
      clear hs1 s1
      by_cases hd : isD (bt t (a + j)) = true
      · simp [e0, e3, hl, hd, w1]
        have := hgo (by simp [hd])
        exact ⟨n - 1, by omega, j + 1, by omega, by omega, by omega, hnx (by simp [hd])⟩
      · by_cases h46 : bt t (a + j) = 46
        · rw [h46] at hl hd
          simp [e0, e3, hl, hd, h46, w1]
          have := hgo (by simp [h46])
          exact ⟨n - 1, by omega, j + 1, by omega, by omega, by omega, hnx (by simp [h46])⟩
        · by_cases a1 : bt t (a + j) = 43 <;> by_cases a2 : bt t (a + j) = 45 <;> by_cases a3 : bt t (a + (j - 1)) = 101 <;> by_cases a4 : bt t (a + (j - 1)) = 69 <;> (try (exfalso; omega)) <;>
          (simp [a1, a2] at hl hd
           simp [e0, e3, hl, hd, h46, w1, a1, a2, a3, a4]
           first
           | (have := hgo (by simp [hl, hd, h46, a1, a2, a3, a4]); exact ⟨n - 1, by omega, j + 1, by omega, by omega, by omega, hnx (by simp [hl, hd, h46, a1, a2, a3, a4])⟩)
           | (rw [hno (by simp [hl, hd, h46, a1, a2, a3, a4])]; exact ⟨_, sub_refl, rfl, rfl⟩)
           | (rw [hno (by simp [hl, hd, h46, a1, a2, a3, a4])]; done))
  clear hK
  simp
  refine (next_c hb 0 ht (by omega) (by omega)).mono ?_
  rintro _ s1 ⟨hs1, rfl⟩
  rw [hs1]
  clear hs1 s1
  simp
  refine (pdigit_c _ _).mono ?_
  rintro _ s1 ⟨hs1, rfl⟩
  rw [hs1]
  clear hs1 s1
  by_cases hd : isD (bt t a) = true
  · simp [hd]
    exact fin _ (by simp) (by simp [numLen, hd])
  · simp [hd]
    refine (next_c hb 0 ht (by omega) (by omega)).mono ?_
    rintro _ s1 ⟨hs1, rfl⟩
    rw [hs1]
    clear hs1 s1
    by_cases h46 : bt t a = 46
    · rw [h46] at hd
      simp [hd, h46]
      refine (next_c hb 1 ht (by omega) (by omega)).mono ?_
      rintro _ s1 ⟨hs1, rfl⟩
      rw [hs1]
      clear hs1 s1
      simp [hd, h46]
      refine (pdigit_c _ _).mono ?_
      rintro _ s1 ⟨hs1, rfl⟩
      rw [hs1]
      clear hs1 s1
      by_cases hd1 : isD (bt t (a + 1)) = true
      · simp [hd, h46, hd1]
        exact fin _ (by simp) (by simp [numLen, h46, hd1])
      · simp [hd, h46, hd1, numLen]
    · simp [hd, h46, numLen]
end
end Go.Pv

/- The program's lexer: quoted texts. -/
namespace Go.Pv
open Go.Proofs
set_option linter.unusedVariables false
set_option linter.unusedSimpArgs false
set_option maxRecDepth 100000
set_option maxHeartbeats 400000
section
variable {t : ByteArray} {a : Nat} {M S : PV} {c : Bool} {s : St} {p : Nat}
def quotLen (t : ByteArray) (a : Nat) (q : Int) : Nat := if bt t a = q then (match quotE t q (a + 1) with | some e => e - a | none => 0) else 0
theorem pquoted_c (hb : s p = some (scB t a M S c)) (q : Int) (hq : q ≠ 10) (ht : t.size ≤ 1000000) (ha : a < t.size) : PCalls Tryz.prog 179 [.pt p 0 0, .lit (.int .u8 q)] s (fun r s' => s' = s ∧ r = .ret (.lit (.int .i64 (quotLen t a q : Nat)))) := by
  refine PCalls.of Tryz.func179 rfl (by rfl) (by simp [Tryz.ntmps179]) ?_
  refine pwC_sound _ _ _ _ ?_
  refine pwC_cut fun K hK => ?_
  simp [Tryz.ntmps179]
  refine hK _ _ ?_
  clear hK K
  refine pwC_cut fun K hK => ?_
  simp
  refine (next_c hb 0 ht (by omega) (by omega)).mono ?_
  rintro _ s1 ⟨hs1, rfl⟩
  rw [hs1]
  clear hs1 s1
  by_cases hc : bt t a = q
  · have hN : quotLen t a q = (match quotE t q (a + 1) with | some e => e - a | none => 0) := if_pos hc
    rw [hN] at hK
    simp [hc]
    refine hK _ _ ?_
    clear hK K hN
    refine pwC_cut fun K hK => ?_
    simp
    refine PW.loop (fun n e s' => ∃ j : Nat, 1 ≤ j ∧ a + j + n = t.size + 1 ∧ e 0 = .pt p 0 0 ∧ e 1 = .lit (.int .u8 q) ∧ e 5 = .lit (.int .i64 j) ∧ quotE t q (a + j) = quotE t q (a + 1) ∧ s' = s) (t.size - a) ⟨1, by omega, by omega, by simp, by simp, by simp, rfl, rfl⟩ ?_
    rintro n e s' ⟨j, hj1, hj, e0, e1, e5, hs, rfl⟩
    refine pwC_sound _ _ _ _ ?_
    rw [quotE_eq] at hs
    have w0 : IntKind.i64.wrap ((a : Int) + (j : Int)) = (a : Int) + (j : Int) := wrap_i64 (by omega) (by omega)
    have w1 : IntKind.i64.wrap ((j : Int) + 1) = ((j + 1 : Nat) : Int) := by rw [wrap_i64 (by omega) (by omega)]; omega
    have w2 : IntKind.i64.wrap ((j : Int) + 1 + 1) = ((j + 2 : Nat) : Int) := by rw [wrap_i64 (by omega) (by omega)]; omega
    refine pwC_cut fun K1 hK1 => ?_
    refine pwC_cut fun K2 hK2 => ?_
    simp
    refine PW.drawn (fun i => 0) [0, 1, 2, 3, 4, 5, 6, 7, 8, 9, 10, 11] mixed_ (fun _ _ _ _ h => h) (by kernel_rfl) ?_
    by_cases hlt : a + j < t.size
    · have hlt' : (a : Int) + (j : Int) < t.size := by omega
      simp [e0, e1, e5, hb, w0, hlt, hlt']
      refine hK2 _ _ ?_
      clear hK2 K2
      rw [if_pos hlt] at hs
      simp
      refine hK1 _ _ ?_
      clear hK1 K1
      refine pwC_cut fun K1 hK1 => ?_
      simp [e0, e5]
      refine (next_c hb j ht (by omega) (by omega)).mono ?_
      rintro _ s1 ⟨hs1, rfl⟩
      rw [hs1]
      clear hs1 s1
      by_cases h1 : bt t (a + j) = q
      · rw [if_pos h1] at hs
        simp [e0, e1, e5, h1, w1, ← hs]
        exact ⟨_, sub_refl, rfl, by rw [show a + j + 1 - a = j + 1 by omega]; rfl⟩
      · rw [if_neg h1] at hs
        by_cases h2 : bt t (a + j) = 10
        · rw [if_pos h2] at hs
          have hq' : ¬ (10 : Int) = q := fun h => hq h.symm
          simp [e0, e1, e5, h2, hq', ← hs]
        · rw [if_neg h2] at hs
          by_cases h3 : bt t (a + j) = 92
          · rw [if_pos h3] at hs
            rw [h3] at h1
            simp [e0, e1, e5, h1, h3, w1]
            refine (next_c hb (j + 1) ht (by omega) (by omega)).mono ?_
            rintro _ s1 ⟨hs1, rfl⟩
            rw [hs1]
            clear hs1 s1
            by_cases h4 : bt t (a + (j + 1)) = 10
            · rw [if_pos (by rw [← h4]; rfl)] at hs
              simp [e0, e1, e5, h1, h3, h4, w1, ← hs]
            · rw [if_neg (fun h => h4 (by rw [← h]; rfl))] at hs
              simp [e0, e1, e5, h1, h3, h4, w1]
              refine hK1 _ _ ?_
              clear hK1 K1
              simp [e0, e1, e5, w1, w2]
              exact ⟨n - 2, by omega, j + 2, by omega, by omega, by omega, hs⟩
          · rw [if_neg h3] at hs
            simp [e0, e1, e5, h1, h2, h3, w1]
            refine hK1 _ _ ?_
            clear hK1 K1
            simp [e0, e1, e5, w1]
            exact ⟨n - 1, by omega, j + 1, by omega, by omega, by omega, hs⟩
    · have hlt' : ¬ (a : Int) + (j : Int) < t.size := by omega
      rw [if_neg hlt] at hs
      simp [e0, e1, e5, hb, w0, hlt, hlt']
      refine hK2 _ _ ?_
      simp
      refine hK _ _ ?_
      simp [← hs]
  · have hN : quotLen t a q = 0 := if_neg hc
    rw [hN]
    simp [hc]
theorem char_c (hb : s p = some (scB t a M S c)) (ht : t.size ≤ 1000000) (ha : a < t.size) : PCalls Tryz.prog 113 [.pt p 0 0] s (fun r s' => s' = s ∧ r = .ret (.lit (.int .i64 (quotLen t a 39 : Nat)))) := by
  refine PCalls.of Tryz.func113 rfl (by rfl) (by simp [Tryz.ntmps113]) ?_
  refine pwC_sound _ _ _ _ ?_
  simp [Tryz.ntmps113]
  refine (pquoted_c hb 39 (by decide) ht ha).mono ?_
  rintro _ s1 ⟨hs1, rfl⟩
  rw [hs1]
  simp
theorem str_c (hb : s p = some (scB t a M S c)) (ht : t.size ≤ 1000000) (ha : a < t.size) : PCalls Tryz.prog 114 [.pt p 0 0] s (fun r s' => s' = s ∧ r = .ret (.lit (.int .i64 (quotLen t a 34 : Nat)))) := by
  refine PCalls.of Tryz.func114 rfl (by rfl) (by simp [Tryz.ntmps114]) ?_
  refine pwC_sound _ _ _ _ ?_
  simp [Tryz.ntmps114]
  refine (pquoted_c hb 34 (by decide) ht ha).mono ?_
  rintro _ s1 ⟨hs1, rfl⟩
  rw [hs1]
  simp
end
end Go.Pv

/- The program's lexer: which of the kinds a token is. -/
namespace Go.Pv
open Go.Proofs
set_option linter.unusedVariables false
set_option linter.unusedSimpArgs false
set_option maxRecDepth 100000
set_option maxHeartbeats 400000
/-- What each kind's method tells, in the order in which they are asked. -/
def lens (t : ByteArray) (b : Nat) (d : Bool) : List (Nat × Nat) := [(7, lineLen t b d), (1, if isL (bt t b) then wordEnd t b - b else 0), (3, numLen t b), (4, quotLen t b 39), (5, quotLen t b 34), (6, signLen t b signsL)]
def firstK : List (Nat × Nat) → Nat × Nat
  | [] => (8, 1)
  | (k, m) :: r => if 0 < m then (k, m) else firstK r
theorem beg_bt0 {t : ByteArray} {i : Nat} {x : ByteArray} (h : beg t i x = true) (hx : 0 < x.size) : bt t i = bt x 0 := by
  obtain ⟨⟨l⟩⟩ := x
  cases l with
  | nil => exact absurd hx (by decide)
  | cons b r =>
    rw [beg_byte h]
    rfl
theorem signLen_zero {t : ByteArray} {i : Nat} : ∀ (L : List ByteArray) (n : Nat), (∀ x ∈ L, 0 < x.size ∧ bt x 0 ≠ bt t i) → L.foldl (fun n s => if n < s.size ∧ beg t i s = true then s.size else n) n = n
  | [], n, h => rfl
  | x :: L, n, h => by
    obtain ⟨h1, h2⟩ := h x List.mem_cons_self
    rw [List.foldl_cons, if_neg (fun q => h2 (beg_bt0 q.2 h1).symm)]
    exact signLen_zero L n (fun y hy => h y (List.mem_cons_of_mem _ hy))
theorem signs_first : ∀ x ∈ signsL, 0 < x.size ∧ bt x 0 ≠ 39 ∧ bt x 0 ≠ 34 := by decide
theorem signLen_quote {t : ByteArray} {i : Nat} (h : bt t i = 39 ∨ bt t i = 34) : signLen t i signsL = 0 := by
  refine signLen_zero signsL 0 fun x hx => ?_
  obtain ⟨h1, h2, h3⟩ := signs_first x hx
  refine ⟨h1, ?_⟩
  rcases h with h | h <;> rw [h] <;> assumption
theorem tokE_first {t : ByteArray} {b : Nat} (d : Bool) (hb : b < t.size) : tokE keysL signsL t b d =
    (if (firstK (lens t b d)).1 = 1 ∧ (keysL.any fun k => decide (k = t.extract b (b + (firstK (lens t b d)).2))) = true then 2 else (firstK (lens t b d)).1, b + (firstK (lens t b d)).2) := by
  unfold tokE
  by_cases h1 : bt t b = 35 ∧ d = true
  · have hgt := lineEnd_gt hb (by omega)
    have hf : firstK (lens t b d) = (7, lineEnd t b - b) := by
      unfold lens firstK
      rw [if_pos (by unfold lineLen; rw [if_pos h1]; omega)]
      unfold lineLen
      rw [if_pos h1]
    rw [if_pos h1, hf]
    simp
    omega
  · have f1 : ¬ 0 < lineLen t b d := by unfold lineLen; rw [if_neg h1]; omega
    rw [if_neg h1]
    by_cases h2 : isL (bt t b) = true
    · have hgt : b < wordEnd t b := by
        unfold wordEnd
        rw [scanW_step hb (by simp [h2])]
        exact scanW_ge _ _ (b + 1)
      have hf : firstK (lens t b d) = (1, wordEnd t b - b) := by
        unfold lens firstK
        rw [if_neg f1]
        unfold firstK
        rw [if_pos (by rw [if_pos h2]; omega), if_pos h2]
      have hw : b + (wordEnd t b - b) = wordEnd t b := by omega
      rw [if_pos h2, hf]
      simp only [hw]
      by_cases hk : (keysL.any fun k => decide (k = t.extract b (wordEnd t b))) = true <;> simp [hk]
    · have f2 : ¬ 0 < (if isL (bt t b) = true then wordEnd t b - b else 0) := by rw [if_neg h2]; omega
      rw [if_neg h2]
      by_cases h3 : isD (bt t b) = true ∨ (bt t b = 46 ∧ isD (bt t (b + 1)) = true)
      · have hgt : b < numEnd t b := by unfold numEnd; have := scanW_ge (numP t) t.size (b + 1); omega
        have hf : firstK (lens t b d) = (3, numEnd t b - b) := by
          unfold lens firstK
          rw [if_neg f1]
          unfold firstK
          rw [if_neg f2]
          unfold firstK
          have : numLen t b = numEnd t b - b := by unfold numLen; rw [if_pos h3]
          rw [if_pos (by omega), this]
        have hw : b + (numEnd t b - b) = numEnd t b := by omega
        rw [if_pos h3, hf]
        simp [hw]
      · have f3 : ¬ 0 < numLen t b := by unfold numLen; rw [if_neg h3]; omega
        rw [if_neg h3]
        have hf3 : firstK (lens t b d) = firstK [(4, quotLen t b 39), (5, quotLen t b 34), (6, signLen t b signsL)] := by
          unfold lens firstK
          rw [if_neg f1]
          unfold firstK
          rw [if_neg f2]
          conv => lhs; unfold firstK
          rw [if_neg f3]
          rfl
        rw [hf3]
        by_cases h4 : bt t b = 39
        · have h34 : ¬ bt t b = 34 := by omega
          have z := signLen_quote (.inl h4)
          have q34 : quotLen t b 34 = 0 := by unfold quotLen; rw [if_neg h34]
          rw [if_pos (.inl h4), h4]
          have q39 : quotLen t b 39 = (match quotE t 39 (b + 1) with | some e => e - b | none => 0) := by unfold quotLen; rw [if_pos h4]; all_goals rfl
          cases hq : quotE t 39 (b + 1) with
          | none =>
            rw [hq] at q39
            simp only at q39
            simp [firstK, q39, q34, z]
          | some e =>
            rw [hq] at q39
            simp only at q39
            have hin := quotF_in t 39 _ _ _ hq
            have h5 : 0 < quotLen t b 39 := by omega
            simp [firstK, h5]
            omega
        · have q39 : quotLen t b 39 = 0 := by unfold quotLen; rw [if_neg h4]
          by_cases h5 : bt t b = 34
          · have z := signLen_quote (.inr h5)
            rw [if_pos (.inr h5), h5]
            have q34 : quotLen t b 34 = (match quotE t 34 (b + 1) with | some e => e - b | none => 0) := by unfold quotLen; rw [if_pos h5]; all_goals rfl
            cases hq : quotE t 34 (b + 1) with
            | none =>
              rw [hq] at q34
              simp only at q34
              simp [firstK, q39, q34, z]
            | some e =>
              rw [hq] at q34
              simp only at q34
              have hin := quotF_in t 34 _ _ _ hq
              have h6 : 0 < quotLen t b 34 := by omega
              simp [firstK, q39, h6]
              omega
          · have q34 : quotLen t b 34 = 0 := by unfold quotLen; rw [if_neg h5]
            rw [if_neg (by omega)]
            by_cases h6 : signLen t b signsL = 0
            · simp [firstK, q39, q34, h6]
            · have h7 : 0 < signLen t b signsL := by omega
              simp [firstK, q39, q34, h6, h7]
theorem firstK_in {t : ByteArray} {b : Nat} (d : Bool) (hb : b < t.size) : 0 < (firstK (lens t b d)).2 ∧ b + (firstK (lens t b d)).2 ≤ t.size := by
  have h := tokE_in keysL signsL d hb
  rw [tokE_first d hb] at h
  simp only at h
  omega
end Go.Pv

/- The program's lexer: a token. -/
namespace Go.Pv
open Go.Proofs
set_option linter.unusedVariables false
set_option linter.unusedSimpArgs false
set_option maxRecDepth 100000
set_option maxHeartbeats 1000000
theorem befF_in (t : ByteArray) : ∀ (k i : Nat) (c : Bool), i ≤ t.size → i ≤ (befF t k i c).1 ∧ (befF t k i c).1 ≤ t.size
  | 0, i, c, h => ⟨Nat.le_refl _, h⟩
  | k + 1, i, c, h => by
    have hp := pieceEnd_le h
    unfold befF
    split
    · have := befF_in t k (pieceEnd t i) (clearB t i (pieceEnd t i) c) hp.2
      omega
    · exact ⟨Nat.le_refl _, h⟩
theorem bef_in {t : ByteArray} {i : Nat} (c : Bool) (h : i ≤ t.size) : i ≤ (bef t i c).1 ∧ (bef t i c).1 ≤ t.size := befF_in t _ i c h
/-- The keys, as the map that the scanner has. -/
def KeyMap (s : St) (M : PV) : Prop := ∃ (i : Nat) (es : List (ByteArray × PV)), M = .mp i ∧ s i = some (.dict es) ∧ ∀ b, dget es b = if (keysL.any fun k => decide (k = b)) = true then some (.lit (.bool true)) else none
theorem KeyMap.sub {s s' : St} {M : PV} (h : KeyMap s M) (hs : s.sub s') : KeyMap s' M := by
  obtain ⟨i, es, h1, h2, h3⟩ := h
  exact ⟨i, es, h1, hs _ _ h2, h3⟩
theorem KeyMap.upd {s : St} {M : PV} (h : KeyMap s M) {p : Nat} {ty : TypeId} {sz : Nat} {els : List (List PV)} (hp : s p = some (.row ty sz els)) {b : Option Blk} : KeyMap (s.upd p b) M := by
  obtain ⟨i, es, h1, h2, h3⟩ := h
  refine ⟨i, es, h1, ?_, h3⟩
  rw [St.upd_ne _ _ (fun e => by subst e; rw [h2] at hp; cases hp)]
  exact h2
@[reducible] def kindV (p : Nat) (k : Int) (f : FuncId) : PV := .agg [.lit (.int .i64 k), .fn f [.pt p 0 0] []]
@[reducible] def kindsV (p : Nat) : PV := .vec .tight [kindV p 7 110, kindV p 1 111, kindV p 3 112, kindV p 4 113, kindV p 5 114, kindV p 6 115]
section
variable {t : ByteArray} {a : Nat} {M : PV} {c : Bool} {s : St} {p : Nat}
@[reducible] def tokC (k : Int) (b x : ByteArray) (n : Nat) : List PV := [.lit (.int .i64 k), .lit (.string b), .lit (.string x), .lit (.int .i64 n)]
theorem ptoken_c {vk : VK} (hv : Vars s) (hM : KeyMap s M) (hb : s p = some (scB t a M (strs vk signsL) c)) (ht : t.size ≤ 1000000) (ha : a ≤ t.size) : PCalls Tryz.prog 66 [.pt p 0 0] s (fun r s' =>
    if (bef t a c).1 = t.size then r = .ret (encT ⟨0, t.extract a (bef t a c).1, ⟨#[]⟩, (bef t a c).1⟩) ∧ s' = s.upd p (some (scB t (bef t a c).1 M (strs vk signsL) (bef t a c).2))
    else r = .ret (encT ⟨(tokE keysL signsL t (bef t a c).1 (bef t a c).2).1, t.extract a (bef t a c).1, t.extract (bef t a c).1 (tokE keysL signsL t (bef t a c).1 (bef t a c).2).2, (bef t a c).1⟩) ∧
      s' = s.upd p (some (scB t (tokE keysL signsL t (bef t a c).1 (bef t a c).2).2 M (strs vk signsL) false))) := by
  obtain ⟨hbge, hble⟩ := bef_in c ha
  have hbefc := fun (s : St) => before_c (t := t) (a := a) (M := M) (S := strs vk signsL) (c := c) (p := p) (s := s)
  generalize hbq : bef t a c = bq at *
  obtain ⟨b, d⟩ := bq
  simp only at *
  refine PCalls.mono (R := fun r s' => (b = t.size → r = .ret (encT ⟨0, t.extract a b, ⟨#[]⟩, b⟩) ∧ s' = s.upd p (some (scB t b M (strs vk signsL) d))) ∧
    (b ≠ t.size → r = .ret (encT ⟨(tokE keysL signsL t b d).1, t.extract a b, t.extract b (tokE keysL signsL t b d).2, b⟩) ∧ s' = s.upd p (some (scB t (tokE keysL signsL t b d).2 M (strs vk signsL) false)))) ?_ (fun r s' h => by
      by_cases hend : b = t.size
      · rw [if_pos hend]; exact h.1 hend
      · rw [if_neg hend]; exact h.2 hend)
  refine PCalls.of Tryz.func66 rfl (by rfl) (by simp [Tryz.ntmps66]) ?_
  refine PW.cutR fun R hR hC => ?_
  simp [Tryz.ntmps66]
  intro i2 h2
  refine hR _ _ ?_
  clear hR hC R
  have n2p := fresh_ne h2 hb
  refine PW.cutR fun R hR hC => ?_
  simp
  refine (hbefc (s.upd i2 _) (hv.upd (hv.fresh h2).1 (hv.fresh h2).2) (by rw [St.upd_ne _ _ n2p.symm]; exact hb) ht ha).mono ?_
  rintro _ _ ⟨rfl, rfl⟩
  simp
  refine hR _ _ ?_
  clear hR hC R
  refine PW.cutR fun R hR hC => ?_
  simp
  intro i4 h4p hp4 h42 h24 h4
  refine hR _ _ ?_
  clear hR hC R
  generalize hτ : St.upd (St.upd (St.upd s i2 _) p _) i4 _ = τ
  generalize hBq : s.upd p (some (scB t b M (strs vk signsL) d)) = B
  have tp : τ p = some (scB t b M (strs vk signsL) d) := by rw [← hτ]; simp [h4p, hp4]
  have t2 : τ i2 = some (.row 32 4 [tokC 0 ⟨#[]⟩ ⟨#[]⟩ 0]) := by rw [← hτ]; simp [h42, h24, n2p]
  have t4 : τ i4 = some (.row 32 4 [tokC 0 (t.extract a b) ⟨#[]⟩ b]) := by rw [← hτ]; simp
  have hBp : B p = some (scB t b M (strs vk signsL) d) := by rw [← hBq]; simp
  have hB2 : B i2 = none := by rw [← hBq, St.upd_ne _ _ n2p]; exact h2
  have hB4 : B i4 = none := by rw [← hBq, St.upd_ne _ _ h4p]; exact h4
  have hBτ : B.sub τ := by
    rw [← hBq, ← hτ]
    intro k z hk
    by_cases k1 : k = p
    · subst k1
      rw [St.upd_same] at hk
      rw [St.upd_ne _ _ hp4, St.upd_same]; exact hk
    · rw [St.upd_ne _ _ k1] at hk
      have k2 : k ≠ i2 := fun e => by rw [e, show s i2 = none from h2] at hk; cases hk
      have k4 : k ≠ i4 := fun e => by rw [e, show s i4 = none from h4] at hk; cases hk
      rw [St.upd_ne _ _ k4, St.upd_ne _ _ k1, St.upd_ne _ _ k2]; exact hk
  have hMB : KeyMap B M := by rw [← hBq]; exact hM.upd hb
  clear hτ
  generalize hE : Env.put _ _ _ = E
  have g0 : E 0 = .pt p 0 0 := by rw [← hE]; simp
  have g2 : E 2 = .pt i2 0 0 := by rw [← hE]; simp
  have g4 : E 4 = .pt i4 0 0 := by rw [← hE]; simp
  clear hE
  refine PW.cutR fun R hR hC => ?_
  simp
  refine PW.drawn (fun i => 0) [0, 1, 2, 4, 5, 6, 3, 7, 8, 9] mixed_ (fun _ _ _ _ h => h) (by kernel_rfl) ?_
  by_cases hend : b = t.size
  · have hend' : (b : Int) = (t.size : Nat) := by omega
    simp [g0, g2, g4, tp, t2, t4, h42, h24, hend']
    exact ⟨B, St.sub.upd_of hBτ hB2, fun _ => rfl, fun h => absurd hend h⟩
  · have hend' : ¬ (b : Int) = (t.size : Nat) := by omega
    simp [g0, g2, g4, tp, t2, t4, h42, h24, hend']
    refine hR _ _ ?_
    clear hR hC R
    have hbt : b < t.size := by omega
    refine PW.cutR fun R hR hC => ?_
    simp
    refine hR _ _ ?_
    clear hR hC R
    refine PW.cutR fun R hR hC => ?_
    simp [g0, g2, g4, tp, t2, t4, h42, h24]
    refine hR _ _ ?_
    clear hR hC R
    generalize hτ' : τ.upd i4 _ = τ1
    have tp1 : τ1 p = some (scB t b M (strs vk signsL) d) := by rw [← hτ', St.upd_ne _ _ hp4]; exact tp
    have t21 : τ1 i2 = some (.row 32 4 [tokC 0 ⟨#[]⟩ ⟨#[]⟩ 0]) := by rw [← hτ', St.upd_ne _ _ h24]; exact t2
    have t41 : τ1 i4 = some (.row 32 4 [tokC 8 (t.extract a b) ⟨#[]⟩ b]) := by rw [← hτ']; simp
    have hBτ1 : B.sub τ1 := by rw [← hτ']; exact St.sub.upd_of hBτ hB4
    clear hτ' tp t2 t4 hBτ
    generalize hE : Env.put _ _ _ = E1
    have f0 : E1 0 = .pt p 0 0 := by rw [← hE]; simp [g0]
    have f2 : E1 2 = .pt i2 0 0 := by rw [← hE]; simp [g2]
    have f4 : E1 4 = .pt i4 0 0 := by rw [← hE]; simp [g4]
    have f5 : E1 5 = .lit (.int .i64 1) := by rw [← hE]; simp
    clear hE g0 g2 g4 E
    refine PW.cutR fun R hR hC => ?_
    -- behind the search
    have fin : ∀ (E : Env) (s1 : St), E 0 = .pt p 0 0 → E 2 = .pt i2 0 0 → E 4 = .pt i4 0 0 → E 5 = .lit (.int .i64 ((firstK (lens t b d)).2 : Nat)) → B.sub s1 → s1 i2 = some (.row 32 4 [tokC 0 ⟨#[]⟩ ⟨#[]⟩ 0]) → s1 i4 = some (.row 32 4 [tokC ((firstK (lens t b d)).1 : Nat) (t.extract a b) ⟨#[]⟩ b]) → R E s1 := by
      intro E s1 f0 f2 f4 f5 hBs u2 u4
      obtain ⟨hm0, hm1⟩ := firstK_in d hbt
      have htok := tokE_first d hbt
      generalize firstK (lens t b d) = km at *
      obtain ⟨kd, m⟩ := km
      simp only at *
      have up := hBs _ _ hBp
      have hMs := hMB.sub hBs
      refine hR _ _ ?_
      clear hR hC R
      obtain ⟨en, hen⟩ : ∃ en, en = b + m := ⟨_, rfl⟩
      rw [← hen] at htok hm1
      have w1 : IntKind.i64.wrap ((b : Int) + (m : Int)) = (en : Int) := by rw [wrap_i64 (by omega) (by omega)]; omega
      refine PW.cutR fun R hR hC => ?_
      refine PW.drawn (fun i => 0) [0, 1, 2, 4, 5, 6, 8, 9, 10, 12, 3, 7, 11, 13, 14, 15, 16] mixed_ (fun _ _ _ _ h => h) (by kernel_rfl) ?_
      have hle1 : b ≤ en := by omega
      simp [f0, f2, f4, f5, up, u2, u4, w1, hm1, hle1]
      refine hR _ _ ?_
      clear hR hC R
      generalize hσ : s1.upd i4 _ = s2
      have v2 : s2 i2 = some (.row 32 4 [tokC 0 ⟨#[]⟩ ⟨#[]⟩ 0]) := by rw [← hσ, St.upd_ne _ _ h24]; exact u2
      have v4 : s2 i4 = some (.row 32 4 [tokC (kd : Nat) (t.extract a b) (t.extract b en) b]) := by rw [← hσ, St.upd_same]
      have hBs2 : B.sub s2 := by rw [← hσ]; exact St.sub.upd_of hBs hB4
      clear hσ u2 u4 up hMs hBs s1
      have vp := hBs2 _ _ hBp
      obtain ⟨im, es, rfl, hes, hkk⟩ := hMB.sub hBs2
      generalize hE : Env.put _ _ _ = E'
      have g0 : E' 0 = .pt p 0 0 := by rw [← hE]; simp [f0]
      have g2 : E' 2 = .pt i2 0 0 := by rw [← hE]; simp [f2]
      have g4 : E' 4 = .pt i4 0 0 := by rw [← hE]; simp [f4]
      have g5 : E' 5 = .lit (.int .i64 (m : Nat)) := by rw [← hE]; simp [f5]
      clear hE f0 f2 f4 f5 E
      refine PW.cutR fun R hR hC => ?_
      -- behind the look at the keys
      have tail : ∀ (E : Env) (s3 : St) (k' : Nat), E 0 = .pt p 0 0 → E 2 = .pt i2 0 0 → E 4 = .pt i4 0 0 → E 5 = .lit (.int .i64 (m : Nat)) → B.sub s3 → s3 i2 = some (.row 32 4 [tokC 0 ⟨#[]⟩ ⟨#[]⟩ 0]) → s3 i4 = some (.row 32 4 [tokC (k' : Nat) (t.extract a b) (t.extract b en) b]) →
          k' = (tokE keysL signsL t b d).1 → R E s3 := by
        intro E s3 k' f0 f2 f4 f5 hBs u2 u4 hk'
        have up := hBs _ _ hBp
        refine hR _ _ ?_
        refine pwC_sound _ _ _ _ ?_
        simp [f0, f2, f4, f5, up, u2, u4, w1, h24, h42, h4p, hp4, n2p, n2p.symm]
        rw [htok] at hk' ⊢
        refine ⟨s.upd p (some (scB t en (.mp im) (strs vk signsL) false)), fun k z hk => ?_, fun h => absurd h hend, fun _ => ⟨?_, rfl⟩⟩
        · by_cases k1 : k = p
          · subst k1
            rw [St.upd_same] at hk
            rw [St.upd_ne _ _ n2p.symm, St.upd_same]
            exact hk
          · rw [St.upd_ne _ _ k1] at hk
            have k2 : k ≠ i2 := fun e => by rw [e, show s i2 = none from h2] at hk; cases hk
            have := hBs k z (by rw [← hBq, St.upd_ne _ _ k1]; exact hk)
            simp only [St.upd_ne _ _ k1, St.upd_ne _ _ k2]
            exact this
        · simp only at hk'
          rw [← hk']
          exact ⟨rfl, rfl⟩
      refine PW.drawn (fun i => 0) [0, 1, 2, 3, 4, 5, 6, 8, 7, 9, 10, 11] mixed_ (fun _ _ _ _ h => h) (by kernel_rfl) ?_
      by_cases hk1 : kd = 1
      · subst hk1
        by_cases hky : (keysL.any fun k => decide (k = t.extract b en)) = true
        · have hg := hkk (t.extract b en)
          rw [if_pos hky] at hg
          simp [g0, g2, g4, g5, vp, v4, hes, hg]
          refine tail _ _ 2 (by simp [g0]) (by simp [g2]) (by simp [g4]) (by simp [g5]) (St.sub.upd_of hBs2 hB4) (by rw [St.upd_ne _ _ h24]; exact v2) (by rw [St.upd_same]; rfl) ?_
          rw [htok, if_pos ⟨rfl, hky⟩]
        · have hg := hkk (t.extract b en)
          rw [if_neg hky] at hg
          simp [g0, g2, g4, g5, vp, v4, hes, hg]
          refine tail _ _ 1 (by simp [g0]) (by simp [g2]) (by simp [g4]) (by simp [g5]) hBs2 v2 v4 ?_
          rw [htok, if_neg (fun h => hky h.2)]
      · have hk1' : ¬ (kd : Int) = 1 := by omega
        simp [g0, g2, g4, g5, vp, v4, hk1']
        refine tail _ _ kd (by simp [g0]) (by simp [g2]) (by simp [g4]) (by simp [g5]) hBs2 v2 v4 ?_
        rw [htok, if_neg (fun h => hk1 h.1)]
    simp [f0]
    refine PW.loop (fun n e s' => ∃ j : Nat, j + n = 6 ∧ e 0 = .pt p 0 0 ∧ e 2 = .pt i2 0 0 ∧ e 4 = .pt i4 0 0 ∧ e 5 = .lit (.int .i64 1) ∧ e 47 = kindsV p ∧ e 48 = .lit (.int .i64 6) ∧ e 49 = .lit (.int .i64 j) ∧ B.sub s' ∧
      s' i2 = some (.row 32 4 [tokC 0 ⟨#[]⟩ ⟨#[]⟩ 0]) ∧ s' i4 = some (.row 32 4 [tokC 8 (t.extract a b) ⟨#[]⟩ b]) ∧ firstK ((lens t b d).drop j) = firstK (lens t b d)) 6
      ⟨0, by omega, by simp [f0], by simp [f2], by simp [f4], by simp [f5], by simp, by simp, by simp, hBτ1, t21, t41, rfl⟩ ?_
    clear hBτ1 t21 t41 tp1 f0 f2 f4 f5
    rintro n e s' ⟨j, hj, e0, e2, e4, e5, e47, e48, e49, hBs, u2, u4, hf⟩
    have up := hBs _ _ hBp
    refine pwC_sound _ _ _ _ ?_
    by_cases h6 : j = 6
    · subst h6
      simp [e0, e48, e49]
      refine fin _ s' (by simp [e0]) (by simp [e2]) (by simp [e4]) ?_ hBs u2 ?_
      · rw [← hf]; simp [e5, lens, firstK]
      · rw [u4, ← hf]; simp [lens, firstK]
    obtain rfl | rfl | rfl | rfl | rfl | rfl : j = 0 ∨ j = 1 ∨ j = 2 ∨ j = 3 ∨ j = 4 ∨ j = 5 := by omega
    · generalize hm : lineLen t b d = m at hf
      have hfm : firstK (lens t b d) = if 0 < m then (7, m) else firstK ((lens t b d).drop 1) := by rw [← hf, ← hm]; rfl
      simp [e0, e47, e48, e49]
      intro i7 h7
      have n7p := fresh_ne h7 up
      have n72 := fresh_ne h7 u2
      have n74 := fresh_ne h7 u4
      refine (line_c (t := t) (a := b) (M := M) (c := d) (s := s'.upd i7 _) (p := p) (by rw [St.upd_ne _ _ n7p.symm]; exact up) ht hbt).mono ?_
      rintro _ s3 ⟨hs3, rfl⟩
      rw [hs3]
      clear hs3 s3
      rw [hm]
      by_cases hpos : 0 < m
      · have hpos' : (0 : Int) < (m : Nat) := by omega
        rw [if_pos hpos] at hfm
        simp [e0, e4, hpos, hpos']
        refine PW.drawn (fun i => 0) [0, 1, 3, 2, 4, 5] mixed_ (fun _ _ _ _ h => h) (by kernel_rfl) ?_
        simp [e0, e4, n7p, n72, n74, n7p.symm, n72.symm, n74.symm, u4]
        refine fin _ _ (by simp [e0]) (by simp [e2]) (by simp [e4]) (by rw [hfm]; simp) (St.sub.upd_of (hBs.upd h7) hB4) (by simp [h24, n72.symm, u2]) ?_
        rw [hfm, St.upd_same]
        simp
      · have hpos' : ¬ (0 : Int) < (m : Nat) := by omega
        have hm0 : m = 0 := by omega
        rw [if_neg hpos] at hfm
        have w1 : IntKind.i64.wrap 1 = 1 := by decide
        simp [e0, e4, e49, hpos, hpos', hm0, w1]
        exact ⟨n - 1, by omega, 1, by omega, e2, e5, e47, e48, rfl, hBs.upd h7, by simp [n72.symm, u2], by simp [n74.symm, u4], hfm.symm⟩
    · generalize hm : (if isL (bt t b) = true then wordEnd t b - b else 0) = m at hf
      have hfm : firstK (lens t b d) = if 0 < m then (1, m) else firstK ((lens t b d).drop 2) := by rw [← hf, ← hm]; rfl
      simp [e0, e47, e48, e49]
      intro i7 h7
      have n7p := fresh_ne h7 up
      have n72 := fresh_ne h7 u2
      have n74 := fresh_ne h7 u4
      refine (lname_c (t := t) (a := b) (M := M) (c := d) (s := s'.upd i7 _) (p := p) (by rw [St.upd_ne _ _ n7p.symm]; exact up) ht hbt).mono ?_
      rintro _ s3 ⟨hs3, rfl⟩
      rw [hs3]
      clear hs3 s3
      rw [hm]
      by_cases hpos : 0 < m
      · have hpos' : (0 : Int) < (m : Nat) := by omega
        rw [if_pos hpos] at hfm
        simp [e0, e4, hpos, hpos']
        refine PW.drawn (fun i => 0) [0, 1, 3, 2, 4, 5] mixed_ (fun _ _ _ _ h => h) (by kernel_rfl) ?_
        simp [e0, e4, n7p, n72, n74, n7p.symm, n72.symm, n74.symm, u4]
        refine fin _ _ (by simp [e0]) (by simp [e2]) (by simp [e4]) (by rw [hfm]; simp) (St.sub.upd_of (hBs.upd h7) hB4) (by simp [h24, n72.symm, u2]) ?_
        rw [hfm, St.upd_same]
        simp
      · have hpos' : ¬ (0 : Int) < (m : Nat) := by omega
        have hm0 : m = 0 := by omega
        rw [if_neg hpos] at hfm
        have w1 : IntKind.i64.wrap 2 = 2 := by decide
        simp [e0, e4, e49, hpos, hpos', hm0, w1]
        exact ⟨n - 1, by omega, 2, by omega, e2, e5, e47, e48, rfl, hBs.upd h7, by simp [n72.symm, u2], by simp [n74.symm, u4], hfm.symm⟩
    · generalize hm : numLen t b = m at hf
      have hfm : firstK (lens t b d) = if 0 < m then (3, m) else firstK ((lens t b d).drop 3) := by rw [← hf, ← hm]; rfl
      simp [e0, e47, e48, e49]
      intro i7 h7
      have n7p := fresh_ne h7 up
      have n72 := fresh_ne h7 u2
      have n74 := fresh_ne h7 u4
      refine (number_c (t := t) (a := b) (M := M) (c := d) (s := s'.upd i7 _) (p := p) (by rw [St.upd_ne _ _ n7p.symm]; exact up) ht hbt).mono ?_
      rintro _ s3 ⟨hs3, rfl⟩
      rw [hs3]
      clear hs3 s3
      rw [hm]
      by_cases hpos : 0 < m
      · have hpos' : (0 : Int) < (m : Nat) := by omega
        rw [if_pos hpos] at hfm
        simp [e0, e4, hpos, hpos']
        refine PW.drawn (fun i => 0) [0, 1, 3, 2, 4, 5] mixed_ (fun _ _ _ _ h => h) (by kernel_rfl) ?_
        simp [e0, e4, n7p, n72, n74, n7p.symm, n72.symm, n74.symm, u4]
        refine fin _ _ (by simp [e0]) (by simp [e2]) (by simp [e4]) (by rw [hfm]; simp) (St.sub.upd_of (hBs.upd h7) hB4) (by simp [h24, n72.symm, u2]) ?_
        rw [hfm, St.upd_same]
        simp
      · have hpos' : ¬ (0 : Int) < (m : Nat) := by omega
        have hm0 : m = 0 := by omega
        rw [if_neg hpos] at hfm
        have w1 : IntKind.i64.wrap 3 = 3 := by decide
        simp [e0, e4, e49, hpos, hpos', hm0, w1]
        exact ⟨n - 1, by omega, 3, by omega, e2, e5, e47, e48, rfl, hBs.upd h7, by simp [n72.symm, u2], by simp [n74.symm, u4], hfm.symm⟩
    · generalize hm : quotLen t b 39 = m at hf
      have hfm : firstK (lens t b d) = if 0 < m then (4, m) else firstK ((lens t b d).drop 4) := by rw [← hf, ← hm]; rfl
      simp [e0, e47, e48, e49]
      intro i7 h7
      have n7p := fresh_ne h7 up
      have n72 := fresh_ne h7 u2
      have n74 := fresh_ne h7 u4
      refine (char_c (t := t) (a := b) (M := M) (c := d) (s := s'.upd i7 _) (p := p) (by rw [St.upd_ne _ _ n7p.symm]; exact up) ht hbt).mono ?_
      rintro _ s3 ⟨hs3, rfl⟩
      rw [hs3]
      clear hs3 s3
      rw [hm]
      by_cases hpos : 0 < m
      · have hpos' : (0 : Int) < (m : Nat) := by omega
        rw [if_pos hpos] at hfm
        simp [e0, e4, hpos, hpos']
        refine PW.drawn (fun i => 0) [0, 1, 3, 2, 4, 5] mixed_ (fun _ _ _ _ h => h) (by kernel_rfl) ?_
        simp [e0, e4, n7p, n72, n74, n7p.symm, n72.symm, n74.symm, u4]
        refine fin _ _ (by simp [e0]) (by simp [e2]) (by simp [e4]) (by rw [hfm]; simp) (St.sub.upd_of (hBs.upd h7) hB4) (by simp [h24, n72.symm, u2]) ?_
        rw [hfm, St.upd_same]
        simp
      · have hpos' : ¬ (0 : Int) < (m : Nat) := by omega
        have hm0 : m = 0 := by omega
        rw [if_neg hpos] at hfm
        have w1 : IntKind.i64.wrap 4 = 4 := by decide
        simp [e0, e4, e49, hpos, hpos', hm0, w1]
        exact ⟨n - 1, by omega, 4, by omega, e2, e5, e47, e48, rfl, hBs.upd h7, by simp [n72.symm, u2], by simp [n74.symm, u4], hfm.symm⟩
    · generalize hm : quotLen t b 34 = m at hf
      have hfm : firstK (lens t b d) = if 0 < m then (5, m) else firstK ((lens t b d).drop 5) := by rw [← hf, ← hm]; rfl
      simp [e0, e47, e48, e49]
      intro i7 h7
      have n7p := fresh_ne h7 up
      have n72 := fresh_ne h7 u2
      have n74 := fresh_ne h7 u4
      refine (str_c (t := t) (a := b) (M := M) (c := d) (s := s'.upd i7 _) (p := p) (by rw [St.upd_ne _ _ n7p.symm]; exact up) ht hbt).mono ?_
      rintro _ s3 ⟨hs3, rfl⟩
      rw [hs3]
      clear hs3 s3
      rw [hm]
      by_cases hpos : 0 < m
      · have hpos' : (0 : Int) < (m : Nat) := by omega
        rw [if_pos hpos] at hfm
        simp [e0, e4, hpos, hpos']
        refine PW.drawn (fun i => 0) [0, 1, 3, 2, 4, 5] mixed_ (fun _ _ _ _ h => h) (by kernel_rfl) ?_
        simp [e0, e4, n7p, n72, n74, n7p.symm, n72.symm, n74.symm, u4]
        refine fin _ _ (by simp [e0]) (by simp [e2]) (by simp [e4]) (by rw [hfm]; simp) (St.sub.upd_of (hBs.upd h7) hB4) (by simp [h24, n72.symm, u2]) ?_
        rw [hfm, St.upd_same]
        simp
      · have hpos' : ¬ (0 : Int) < (m : Nat) := by omega
        have hm0 : m = 0 := by omega
        rw [if_neg hpos] at hfm
        have w1 : IntKind.i64.wrap 5 = 5 := by decide
        simp [e0, e4, e49, hpos, hpos', hm0, w1]
        exact ⟨n - 1, by omega, 5, by omega, e2, e5, e47, e48, rfl, hBs.upd h7, by simp [n72.symm, u2], by simp [n74.symm, u4], hfm.symm⟩
    · generalize hm : signLen t b signsL = m at hf
      have hfm : firstK (lens t b d) = if 0 < m then (6, m) else firstK ((lens t b d).drop 6) := by rw [← hf, ← hm]; rfl
      simp [e0, e47, e48, e49]
      intro i7 h7
      have n7p := fresh_ne h7 up
      have n72 := fresh_ne h7 u2
      have n74 := fresh_ne h7 u4
      refine (lsign_c (t := t) (a := b) (M := M) (c := d) (s := s'.upd i7 _) (p := p) (by rw [St.upd_ne _ _ n7p.symm]; exact up) ht (by omega)).mono ?_
      rintro _ s3 ⟨hs3, rfl⟩
      rw [hs3]
      clear hs3 s3
      rw [hm]
      by_cases hpos : 0 < m
      · have hpos' : (0 : Int) < (m : Nat) := by omega
        rw [if_pos hpos] at hfm
        simp [e0, e4, hpos, hpos']
        refine PW.drawn (fun i => 0) [0, 1, 3, 2, 4, 5] mixed_ (fun _ _ _ _ h => h) (by kernel_rfl) ?_
        simp [e0, e4, n7p, n72, n74, n7p.symm, n72.symm, n74.symm, u4]
        refine fin _ _ (by simp [e0]) (by simp [e2]) (by simp [e4]) (by rw [hfm]; simp) (St.sub.upd_of (hBs.upd h7) hB4) (by simp [h24, n72.symm, u2]) ?_
        rw [hfm, St.upd_same]
        simp
      · have hpos' : ¬ (0 : Int) < (m : Nat) := by omega
        have hm0 : m = 0 := by omega
        rw [if_neg hpos] at hfm
        have w1 : IntKind.i64.wrap 6 = 6 := by decide
        simp [e0, e4, e49, hpos, hpos', hm0, w1]
        exact ⟨n - 1, by omega, 6, by omega, e2, e5, e47, e48, rfl, hBs.upd h7, by simp [n72.symm, u2], by simp [n74.symm, u4], hfm.symm⟩
end
end Go.Pv

/- The program's lexer: the keys, the signs, all tokens. -/
namespace Go.Pv
open Go.Proofs
set_option linter.unusedVariables false
set_option linter.unusedSimpArgs false
set_option maxRecDepth 100000
set_option maxHeartbeats 1000000
theorem ascii_of {l : List UInt8} (h : l.all (fun b => decide (b.toNat < 128)) = true) : ∀ (j : Nat) b, l[j]? = some b → b.toNat < 128 := by
  intro j b hb
  rw [List.all_eq_true] at h
  simpa using h b (List.mem_of_getElem? hb)
theorem pkeys_c (s : St) (hv : Vars s) : PCalls Tryz.prog 65 [] s (fun r s' => s' = s ∧ r = .ret (strs .tight keysL)) := by
  refine PCalls.of Tryz.func65 rfl (by rfl) (by simp [Tryz.ntmps65]) ?_
  refine pwC_sound _ _ _ _ ?_
  simp [Tryz.ntmps65]
  refine (fields_c _ ?_ ?_ _ hv).mono ?_
  · decide
  · exact ascii_of (by kernel_rfl)
  rintro _ s1 ⟨hs1, rfl⟩
  rw [hs1]
  have : ∀ u : ByteArray, (Lib.fields u.data.toList).map (fun l => (⟨l.toArray⟩ : ByteArray)) = keysL → strs .tight ((Lib.fields u.data.toList).map fun l => (⟨l.toArray⟩ : ByteArray)) = strs .tight keysL := fun u h => by rw [h]
  rw [this _ (by kernel_rfl)]
  simp
theorem psigns_c (s : St) (hv : Vars s) : PCalls Tryz.prog 64 [] s (fun r s' => s' = s ∧ r = .ret (strs .tight signsL)) := by
  refine PCalls.of Tryz.func64 rfl (by rfl) (by simp [Tryz.ntmps64]) ?_
  refine pwC_sound _ _ _ _ ?_
  simp [Tryz.ntmps64]
  refine (fields_c _ ?_ ?_ _ hv).mono ?_
  · decide
  · exact ascii_of (by kernel_rfl)
  rintro _ s1 ⟨hs1, rfl⟩
  rw [hs1]
  have : ∀ u : ByteArray, (Lib.fields u.data.toList).map (fun l => (⟨l.toArray⟩ : ByteArray)) = signsL → strs .tight ((Lib.fields u.data.toList).map fun l => (⟨l.toArray⟩ : ByteArray)) = strs .tight signsL := fun u h => by rw [h]
  rw [this _ (by kernel_rfl)]
  simp
theorem dget_dset (es : List (ByteArray × PV)) (k b : ByteArray) (v : PV) : dget (dset es k v) b = if b = k then some v else dget es b := by
  induction es with
  | nil => simp [dset, dget]
  | cons q es ih =>
    obtain ⟨k', u⟩ := q
    by_cases h : k = k'
    · subst h
      simp [dset, dget]
      by_cases hb : b = k <;> simp [hb]
    · simp only [dset, if_neg h, dget, ih]
      by_cases hb : b = k'
      · have : ¬ b = k := fun e => h (e.symm.trans hb)
        simp [hb, this]
        intro e
        exact absurd e.symm h
      · simp [hb]
def keyD (l : List ByteArray) : List (ByteArray × PV) := l.foldl (fun es k => dset es k (.lit (.bool true))) []
theorem keyD_get (l : List ByteArray) (b : ByteArray) : dget (keyD l) b = if (l.any fun k => decide (k = b)) = true then some (.lit (.bool true)) else none := by
  have key : ∀ (l : List ByteArray) (es : List (ByteArray × PV)), dget (l.foldl (fun es k => dset es k (.lit (.bool true))) es) b = if (l.any fun k => decide (k = b)) = true then some (.lit (.bool true)) else dget es b := by
    intro l
    induction l with
    | nil => intro es; simp
    | cons x l ih =>
      intro es
      rw [List.foldl_cons, ih, dget_dset, List.any_cons]
      by_cases h : b = x
      · subst h; simp
      · have : ¬ x = b := fun e => h e.symm
        rw [if_neg h, show decide (x = b) = false from decide_eq_false this, Bool.false_or]
  exact (key l []).trans (by rfl)
theorem keyD_snoc (l : List ByteArray) (k : ByteArray) : keyD (l ++ [k]) = dset (keyD l) k (.lit (.bool true)) := by simp [keyD]
end Go.Pv

/- The program's lexer: all tokens of a text. -/
namespace Go.Pv
open Go.Proofs
set_option linter.unusedVariables false
set_option linter.unusedSimpArgs false
set_option maxRecDepth 100000
set_option maxHeartbeats 1000000
def ScanI (t : ByteArray) (M : PV) (p : Nat) (base : St) (n : Nat) (e : Env) (s' : St) : Prop :=
  ∃ (B : St) (i k : Nat) (c : Bool) (acc : List Tk) (v : PV), i ≤ t.size ∧ n = t.size + 1 - i ∧ n ≤ k ∧ e 4 = .pt p 0 0 ∧ e 7 = v ∧ acc ++ toksF keysL signsL t k i c = allT t ∧ acc.length ≤ 40000 ∧
    OwnL 32 4 B (acc.map encTC) v s' ∧ B p = some (scB t i M (strs .tight signsL) c) ∧ Vars B ∧ KeyMap B M ∧ base.sub B
theorem tokE_kd {t : ByteArray} (i : Nat) (c : Bool) : (tokE keysL signsL t i c).1 ≠ 0 := by
  unfold tokE
  repeat' split
  all_goals simp
theorem pscan_c (t : ByteArray) (ht : t.size ≤ 1000000000) (s : St) (hv : Vars s) : PCalls Tryz.prog 34 [.lit (.string t)] s (fun r s' => s' = s ∧ r = .ret (if 200000 < t.size ∨ 40000 < (allT t).length then .tup [.vec .nil [], .lit (.int .i64 2)] else .tup [toks .any (allT t), .lit (.int .i64 0)])) := by
  refine PCalls.conv (R := fun r s' => ∃ s2 : St, s2.sub s' ∧ (if 200000 < t.size ∨ 40000 < (allT t).length then s2 = s ∧ r = .ret (.tup [.vec .nil [], .lit (.int .i64 2)]) else ∃ v, r = .ret (.tup [v, .lit (.int .i64 0)]) ∧ OwnL 32 4 s ((allT t).map encTC) v s2)) ?_ ?_ ?_
  · refine PCalls.of Tryz.func34 rfl (by rfl) (by simp [Tryz.ntmps34]) ?_
    refine pwC_sound _ _ _ _ ?_
    refine pwC_cut fun K hK => ?_
    simp [Tryz.ntmps34]
    refine hK _ _ ?_
    clear hK K
    refine pwC_cut fun K hK => ?_
    by_cases h1 : 200000 < t.size
    · have h1' : (200000 : Int) < t.size := by omega
      clear hK
      simp [Tryz.ntmps34, h1, h1']
      exact ⟨_, sub_refl, sub_refl⟩
    have h1' : ¬ (200000 : Int) < t.size := by omega
    simp [Tryz.ntmps34, h1, h1']
    refine hK _ _ ?_
    clear hK K
    refine pwC_cut fun K hK => ?_
    simp
    intro im him
    refine (psigns_c _ (hv.upd (hv.fresh him).1 (hv.fresh him).2)).mono ?_
    rintro _ s1 ⟨hs1, rfl⟩
    rw [hs1]
    clear hs1 s1
    simp
    intro p hp0 hmp hps
    refine hK _ _ ?_
    clear hK K
    have him' := hv.fresh him
    have hpp' := hv.fresh hps
    have hpm : ¬ p = im := fun e => hmp e.symm
    generalize hE : Env.put _ _ _ = E
    have g2 : E 2 = .vec .nil [] := by rw [← hE]; simp
    have g4 : E 4 = .pt p 0 0 := by rw [← hE]; simp
    clear hE
    generalize hσ : St.upd (St.upd _ _ _) _ _ = σ
    have hσp : σ p = some (scB t 0 (.mp im) (strs .tight signsL) true) := by rw [← hσ]; simp
    have hσm : σ im = some (.dict []) := by rw [← hσ, St.upd_ne _ _ hmp]; simp
    have hσs : s.sub σ := by rw [← hσ]; exact ((sub_refl.upd_of him).upd_of hps)
    have hσv : Vars σ := hv.sub hσs
    clear hσ
    refine pwC_cut fun K hK => ?_
    simp
    refine (pkeys_c _ hσv).mono ?_
    rintro _ s1 ⟨hs1, rfl⟩
    rw [hs1]
    clear hs1 s1
    have hk200 : keysL.length ≤ 200 := by decide
    simp
    generalize hL : keysL = L at hk200 ⊢
    refine PW.loop (fun n e s' => ∃ j : Nat, j + n = L.length ∧ e 2 = .vec .nil [] ∧ e 4 = .pt p 0 0 ∧ e 17 = strs .tight L ∧ e 18 = .lit (.int .i64 (L.length : Nat)) ∧ e 19 = .lit (.int .i64 j) ∧ s' = σ.upd im (some (.dict (keyD (L.take j))))) L.length ⟨0, by omega, by simp [g2], by simp [g4], by simp, by simp, by simp, ?_⟩ ?_
    · rw [List.take_zero]
      funext i
      by_cases hi : i = im
      · subst hi; rw [St.upd_same]; exact hσm
      · rw [St.upd_ne _ _ hi]
    · rintro n e s' ⟨j, hj, e2, e4, e17, e18, e19, rfl⟩
      refine pwC_sound _ _ _ _ ?_
      by_cases hlt : j < L.length
      · have hlt' : (j : Int) < L.length := by omega
        have hg : L[j]? = some L[j] := List.getElem?_eq_getElem hlt
        have w1 : IntKind.i64.wrap ((j : Int) + 1) = ((j + 1 : Nat) : Int) := by rw [wrap_i64 (by omega) (by omega)]; omega
        have hσp' : (σ.upd im (some (.dict (keyD (L.take j))))) p = some (scB t 0 (.mp im) (strs .tight signsL) true) := by rw [St.upd_ne _ _ hpm]; exact hσp
        simp [e2, e4, e17, e18, e19, hlt, hlt', hg, w1, hpm, hσp]
        refine ⟨n - 1, by omega, j + 1, by omega, by omega, ?_⟩
        rw [show L.take (j + 1) = L.take j ++ [L[j]] from by rw [List.take_add_one, hg]; rfl, keyD_snoc]
      · have hlt' : ¬ (j : Int) < L.length := by omega
        have hjl : j = L.length := by omega
        simp [e2, e4, e17, e18, e19, hlt, hlt']
        refine hK _ _ ?_
        clear hK K
        have hkl := keyD_get L
        rw [hjl, List.take_length]
        have hM : KeyMap (σ.upd im (some (.dict (keyD L)))) (.mp im) := ⟨im, keyD L, rfl, by simp, fun b => by rw [hL]; exact hkl b⟩
        generalize hτ : St.upd _ _ _ = τ at hM ⊢
        have hτp : τ p = some (scB t 0 (.mp im) (strs .tight signsL) true) := by rw [← hτ, St.upd_ne _ _ hpm]; exact hσp
        have hτv : Vars τ := by rw [← hτ]; exact hσv.upd him'.1 him'.2
        have hτs : s.sub τ := by rw [← hτ]; exact hσs.upd_of him
        clear hτ hkl hσp hσm hσs hσv
        generalize hE' : Env.put e _ _ = E'
        have g2 : E' 2 = .vec .nil [] := by rw [← hE']; simp [e2]
        have g4 : E' 4 = .pt p 0 0 := by rw [← hE']; simp [e4]
        clear hE'
        refine pwC_cut fun K hK => ?_
        simp [g2, g4]
        refine hK _ _ ?_
        clear hK K
        simp
        refine PW.loop (fun n e s' => ScanI t (.mp im) p s n e s') (t.size + 1) ⟨τ, 0, t.size + 1, true, [], .vec .nil [], by omega, by omega, by omega, by simp [g4], by simp, by simp [allT], by simp, OwnL.nil _ _ _, hτp, hτv, hM, hτs⟩ ?_
        rintro n e s' ⟨B, i, k, c, acc, v, hi, hn, hk, e4, e7, hall, hacc, hO, hBp, hBv, hBM, hBs⟩
        refine pwC_sound _ _ _ _ ?_
        refine pwC_cut fun K hK => ?_
        simp [e4, e7]
        refine (ptoken_c (hBv.sub hO.sub) (hBM.sub hO.sub) (hO.at hBp) (by omega) hi).mono ?_
        intro r s1 hr
        obtain ⟨x, i2, c2, rfl, rfl, hx⟩ : ∃ (x : Tk) (i2 : Nat) (c2 : Bool), r = .ret (encT x) ∧ s1 = s'.upd p (some (scB t i2 (.mp im) (strs .tight signsL) c2)) ∧ ((x.kind = 0 ∧ acc ++ [x] = allT t) ∨ (x.kind ≠ 0 ∧ i < i2 ∧ i2 ≤ t.size ∧ (acc ++ [x]) ++ toksF keysL signsL t (k - 1) i2 c2 = allT t)) := by
          obtain ⟨hb1, hb2⟩ := bef_in c hi
          obtain ⟨k', rfl⟩ : ∃ k', k = k' + 1 := ⟨k - 1, by omega⟩
          rw [toksF_succ] at hall
          unfold restF at hall
          by_cases hend : (bef t i c).1 = t.size
          · rw [if_pos hend] at hr hall
            exact ⟨_, _, _, hr.1, hr.2, .inl ⟨rfl, hall⟩⟩
          · rw [if_neg hend] at hr hall
            have hin := tokE_in keysL signsL (bef t i c).2 (t := t) (i := (bef t i c).1) (by omega)
            exact ⟨_, _, _, hr.1, hr.2, .inr ⟨fun q => tokE_kd _ _ (Int.natCast_eq_zero.1 q), by omega, hin.2, by simpa using hall⟩⟩
        clear hr hall
        simp
        intro i8 h80 hp8 h8
        refine hK _ _ ?_
        clear hK K
        have hO2 := (hO.upd (k := p) (x := some (scB t i2 (.mp im) (strs .tight signsL) c2)) (.inr (by rw [hBp]; simp))).upd (k := i8) (x := some (.row 32 4 [encTC x])) (.inl (by rw [St.upd_ne _ _ (fun q => hp8 q.symm)]; exact h8))
        generalize hσ1 : St.upd (St.upd s' _ _) _ _ = σ1 at hO2 ⊢
        have h8B : Fresh B i8 := hO.sub.fresh h8
        have hp8' : ¬ i8 = p := fun q => hp8 q.symm
        have h8v := hBv.fresh h8B
        have hpv := hBv.ne hBp
        generalize hB1 : St.upd (St.upd B _ _) _ _ = B1 at hO2
        have hB1p : B1 p = some (scB t i2 (.mp im) (strs .tight signsL) c2) := by rw [← hB1, St.upd_ne _ _ hp8]; simp
        have hB18 : B1 i8 = some (.row 32 4 [encTC x]) := by rw [← hB1]; simp
        have hB1v : Vars B1 := by rw [← hB1]; exact (hBv.upd hpv.1 hpv.2).upd h8v.1 h8v.2
        have hB1m : KeyMap B1 (.mp im) := by rw [← hB1]; exact (hBM.upd hBp).sub (sub_refl.upd_of (by rw [St.upd_ne _ _ hp8']; exact h8B))
        have hB1s : s.sub B1 := by rw [← hB1]; exact (hBs.upd_of hps).upd_of (hBs.fresh h8B)
        clear hB1 hσ1
        have j8 := hO2.at hB18
        generalize hE : Env.put _ _ _ = E1
        have f4 : E1 4 = .pt p 0 0 := by rw [← hE]; simp [e4]
        have f7 : E1 7 = v := by rw [← hE]; simp [e7]
        have f8 : E1 8 = .pt i8 0 0 := by rw [← hE]; simp
        clear hE e4 e7
        refine pwC_cut fun K hK => ?_
        simp [f4, f7, f8, j8]
        refine appOwn (b := 48) (z := .agg #[.int .i64 0, .string ⟨#[]⟩, .string ⟨#[]⟩, .int .i64 0]) (ys := [encTC x]) hO2 (by simp) (by simp) (by simp) (by simp) rfl (by omega) (by simp) (fun s => by simp [elemsOf]) (by simp; omega) (fun v1 s2 hO3 => ?_)
        have k8 := hO3.at hB18
        refine hK _ _ ?_
        clear hK K
        generalize hE : Env.put _ _ _ = E2
        have g4 : E2 4 = .pt p 0 0 := by rw [← hE]; simp [f4]
        have g7 : E2 7 = v1 := by rw [← hE]; simp
        have g8 : E2 8 = .pt i8 0 0 := by rw [← hE]; simp [f8]
        clear hE f4 f7 f8 E1
        obtain ⟨j9, hv1⟩ : ∃ j9, v1 = .sl j9 4 0 (acc.length + 1) := by
          rcases hO3 with ⟨q, _⟩ | ⟨_, j9, _, q, _⟩
          · simp at q
          · exact ⟨j9, by rw [q]; simp⟩
        subst hv1
        have hacx : (acc ++ [x]).length = acc.length + 1 := by simp
        by_cases hbig : 40000 ≤ acc.length
        · have hbig' : (40000 : Int) < (acc.length : Int) + 1 := by omega
          have hall : 40000 < (allT t).length := by
            rcases hx with ⟨_, q⟩ | ⟨_, _, _, q⟩ <;> rw [← q] <;> simp <;> omega
          simp [g4, g7, g8, hbig, hbig', hall, k8]
          exact ⟨s, hB1s.trans hO3.sub, sub_refl⟩
        have hbig' : ¬ (40000 : Int) < (acc.length : Int) + 1 := by omega
        rcases hx with ⟨hk0, hall⟩ | ⟨hk0, hi1, hi2, hall⟩
        · have hlen : ¬ 40000 < (allT t).length := by rw [← hall, hacx]; omega
          simp [g4, g7, g8, hbig, hbig', hlen, h1, hk0, k8]
          obtain ⟨s3, q1, q2⟩ := hO3.shrink hB1s
          exact ⟨_, sub_refl, s3, q1, by rw [← hall]; simpa using q2⟩
        · simp [g4, g7, g8, hbig, hbig', hk0, k8]
          exact ⟨t.size + 1 - i2, by omega, B1, i2, k - 1, c2, acc ++ [x], _, hi2, rfl, by omega, by simp [g4], rfl, hall, by omega, by simpa [g7] using hO3, hB1p, hB1v, hB1m, hB1s⟩
  · rintro p s' ⟨s2, q1, q2⟩
    split at q2
    · obtain ⟨rfl, q3⟩ := q2
      cases q3
      exact ⟨_, _, Conv.sub q1 _, rfl, by rw [if_pos (by assumption)]⟩
    · obtain ⟨v, q3, q4⟩ := q2
      cases q3
      exact ⟨_, _, (Conv.sub q1 _).trans (Conv.ownTup q4 (xs := (allT t).map encT) (by simp) [] [.lit (.int .i64 0)] (by simp) (by simp [plainP])), rfl, by rw [if_neg (by assumption)]; rfl⟩
  · rintro c s' ⟨s2, q1, q2⟩
    split at q2
    · cases q2.2
    · obtain ⟨v, q3, _⟩ := q2
      cases q3
end Go.Pv

/- Parse. -/
namespace Go.Pv
open Go.Proofs
set_option linter.unusedVariables false
set_option linter.unusedSimpArgs false
set_option maxRecDepth 100000
set_option maxHeartbeats 4000000
/-- The items from here on. -/
def parseF (n : Nat) : Nat → Cx → Nat → Out (List Nd)
  | 0, c, at_ => if at_ < c.v.length then .fuel else .ok [] at_
  | m + 1, c, at_ => if at_ < c.v.length then (match c.itemS n at_ with
    | .fuel => .fuel
    | .bad => .bad
    | .ok x j => (match parseF n m (c.after x) j with
      | .fuel => .fuel
      | .bad => .bad
      | .ok l e => .ok (x :: l) e)) else .ok [] at_
theorem itemG_nb {c : Cx} {p : NT → Nat → Out Nd} {n i : Nat} : ∀ m, c.itemG p n m i ≠ .bad
  | 0 => by unfold Cx.itemG; simp
  | m + 1 => by
    unfold Cx.itemG
    split
    · simp
    · exact itemG_nb m
    · split <;> simp
theorem after_ty (c : Cx) (x : Nd) : ∃ T, c.after x = { c with ty := T } := by
  unfold Cx.after
  split
  · split
    · exact ⟨_, rfl⟩
    · exact ⟨c.ty, rfl⟩
  · exact ⟨c.ty, rfl⟩
theorem after_v (c : Cx) (x : Nd) : (c.after x).v = c.v := by obtain ⟨T, h⟩ := after_ty c x; rw [h]
theorem ok_ty {c : Cx} (h : c.ok) (T : List ByteArray) : ({ c with ty := T } : Cx).ok := ⟨h.v, h.l, h.vl, h.tx, h.en, h.gl, h.mp⟩
theorem parseF_nb {n : Nat} : ∀ (m : Nat) (c : Cx) (at_ : Nat), parseF n m c at_ ≠ .bad
  | 0, c, at_ => by unfold parseF; split <;> simp
  | m + 1, c, at_ => by
    unfold parseF
    split
    · split
      · simp
      · rename_i h; exact absurd h (itemG_nb 6)
      · rename_i x j h
        have := parseF_nb (n := n) m (c.after x) j
        split
        · simp
        · rename_i h2; exact absurd h2 this
        · simp
    · simp
theorem parseF_fuel {n : Nat} : ∀ (m : Nat) (c : Cx), c.ok → ∀ (at_ : Nat) (k : Nat), c.v.length - at_ ≤ m → c.v.length - at_ ≤ k → parseF n m c at_ = parseF n k c at_
  | 0, c, hc, at_, 0, _, _ => rfl
  | 0, c, hc, at_, k + 1, h1, _ => by unfold parseF; rw [if_neg (by omega), if_neg (by omega)]
  | m + 1, c, hc, at_, 0, _, h2 => by unfold parseF; rw [if_neg (by omega), if_neg (by omega)]
  | m + 1, c, hc, at_, k + 1, h1, h2 => by
    unfold parseF
    by_cases h : at_ < c.v.length
    · rw [if_pos h, if_pos h]
      cases hi : c.itemS n at_ with
      | fuel => rfl
      | bad => rfl
      | ok x j =>
        have hz := item_sz (n := n) hc h 6 x j hi
        obtain ⟨T, hT⟩ := after_ty c x
        have hok : (c.after x).ok := by rw [hT]; exact ok_ty hc T
        have hv : (c.after x).v.length = c.v.length := by rw [after_v]
        show (match parseF n m (c.after x) j with | .fuel => Out.fuel | .bad => .bad | .ok l e => .ok (x :: l) e) = (match parseF n k (c.after x) j with | .fuel => Out.fuel | .bad => .bad | .ok l e => .ok (x :: l) e)
        rw [parseF_fuel m (c.after x) hok j k (by omega) (by omega)]
    · rw [if_neg h, if_neg h]
theorem parseF_step {n : Nat} {c : Cx} (hc : c.ok) {at_ : Nat} (h : at_ < c.v.length) {L : List Nd} {e : Nat} (hp : parseF n (c.v.length - at_) c at_ = .ok L e) : ∃ x j L', c.itemS n at_ = .ok x j ∧ L = x :: L' ∧ parseF n (c.v.length - j) (c.after x) j = .ok L' e := by
  rw [show c.v.length - at_ = (c.v.length - at_ - 1) + 1 by omega] at hp
  unfold parseF at hp
  rw [if_pos h] at hp
  cases hi : c.itemS n at_ with
  | fuel => rw [hi] at hp; cases hp
  | bad => rw [hi] at hp; cases hp
  | ok x j =>
    rw [hi] at hp
    have hz := item_sz (n := n) hc h 6 x j hi
    obtain ⟨T, hT⟩ := after_ty c x
    have hok : (c.after x).ok := by rw [hT]; exact ok_ty hc T
    have hv : (c.after x).v.length = c.v.length := by rw [after_v]
    cases hq : parseF n (c.v.length - at_ - 1) (c.after x) j with
    | fuel => simp only [hq] at hp; cases hp
    | bad => simp only [hq] at hp; cases hp
    | ok l e' =>
      simp only [hq] at hp
      cases hp
      exact ⟨x, j, l, rfl, rfl, by rw [← hq, ← hv]; exact parseF_fuel _ _ hok _ _ (by omega) (by omega)⟩
theorem parseF_end {n : Nat} {c : Cx} {at_ : Nat} (h : ¬ at_ < c.v.length) {L : List Nd} {e : Nat} {m : Nat} (hp : parseF n m c at_ = .ok L e) : L = [] ∧ e = at_ := by
  cases m with
  | zero => unfold parseF at hp; rw [if_neg h] at hp; cases hp; exact ⟨rfl, rfl⟩
  | succ m => unfold parseF at hp; rw [if_neg h] at hp; cases hp; exact ⟨rfl, rfl⟩
theorem known_cons {c : Cx} {y u : ByteArray} : ({ c with ty := y :: c.ty } : Cx).known u = (decide (y = u) || c.known u) := rfl
/-- What is known behind an item, in the state. -/
theorem env_after {c : Cx} {s : St} {t y : Nd} {x : Nd} {es : List (ByteArray × PV)} (he : c.env s) (h5 : x.op = 5) (hl : x.l = [t, y]) (hs : s c.it = some (.dict es)) {s' : St} (h' : s' c.it = some (.dict (dset es y.s (.lit (.bool true))))) : (c.after x).env s' := by
  obtain ⟨es', h1, h2⟩ := he
  rw [hs] at h1
  cases h1
  have ha : c.after x = { c with ty := y.s :: c.ty } := by unfold Cx.after; rw [if_pos h5, hl]; rfl
  rw [ha]
  refine ⟨_, h', fun u => ?_⟩
  rw [dget_dset, known_cons]
  by_cases hu : u = y.s
  · subst hu
    simp
  · rw [if_neg hu, h2 u]
    have hu' : decide (y.s = u) = false := decide_eq_false fun e => hu e.symm
    rw [hu', Bool.false_or]
theorem sc_item {imp : List Nat} {args : List SV} {st : SS} {b : St} {K : SV → SS → St → Prop} {Kp : List PanicEntry → SS → St → Prop} {c : Cx} {n at_ ir : Nat} {k : Int} {x : Nd} {j : Nat} (hc : c.ok) (hn9 : n ≤ 1000000000) (h0 : at_ < c.v.length) (hi : c.itemS n at_ = .ok x j) (he : c.env b) (hs : b ir = some (rdRow c (at_ : Nat) k)) (ha : args = [.av (.pv (.pt ir 0 0))])
    (hK : ∀ k' b', (c.after x).env b' → b' ir = some (rdRow c (j : Nat) k') → (∀ z y, z ≠ ir → z ≠ c.it → b z = some y → b' z = some y) → K (.av (.pv (encU x))) st b') : SC Tryz.prog imp 70 args st b K Kp := by
  intro σ s qs hR hA
  subst ha
  have hq : qs = [.pt ir 0 0] := pvs_rel (ps := [.pt ir 0 0]) rfl hA
  subst hq
  have hes := he
  obtain ⟨es0, g1, g2⟩ := hes
  have hne : c.it ≠ ir := fun e => by rw [e, hs] at g1; cases g1
  refine (item_c hc hn9 h0 (by rw [hi]; simp) (he.sub hR.sub) (hR.sub _ _ hs)).mono ?_
  rintro r s' ⟨x', j', k', ho, rfl, hh⟩
  rw [hi] at ho
  cases ho
  have r1 := srel_upd (x := rdRow c (j : Nat) k') hs hR
  rcases hh with ⟨h5, rfl⟩ | ⟨h5, t, y, es, hl, hs', rfl⟩
  · refine ⟨σ, st, _, .av (.pv (encU x)), .refl, r1, Or.inr rfl, hK k' _ ?_ (St.upd_same _ _ _) (fun z y hz _ hy => by rw [St.upd_ne _ _ hz]; exact hy)⟩
    have ha : c.after x = c := by unfold Cx.after; rw [if_neg h5]
    rw [ha]
    exact ⟨es0, by rw [St.upd_ne _ _ hne]; exact g1, g2⟩
  · have hbe : b c.it = some (.dict es) := by have := hR.sub _ _ g1; rw [hs'] at this; cases this; exact g1
    have r2 := srel_upd (x := .dict (dset es y.s (.lit (.bool true)))) (show (b.upd ir (some (rdRow c (j : Nat) k'))) c.it = some (.dict es) by rw [St.upd_ne _ _ hne]; exact hbe) r1
    refine ⟨σ, st, _, .av (.pv (encU x)), .refl, r2, Or.inr rfl, hK k' _ (env_after he h5 hl hbe (St.upd_same _ _ _)) (by rw [St.upd_ne _ _ (Ne.symm hne), St.upd_same]) (fun z y hz hz2 hy => by rw [St.upd_ne _ _ hz2, St.upd_ne _ _ hz]; exact hy)⟩
end Go.Pv

/- Parse: the walk. -/
namespace Go.Pv
open Go.Proofs
set_option linter.unusedVariables false
set_option linter.unusedSimpArgs false
set_option maxRecDepth 100000
set_option maxHeartbeats 4000000
/-- A file's node. -/
def fileN (c : Cx) (L : List Nd) (e : Nat) : Nd := c.nodeN 1 ⟨#[]⟩ (c.place 0) e L
def PRes (c : Cx) (n : Nat) (r : Res) : Prop := ∃ L e, parseF n c.v.length c 0 = .ok L e ∧ ((100000 < (fileN c L e).size ∧ r = .ret (.tup [zeroN, .lit (.int .i64 2)])) ∨ (¬ 100000 < (fileN c L e).size ∧ r = .ret (.tup [encU (fileN c L e), .lit (.int .i64 0)])))
@[reducible] def penv (ir : Nat) (p : Int) (o : SV) : SE := [(4, .av (.cell 0 0)), (6, .av (.pv (.pt ir 0 0))), (8, intV p), (9, o)]
theorem Parse_c (kk kv : VK) (l : List Tk) (v : List Int) (n : Nat) (hn9 : n ≤ 1000000000) (hv : SiteV l v) (hll : l.length ≤ 1000000000) (hx : ∀ t ∈ l, t.text.size ≤ 1000000) (hl : v.length ≤ 1000000) (hf : ∀ k0 it, parseF n (seenL l v).length (cxOf kk k0 l v it) 0 ≠ .fuel) (s : St) : PCalls Tryz.prog 36 [toks kk l, ints kv v] s (fun r s' => s' = s ∧ ∃ k0 it, PRes (cxOf kk k0 l v it) n r) := by
  refine PCalls.funG (D := [(6, ([0, 1, 2, 4, 5, 6, 3, 7, 8, 9], [], []))]) ti_ok Tryz.func36 rfl (by kernel_rfl) ?_
  refine sc_new2 (ps := [toks kk l, ints kv v]) (R := fun r i j x y => ∃ k0 : VK, x = .dict [] ∧ y = rdRow (cxOf kk k0 l v i) 0 0 ∧ r = .tup [.pt j 0 0, .lit (.int .i64 0)]) rfl rfl (fun s2 _ => (begin_c kk kv l v hv hx hl s2).mono ?_) ?_
  · rintro r s' ⟨k0, it, ir, h1, h2, rfl, rfl⟩
    exact ⟨_, it, ir, _, _, rfl, h1, h2, rfl, k0, rfl, rfl, rfl⟩
  rintro _ it ir _ _ h1 h2 ⟨k0, rfl, rfl, rfl⟩
  rintro (_ | _) h0
  · exact absurd h0 (by decide)
  have hne : ir ≠ it := fun e => by subst e; rw [St.upd_same] at h2; cases h2
  have hsi : s ir = none := by rw [St.upd_ne _ _ hne] at h2; exact h2
  have hc : (cxOf kk k0 l v it).ok := cxOf_ok hv.asc hll hl hx
  have hfc := hf k0 it
  have hcv : (cxOf kk k0 l v it).v.length = (seenL l v).length := rfl
  have hcit : (cxOf kk k0 l v it).it = it := rfl
  have hcty : (cxOf kk k0 l v it).ty = [] := rfl
  have hvl := hc.vl
  obtain ⟨c, hcc⟩ : ∃ c, cxOf kk k0 l v it = c := ⟨_, rfl⟩
  obtain ⟨b, hb⟩ : ∃ b, (s.upd it (some (.dict []))).upd ir (some (rdRow (cxOf kk k0 l v it) 0 0)) = b := ⟨_, rfl⟩
  have hbr : b ir = some (rdRow c 0 0) := by rw [← hb, St.upd_same, hcc]
  have hbe : c.env b := by
    refine ⟨[], by rw [← hb, ← hcc, hcit, St.upd_ne _ _ (Ne.symm hne), St.upd_same], fun u => ?_⟩
    unfold Cx.known
    rw [← hcc, hcty]
    rfl
  have hsb : s.sub b := by rw [← hb]; exact (sub_refl.upd_of h1).upd_of hsi
  refine sc_eqb hb ?_
  rw [← hcv, hcc] at hfc
  rw [hcc] at hc hvl hcit
  have hres : ∀ r, PRes c n r → ∃ k0 it, PRes (cxOf kk k0 l v it) n r := fun r h => ⟨k0, it, by rw [hcc]; exact h⟩
  obtain ⟨L, e, hL⟩ : ∃ L e, parseF n c.v.length c 0 = .ok L e := by
    cases h : parseF n c.v.length c 0 with
    | fuel => exact absurd h hfc
    | bad => exact absurd h (parseF_nb _ _ _)
    | ok L e => exact ⟨L, e, rfl⟩
  refine sc_pure (ps := [.pt ir 0 0]) (v := .lit (.int .i64 (c.place 0 : Nat))) (fun s2 hs2 => place_c hc (by omega) s2 ir 0 (hbe.sub hs2) (hs2 _ _ hbr)) rfl rfl ?_
  refine sw_loop (D := [(6, ([0, 1, 2, 4, 5, 6, 3, 7, 8, 9], [], []))]) ti_ok (by kernel_rfl) (fun m env st b2 => ∃ (T : List ByteArray) (at_ : Nat) (k : Int) (X rest : List Nd), at_ + m = c.v.length ∧ ({ c with ty := T } : Cx).env b2 ∧ b2 ir = some (rdRow c (at_ : Nat) k) ∧ s.sub b2 ∧ parseF n (c.v.length - at_) { c with ty := T } at_ = .ok rest e ∧ X ++ rest = L ∧ X.length ≤ at_ ∧ (X.map Nd.size).sum ≤ 2 * at_ ∧ ((X = [] ∧ env = penv ir (c.place 0 : Nat) (.av (.pv (.vec .nil []))) ∧ st = [zLoc]) ∨ (X ≠ [] ∧ env = penv ir (c.place 0 : Nat) (.av (.own 1)) ∧ st = [zLoc, ownL X]))) c.v.length ⟨[0], [4, 6, 8, 9], rfl, c.ty, 0, 0, [], L, by omega, hbe, hbr, hsb, by rw [Nat.sub_zero]; exact hL, rfl, by simp, by simp, .inl ⟨rfl, rfl, rfl⟩⟩ ?_
  rintro m env st b2 ⟨T, at_, k, X, rest, hm, he, hr, hs, hp, hXL, hXl, hXs, hor⟩
  obtain ⟨C, hC⟩ : ∃ C : Cx, C = { c with ty := T } := ⟨_, rfl⟩
  have hCok : C.ok := by rw [hC]; exact ok_ty hc T
  have hCv : C.v = c.v := by rw [hC]
  have hCr : ∀ (a k : Int), rdRow C a k = rdRow c a k := fun a k => by rw [hC]
  have hCi : C.it = c.it := by rw [hC]
  rw [← hC] at he hp
  rw [← hCv] at hp
  have cl : ∀ (f : Nat) (x : PV), (rdCells c (at_ : Nat) k)[f]? = some x → cellsAt b2 (.pt ir 0 f) 1 = some [x] := fun f x hf => by
    simp only [cellsAt, hr]
    have hlt := (List.getElem?_eq_some_iff.1 hf).1
    simp only [List.getElem?_cons_zero]
    rw [if_pos (by omega)]
    congr 1
    rw [List.drop_eq_getElem_cons hlt, List.take_succ_cons, List.take_zero, (List.getElem?_eq_some_iff.1 hf).2]
  have loads : ∀ {K : PV → Prop}, True := fun {_} => trivial
  rcases hor with ⟨hX0, rfl, rfl⟩ | ⟨hX0, rfl, rfl⟩
  · refine ⟨by kernel_rfl, ?_⟩
    refine ⟨_, _, cl 4 (.lit (.int .i64 (at_ : Nat))) rfl, rfl, ?_⟩
    refine ⟨_, _, cl 1 (natL c.kv c.v) rfl, rfl, ?_⟩
    rintro (_ | _) ht
    · have hlt : ¬ at_ < C.v.length := by have := of_decide_eq_false ht; rw [List.length_map] at this; rw [hCv]; omega
      obtain ⟨hrest, hee⟩ := parseF_end hlt hp
      rw [hrest, List.append_nil] at hXL
      skip
      refine sc_out (ps := [.pt ir 0 0, .lit (.int .i64 1), .lit (.string ⟨#[]⟩), .lit (.int .i64 (c.place 0 : Nat)), .vec .nil (X.map encU)]) (R := fun r x => r = encU (fileN c L e) ∧ ∃ k', x = rdRow c (e : Nat) k') hr (by rw [hX0]; rfl) rfl (fun s2 hs2 => ?_) ?_
      · rw [← hXL, hee]
        refine (node_c hCok (show at_ ≤ C.v.length by rw [hCv]; omega) 1 ⟨#[]⟩ (c.place 0) .nil X (X.map encU) (by simp) (by simp) s2 ir k (he.sub hs2) (by rw [hCr]; exact hs2 _ _ hr)).mono ?_
        rintro r s' ⟨k', rfl, rfl⟩
        refine ⟨_, _, rfl, rfl, ?_, k', by rw [hCr]⟩
        rw [hC]; rfl
      rintro _ x ⟨rfl, k', rfl⟩
      have hsz : (fileN c L e).size ≤ 100000000 := by
        rw [Nd.size_eq]
        show 1 + (L.map Nd.size).sum ≤ _
        rw [← hXL]; omega
      refine sc_pure (ps := [encU (fileN c L e)]) (v := .lit (.int .i64 ((fileN c L e).size : Nat))) (fun s2 _ => size_c _ hsz s2) rfl rfl ?_
      have hsf : s.sub (b2.upd ir (some (rdRow c (e : Nat) k'))) := fun z y hz => by rw [St.upd_ne _ _ (fun e => by subst e; rw [hsi] at hz; cases hz)]; exact hs z y hz
      rintro (_ | _) h9
      · have h9 := of_decide_eq_false h9
        exact Gh.sub hsf (Gh.ret ⟨rfl, hres _ ⟨L, e, hL, .inr ⟨by omega, rfl⟩⟩⟩)
      · have h9 := of_decide_eq_true h9
        exact Gh.sub hsf (Gh.ret ⟨rfl, hres _ ⟨L, e, hL, .inl ⟨by omega, rfl⟩⟩⟩)
    · have hlt : at_ < C.v.length := by have := of_decide_eq_true ht; rw [List.length_map] at this; rw [hCv]; omega
      obtain ⟨x, j, rest', hi, hre, hp'⟩ := parseF_step hCok hlt hp
      have hz := item_sz (n := n) hCok hlt 6 x j hi
      rw [hCv] at hz
      obtain ⟨T', hT'⟩ := after_ty C x
      refine sc_item hCok hn9 hlt hi he (by rw [hCr]; exact hr) rfl (fun k' b' g1 g2 g3 => ?_)
      refine ⟨[encC x], rfl, (by simp), ?_⟩
      refine ⟨c.v.length - j, by omega, [0, 1], [4, 6, 8, 9], rfl, T', j, k', X ++ [x], rest', by omega, ?_, by rw [← hCr]; exact g2, ?_, ?_, by rw [List.append_assoc, ← hXL, hre]; rfl, by simp; omega, by rw [List.map_append, List.sum_append]; simp; omega, .inr ⟨by simp, rfl, ?_⟩⟩
      · rw [hT'] at g1; rw [hC] at g1; exact g1
      · intro z y hzy
        refine g3 z y (fun e => by subst e; rw [hsi] at hzy; cases hzy) (fun e => ?_) (hs z y hzy)
        rw [hCi, hcit] at e
        subst e
        rw [h1] at hzy; cases hzy
      · rw [hT'] at hp'; rw [hCv] at hp'; rw [hC] at hp'; exact hp'
      · subst hX0; rfl
  · refine ⟨by kernel_rfl, ?_⟩
    refine ⟨_, _, cl 4 (.lit (.int .i64 (at_ : Nat))) rfl, rfl, ?_⟩
    refine ⟨_, _, cl 1 (natL c.kv c.v) rfl, rfl, ?_⟩
    rintro (_ | _) ht
    · have hlt : ¬ at_ < C.v.length := by have := of_decide_eq_false ht; rw [List.length_map] at this; rw [hCv]; omega
      obtain ⟨hrest, hee⟩ := parseF_end hlt hp
      rw [hrest, List.append_nil] at hXL
      refine sc_own (n := 4) (k := 1) (X.map encU) rfl rfl (ownL_cells X) ?_
      refine sc_out (ps := [.pt ir 0 0, .lit (.int .i64 1), .lit (.string ⟨#[]⟩), .lit (.int .i64 (c.place 0 : Nat)), .vec .any (X.map encU)]) (R := fun r x => r = encU (fileN c L e) ∧ ∃ k', x = rdRow c (e : Nat) k') hr rfl rfl (fun s2 hs2 => ?_) ?_
      · rw [← hXL, hee]
        refine (node_c hCok (show at_ ≤ C.v.length by rw [hCv]; omega) 1 ⟨#[]⟩ (c.place 0) .any X (X.map encU) (by simp) (by simp) s2 ir k (he.sub hs2) (by rw [hCr]; exact hs2 _ _ hr)).mono ?_
        rintro r s' ⟨k', rfl, rfl⟩
        refine ⟨_, _, rfl, rfl, ?_, k', by rw [hCr]⟩
        rw [hC]; rfl
      rintro _ x ⟨rfl, k', rfl⟩
      have hsz : (fileN c L e).size ≤ 100000000 := by
        rw [Nd.size_eq]
        show 1 + (L.map Nd.size).sum ≤ _
        rw [← hXL]; omega
      refine sc_pure (ps := [encU (fileN c L e)]) (v := .lit (.int .i64 ((fileN c L e).size : Nat))) (fun s2 _ => size_c _ hsz s2) rfl rfl ?_
      have hsf : s.sub (b2.upd ir (some (rdRow c (e : Nat) k'))) := fun z y hz => by rw [St.upd_ne _ _ (fun e => by subst e; rw [hsi] at hz; cases hz)]; exact hs z y hz
      rintro (_ | _) h9
      · have h9 := of_decide_eq_false h9
        exact Gh.sub hsf (Gh.ret ⟨rfl, hres _ ⟨L, e, hL, .inr ⟨by omega, rfl⟩⟩⟩)
      · have h9 := of_decide_eq_true h9
        exact Gh.sub hsf (Gh.ret ⟨rfl, hres _ ⟨L, e, hL, .inl ⟨by omega, rfl⟩⟩⟩)
    · have hlt : at_ < C.v.length := by have := of_decide_eq_true ht; rw [List.length_map] at this; rw [hCv]; omega
      obtain ⟨x, j, rest', hi, hre, hp'⟩ := parseF_step hCok hlt hp
      have hz := item_sz (n := n) hCok hlt 6 x j hi
      rw [hCv] at hz
      obtain ⟨T', hT'⟩ := after_ty C x
      refine sc_item hCok hn9 hlt hi he (by rw [hCr]; exact hr) rfl (fun k' b' g1 g2 g3 => ?_)
      refine ⟨[encC x], rfl, (by rw [List.length_map]; show (2 * (_ + 1) + 1000) * 72 ≤ _; omega), ?_⟩
      refine ⟨c.v.length - j, by omega, [0, 2], [4, 6, 8, 9], rfl, T', j, k', X ++ [x], rest', by omega, ?_, by rw [← hCr]; exact g2, ?_, ?_, by rw [List.append_assoc, ← hXL, hre]; rfl, by simp; omega, by rw [List.map_append, List.sum_append]; simp; omega, .inr ⟨by simp, rfl, ?_⟩⟩
      · rw [hT'] at g1; rw [hC] at g1; exact g1
      · intro z y hzy
        refine g3 z y (fun e => by subst e; rw [hsi] at hzy; cases hzy) (fun e => ?_) (hs z y hzy)
        rw [hCi, hcit] at e
        subst e
        rw [h1] at hzy; cases hzy
      · rw [hT'] at hp'; rw [hCv] at hp'; rw [hC] at hp'; exact hp'
      · unfold ownL; rw [List.map_append]; rfl
end Go.Pv

/- Conditionals, where no line is a directive. -/
namespace Go.Pv
open Go.Proofs
set_option linter.unusedVariables false
set_option linter.unusedSimpArgs false
set_option maxRecDepth 100000
set_option maxHeartbeats 1000000
theorem ckind0_c (x : Tk) (hx : x.kind ≠ 7) (s : St) : PCalls Tryz.prog 116 [encT x] s (fun r s' => s' = s ∧ r = .ret (.lit (.string ⟨#[]⟩))) := by
  refine PCalls.fun (D := []) ti_ok Tryz.func116 rfl (by kernel_rfl) ?_
  rintro (_ | _) h1
  · exact ⟨rfl, rfl⟩
  · exact absurd (of_decide_eq_true h1) hx
theorem copens0_c (s : St) : PCalls Tryz.prog 117 [.lit (.string ⟨#[]⟩)] s (fun r s' => s' = s ∧ r = .ret (.lit (.bool false))) := by
  refine PCalls.fun (D := []) ti_ok Tryz.func117 rfl (by kernel_rfl) ?_
  rintro (_ | _) h1
  rotate_left
  · exact absurd h1 (by decide)
  rintro (_ | _) h2
  rotate_left
  · exact absurd h2 (by decide)
  rintro (_ | _) h3
  rotate_left
  · exact absurd h3 (by decide)
  exact ⟨rfl, rfl⟩
theorem step0_c (f i : Nat) (at_ : Int) (s : St) : PCalls Tryz.prog 118 [.pt f 0 0, .lit (.string ⟨#[]⟩), .lit (.int .i64 at_)] s (fun r s' => s' = s ∧ r = .ret (.lit (.bool true))) := by
  refine PCalls.fun (D := [(8, ([0, 1, 2, 4, 5, 6, 3, 7, 8, 9, 10, 11, 12], [], []))]) ti_ok Tryz.func118 rfl (by kernel_rfl) ?_
  refine sc_pure (ps := [.lit (.string ⟨#[]⟩)]) (v := .lit (.bool false)) (fun s _ => copens0_c s) rfl rfl ?_
  rintro (_ | _) h1
  rotate_left
  · exact absurd h1 (by decide)
  rintro (_ | _) h2
  rotate_left
  · exact absurd h2 (by decide)
  rintro (_ | _) h3
  rotate_left
  · exact absurd h3 (by decide)
  exact ⟨rfl, rfl⟩
end Go.Pv

/- Conditionals, where no line is a directive: Groups. -/
namespace Go.Pv
open Go.Proofs
set_option linter.unusedVariables false
set_option linter.unusedSimpArgs false
set_option maxRecDepth 100000
set_option maxHeartbeats 1000000
theorem qopI {P : Program} {T : TI} (hT : TIok P T) {t el n : Nat} {ag : Bool} (h1 : lk T.slc t = some el) (h2 : lk T.size el = some (n, ag)) {E : Env} {x i : Operand} {b off len : Nat} {k : IntKind} {m : Int} (hx : E.ev x = .sl b n off len) (hi : E.ev i = .lit (.int k m)) (h0 : 0 ≤ m) (hl : m.toNat < len) :
    qop P E St.empty (.indexAddr t x i) = some (.pt b (off + m.toNat) 0) := by
  simp only [qop, idxAddr, hi, hx, if_pos h0, hT.sl h1, (hT.sz h2).1, Option.bind_some]
  simp [hl]
theorem cellsR {b : St} {i j f n ty sz : Nat} {els : List (List PV)} {cs : List PV} (h : b i = some (.row ty sz els)) (hj : els[j]? = some cs) (hf : f + n ≤ cs.length) : cellsAt b (.pt i j f) n = some ((cs.drop f).take n) := by
  simp only [cellsAt, h, hj]
  rw [if_pos hf]
@[reducible] def eStr : List PV := [.lit (.string ⟨#[]⟩)]
@[reducible] def g1env (kk : VK) (l : List Tk) (q : Nat) (i : Int) : SE := [(0, .av (.pv (toks kk l))), (5, .av (.pv (.sl q 1 0 ((l.map encT).length : Int).toNat))), (6, .av (.pv (.lit (.int .i64 0)))), (15, .av (.pv (toks kk l))), (16, .av (.pv (.lit (.int .i64 ((l.map encT).length : Nat))))), (17, .av (.pv (.lit (.int .i64 i))))]
@[reducible] def g2env (l : List Tk) (q : Nat) (i : Int) : SE := [(9, .av (.cell 0 0)), (39, .av (.pv (.sl q 1 0 ((l.map encT).length : Int).toNat))), (40, .av (.pv (.lit (.int .i64 (((l.map encT).length : Int).toNat : Nat))))), (41, .av (.pv (.lit (.int .i64 i))))]
theorem groups0_c (kk : VK) (l : List Tk) (hl : l.length ≤ 1000000) (hk : ∀ t ∈ l, t.kind ≠ 7) (s : St) : PCalls Tryz.prog 67 [toks kk l] s (fun r s' => s' = s ∧ r = .ret (.tup [.vec .nil [], .lit (.int .i64 0), .lit (.int .i64 0)])) := by
  refine PCalls.funG (D := [(20, ([0, 1, 2, 4, 5, 6, 16, 17, 3, 7, 8, 9, 10, 11, 12, 13, 14, 15, 18], [], []))]) ti_ok Tryz.func67 rfl (by kernel_rfl) ?_
  have hlen : ((l.map encT).length : Int).toNat = l.length := by simp
  have hrow : ∀ i, i < l.length → (List.replicate ((l.map encT).length : Int).toNat eStr)[i]? = some eStr := fun i hi => by rw [hlen, List.getElem?_replicate, if_pos hi]
  refine ⟨rfl, by omega, by rw [List.length_map]; omega, by rw [List.length_map]; show (_ : Int) * 16 ≤ _; omega, fun q hq => ?_⟩
  have hbq : (s.upd q (some (.row 9 1 (List.replicate ((l.map encT).length : Int).toNat eStr)))) q = some (.row 9 1 (List.replicate ((l.map encT).length : Int).toNat eStr)) := St.upd_same _ _ _
  have hset : ∀ i, (List.replicate ((l.map encT).length : Int).toNat eStr).set i (spl eStr 0 eStr) = List.replicate ((l.map encT).length : Int).toNat eStr := fun i => by
    show (List.replicate _ eStr).set i eStr = _
    apply List.ext_getElem?
    intro j
    rw [List.getElem?_set]
    split
    · rename_i h
      subst h
      split
      · rename_i h2; rw [List.length_replicate] at h2; rw [List.getElem?_replicate, if_pos h2]
      · rename_i h2; rw [List.length_replicate] at h2; rw [List.getElem?_replicate, if_neg h2]
    · rfl
  obtain ⟨B, hB⟩ : ∃ B, s.upd q (some (.row 9 1 (List.replicate ((l.map encT).length : Int).toNat eStr))) = B := ⟨_, rfl⟩
  have hBs : B.upd q (some (.row 9 1 (List.replicate ((l.map encT).length : Int).toNat eStr))) = B := by rw [← hB]; exact St.upd_upd ..
  have hsub : s.sub B := by rw [← hB]; exact sub_refl.upd_of hq
  rw [hB] at hbq
  refine sw_loop (D := []) ti_ok (by kernel_rfl) (fun n env st b => ∃ i : Nat, i + n = l.length ∧ b = B ∧ env = g1env kk l q (i : Nat) ∧ st = []) l.length ⟨[], [0, 5, 6, 15, 16, 17], rfl, 0, by omega, hB, rfl, rfl⟩ ?_
  rintro n env st b ⟨i, hi, hb, rfl, rfl⟩
  subst hb
  rintro (_ | _) ht
  rotate_left
  · rw [List.length_map] at ht
    have hlt : i < l.length := by have := of_decide_eq_true ht; omega
    have hg := List.getElem?_eq_getElem hlt
    obtain ⟨x, hx⟩ : ∃ x, l[i] = x := ⟨_, rfl⟩
    rw [hx] at hg
    have hxk := hk x (List.mem_of_getElem? hg)
    have gi0 : (List.replicate ((l.map encT).length : Int).toNat eStr)[0 + ((i : Nat) : Int).toNat]? = some eStr := by rw [Nat.zero_add, Int.toNat_natCast]; exact hrow i hlt
    refine ⟨encT x, ⟨by omega, by rw [Int.toNat_natCast, List.getElem?_map, hg]; rfl, rfl⟩, ?_⟩
    refine sc_pure (ps := [encT x]) (v := .lit (.string ⟨#[]⟩)) (fun s _ => ckind0_c x hxk s) rfl rfl ?_
    refine ⟨_, qopI ti_ok rfl rfl rfl rfl (by omega) (by rw [hlen]; omega), ?_⟩
    refine ⟨[.lit (.string ⟨#[]⟩)], _, 1, _, eStr, rfl, hbq, gi0, by simp, ?_⟩
    refine ⟨_, qopI ti_ok rfl rfl rfl rfl (by omega) (by rw [hlen]; omega), ?_⟩
    refine ⟨eStr, .lit (.string ⟨#[]⟩), ?_, rfl, ?_⟩
    · rw [hset, hBs]; exact cellsR (cs := eStr) hbq gi0 (by simp)
    refine sc_pure (ps := [.lit (.string ⟨#[]⟩)]) (v := .lit (.bool false)) (fun s _ => copens0_c s) rfl rfl ?_
    refine ⟨n - 1, by omega, [], [0, 5, 6, 15, 16, 17], rfl, i + 1, by omega, ?_, (show g1env kk l q (IntKind.i64.wrap ((i : Int) + 1)) = g1env kk l q ((i + 1 : Nat) : Int) by rw [incN (by omega)]), rfl⟩
    rw [hset, hBs]
  rintro (_ | _) h200
  rotate_left
  · exact absurd h200 (by decide)
  refine sw_loop (D := []) ti_ok (by kernel_rfl) (fun n env st b2 => ∃ i : Nat, i + n = l.length ∧ b2 = b ∧ env = g2env l q (i : Nat) ∧ st = [some (.cel 180 2 [.pv (.vec .nil []), .pv (.lit (.pointer none))])]) l.length ⟨[0], [9, 39, 40, 41], rfl, 0, by omega, rfl, rfl, rfl⟩ ?_
  rintro n2 env st b2 ⟨j, hj, hb2, rfl, rfl⟩
  subst b2
  rintro (_ | _) ht2
  rotate_left
  · have hlt : j < l.length := by have := of_decide_eq_true ht2; rw [hlen] at this; omega
    have gj0 : (List.replicate ((l.map encT).length : Int).toNat eStr)[0 + ((j : Nat) : Int).toNat]? = some eStr := by rw [Nat.zero_add, Int.toNat_natCast]; exact hrow j hlt
    refine ⟨_, qopI ti_ok rfl rfl rfl rfl (by omega) (by rw [hlen]; omega), ?_⟩
    refine ⟨eStr, .lit (.string ⟨#[]⟩), cellsR (cs := eStr) hbq gj0 (by simp), rfl, ?_⟩
    refine sc_obj (j := 0) (cs := [.vec .nil [], .lit (.pointer none)]) (xs := [.lit (.string ⟨#[]⟩), .lit (.int .i64 (j : Nat))]) (R := fun r cs => r = .ret (.lit (.bool true)) ∧ cs = [.vec .nil [], .lit (.pointer none)]) rfl rfl rfl (fun s2 f _ hf => (step0_c f 0 _ s2).mono ?_) ?_
    · rintro r s' ⟨rfl, rfl⟩; exact ⟨_, (St.upd_self hf).symm, rfl, rfl⟩
    rintro r cs ⟨rfl, rfl⟩
    exact ⟨n2 - 1, by omega, [0], [9, 39, 40, 41], rfl, j + 1, by omega, rfl, (show g2env l q (IntKind.i64.wrap ((j : Int) + 1)) = g2env l q ((j + 1 : Nat) : Int) by rw [incN (by omega)]), rfl⟩
  refine Gh.sub hsub (Gh.ret ?_)
  exact ⟨rfl, rfl⟩
end Go.Pv

/- Conditionals, where no line is a directive: slices of nothing. -/
namespace Go.Pv
open Go.Proofs
set_option linter.unusedVariables false
set_option linter.unusedSimpArgs false
set_option maxRecDepth 100000
set_option maxHeartbeats 1000000
theorem clone0_c (s : St) : PCalls Tryz.prog 130 [.vec .nil []] s (fun r s' => s' = s ∧ r = .ret (.vec .nil [])) := by
  refine PCalls.of Tryz.func130 rfl (by rfl) (by simp [Tryz.ntmps130]) ?_
  refine pwC_sound _ _ _ _ ?_
  simp [Tryz.ntmps130]
theorem indexF0_c (f : FuncId) (a c : List PV) (s : St) : PCalls Tryz.prog 131 [.vec .nil [], .fn f a c] s (fun r s' => s' = s ∧ r = .ret (.lit (.int .i64 (-1)))) := by
  refine PCalls.of Tryz.func131 rfl (by rfl) (by simp [Tryz.ntmps131]) ?_
  refine pwC_sound _ _ _ _ ?_
  simp [Tryz.ntmps131]
  refine PW.loop (fun n e s' => e 7 = .lit (.int .i64 0) ∧ e 8 = .lit (.int .i64 0) ∧ s' = s) 0 ⟨by simp, by simp, rfl⟩ ?_
  rintro n e s' ⟨e7, e8, rfl⟩
  refine pwC_sound _ _ _ _ ?_
  simp [e7, e8]
theorem hitF0_c (f : FuncId) (a c : List PV) (s : St) : PCalls Tryz.prog 75 [.vec .nil [], .fn f a c] s (fun r s' => s' = s ∧ r = .ret (.lit (.bool false))) := by
  refine PCalls.of Tryz.func75 rfl (by rfl) (by simp [Tryz.ntmps75]) ?_
  refine pwC_sound _ _ _ _ ?_
  simp [Tryz.ntmps75]
  refine (indexF0_c f a c _).mono ?_
  rintro _ s1 ⟨hs1, rfl⟩
  rw [hs1]
  simp
end Go.Pv

/- Conditionals, where no line is a directive: places. -/
namespace Go.Pv
open Go.Proofs
set_option linter.unusedVariables false
set_option linter.unusedSimpArgs false
set_option maxRecDepth 100000
set_option maxHeartbeats 1000000
@[reducible] def eNil : List PV := [.vec .nil []]
theorem set_rep {a : List PV} {n : Nat} : ∀ i, (List.replicate n a).set i a = List.replicate n a := fun i => by
  apply List.ext_getElem?
  intro j
  rw [List.getElem?_set]
  split
  · rename_i h
    subst h
    split
    · rename_i h2; rw [List.length_replicate] at h2; rw [List.getElem?_replicate, if_pos h2]
    · rename_i h2; rw [List.length_replicate] at h2; rw [List.getElem?_replicate, if_neg h2]
  · rfl
theorem Gh.fzHead {imp : List Nat} {K : SE → SS → St → Prop} {rest : SE} {st : SS} {b : St} {t i ty sz n : Nat} {els : List (List PV)} {xs : List PV} (hi : b i = some (.row ty sz els)) (hx : xs.map PV.cells = els) (hn : els.length = n) (hr : (rest.map fun p => (p.1, fzO i sz els.length xs p.2)) = rest) (h : Gh imp K ((t, .av (.pv (.vec .any xs))) :: rest) st (b.upd i none)) : Gh imp K ((t, .av (.pv (.sl i sz 0 n))) :: rest) st b := by
  subst hn
  refine Gh.fzOut hi hx ?_
  rw [List.map_cons, hr]
  have e : ∀ a : Nat, Nat.beq a a = true := fun a => Nat.beq_refl a
  simpa [fzO, e] using h
@[reducible] def p1env (kk : VK) (l : List Tk) (m1 m2 m3 q : Nat) (i : Int) : SE := [(5, .av (.pv (.vec .nil []))), (8, .av (.pv (.mp m1))), (9, .av (.pv (.mp m2))), (10, .av (.pv (.mp m3))), (15, .av (.pv (.sl q 1 0 ((l.map encT).length : Int).toNat))), (16, .av (.pv (.vec .nil []))), (71, .av (.pv (.lit (.int .i64 ((l.map encT).length : Nat))))), (72, .av (.pv (.lit (.int .i64 i))))]
theorem places0_c (kk : VK) (l : List Tk) (hl : l.length ≤ 1000000) (hk : ∀ t ∈ l, t.kind ≠ 7) (s : St) : PCalls Tryz.prog 74 [toks kk l] s (fun r s' => s' = s ∧ r = .ret (.tup [.vec .any (List.replicate l.length (.vec .nil [])), .vec .nil [], .lit (.int .i64 0)])) := by
  refine PCalls.funG (D := [(32, ([0, 1, 2, 3, 4, 7, 5, 6, 8, 9], [], []))]) ti_ok Tryz.func74 rfl (by kernel_rfl) ?_
  have hlen : ((l.map encT).length : Int).toNat = l.length := by simp
  refine sc_pure (ps := [toks kk l]) (v := PV.tup [.vec .nil [], .lit (.int .i64 0), .lit (.int .i64 0)]) (fun s _ => groups0_c kk l hl hk s) rfl rfl ?_
  rintro (_ | _) h0
  · exact absurd h0 (by decide)
  intro m1 h1 m2 h2 m3 h3
  refine sw_loop (D := []) ti_ok (by kernel_rfl) (fun n env st b => b = ((s.upd m1 (some (.idict .i64 []))).upd m2 (some (.idict .i64 []))).upd m3 (some (.idict .i64 [])) ∧ st = [] ∧ env = [(0, .av (.pv (toks kk l))), (5, .av (.pv (.vec .nil []))), (8, .av (.pv (.mp m1))), (9, .av (.pv (.mp m2))), (10, .av (.pv (.mp m3))), (34, .av (.pv (.lit (.int .i64 0)))), (35, .av (.pv (.lit (.int .i64 0))))]) 0 ⟨[], [0, 5, 8, 9, 10, 34, 35], rfl, rfl, rfl, rfl⟩ ?_
  rintro n env st b ⟨hb, rfl, rfl⟩
  rintro (_ | _) ht
  rotate_left
  · exact absurd ht (by decide)
  have f1 : s m1 = none := h1
  have f2 : (s.upd m1 (some (.idict .i64 []))) m2 = none := h2
  have f3 : ((s.upd m1 (some (.idict .i64 []))).upd m2 (some (.idict .i64 []))) m3 = none := h3
  have n21 : m2 ≠ m1 := fun e => by subst e; rw [St.upd_same] at f2; cases f2
  have n32 : m3 ≠ m2 := fun e => by subst e; rw [St.upd_same] at f3; cases f3
  rw [St.upd_ne _ _ n32] at f3
  have n31 : m3 ≠ m1 := fun e => by subst e; rw [St.upd_same] at f3; cases f3
  rw [St.upd_ne _ _ n31] at f3
  rw [St.upd_ne _ _ n21] at f2
  have k1 : b m1 = some (.idict .i64 []) := by rw [hb, St.upd_ne _ _ (Ne.symm n31), St.upd_ne _ _ (Ne.symm n21), St.upd_same]
  have k2 : b m2 = some (.idict .i64 []) := by rw [hb, St.upd_ne _ _ (Ne.symm n32), St.upd_same]
  have k3 : b m3 = some (.idict .i64 []) := by rw [hb, St.upd_same]
  have hsub : s.sub b := by rw [hb]; exact ((sub_refl.upd_of f1).upd_of f2).upd_of f3
  clear hb
  refine ⟨rfl, by omega, by rw [List.length_map]; omega, by rw [List.length_map]; show (_ : Int) * 24 ≤ _; omega, fun q hq => ?_⟩
  obtain ⟨B, hB⟩ : ∃ B, b.upd q (some (.row 136 1 (List.replicate ((l.map encT).length : Int).toNat eNil))) = B := ⟨_, rfl⟩
  have hbq : B q = some (.row 136 1 (List.replicate ((l.map encT).length : Int).toNat eNil)) := by rw [← hB]; exact St.upd_same _ _ _
  have hBs : B.upd q (some (.row 136 1 (List.replicate ((l.map encT).length : Int).toNat eNil))) = B := by rw [← hB]; exact St.upd_upd ..
  have kk' : ∀ k x, b k = some x → B k = some x := fun k x hx => by rw [← hB, St.upd_ne _ _ (fun e => by subst e; rw [hq] at hx; cases hx)]; exact hx
  replace k1 := kk' _ _ k1
  replace k2 := kk' _ _ k2
  replace k3 := kk' _ _ k3
  have hsB : s.sub B := fun k x hx => kk' k x (hsub k x hx)
  have hsq : s q = none := by
    cases h : s q with
    | none => rfl
    | some x => rw [hsub q x h] at hq; cases hq
  refine sw_loop (D := []) ti_ok (by kernel_rfl) (fun n env st b2 => ∃ i : Nat, i + n = l.length ∧ b2 = B ∧ env = p1env kk l m1 m2 m3 q (i : Nat) ∧ st = []) l.length ⟨[], [5, 8, 9, 10, 15, 16, 71, 72], rfl, 0, by omega, hB, rfl, rfl⟩ ?_
  rintro n2 env st b2 ⟨i, hi, hb2, rfl, rfl⟩
  subst b2
  rintro (_ | _) ht2
  · refine Gh.view (imp := []) [] [2, 3, 4] rfl ?_
    refine Gh.fzHead (xs := List.replicate ((l.map encT).length : Int).toNat (.vec .nil [])) hbq (by rw [List.map_replicate]; rfl) (by rw [List.length_replicate]) rfl ?_
    refine Gh.sub (b' := s) (fun k x hx => by rw [St.upd_ne _ _ (fun e => by subst e; rw [hsq] at hx; cases hx)]; exact hsB k x hx) (Gh.ret ?_)
    exact ⟨rfl, by rw [hlen]; rfl⟩
  have hlt : i < l.length := by have := of_decide_eq_true ht2; rw [List.length_map] at this; omega
  have gi0 : (List.replicate ((l.map encT).length : Int).toNat eNil)[0 + ((i : Nat) : Int).toNat]? = some eNil := by simp [hlt]
  refine ⟨[], k1, fun r hr => ?_⟩
  cases hr
  refine ⟨[], k2, fun r hr => ?_⟩
  cases hr
  refine ⟨[], k3, fun r hr => ?_⟩
  cases hr
  refine sc_pure (ps := [.vec .nil []]) (v := .vec .nil []) (fun s _ => clone0_c s) rfl rfl ?_
  refine ⟨_, qopI ti_ok rfl rfl rfl rfl (by omega) (by rw [hlen]; omega), ?_⟩
  refine ⟨[.vec .nil []], _, 1, _, eNil, rfl, hbq, gi0, by simp, ?_⟩
  refine ⟨n2 - 1, by omega, [], [5, 8, 9, 10, 15, 16, 71, 72], rfl, i + 1, by omega, ?_, (show p1env kk l m1 m2 m3 q (IntKind.i64.wrap ((i : Int) + 1)) = p1env kk l m1 m2 m3 q ((i + 1 : Nat) : Int) by rw [incN (by omega)]), rfl⟩
  show B.upd q (some (.row _ 1 ((List.replicate _ eNil).set _ eNil))) = B
  rw [set_rep, hBs]
end Go.Pv

/- Conditionals, where no line is a directive: View. -/
namespace Go.Pv
open Go.Proofs
set_option linter.unusedVariables false
set_option linter.unusedSimpArgs false
set_option maxRecDepth 100000
set_option maxHeartbeats 1000000
/-- All places. -/
def allP (n : Nat) : List Int := List.map (fun i : Nat => (i : Int)) (List.range n)
theorem allP_snoc (n : Nat) : allP (n + 1) = allP n ++ [(n : Int)] := by unfold allP; rw [List.range_succ, List.map_append]; rfl
theorem allP_len (n : Nat) : (allP n).length = n := by simp [allP]
def iRg (l : List Int) : List (List PV) := l.map fun n => [.lit (.int .i64 n)]
/-- A closure is handed over to a function that does not call it. -/
theorem sc_clo {P : Program} {imp : List Nat} {f : FuncId} {args : List SV} {st : SS} {b : St} {K : SV → SS → St → Prop} {Kp : List PanicEntry → SS → St → Prop} {p v : PV} {g : FuncId} {ac cc : List AV} (ha : args = [.av (.pv p), .fnc g ac cc]) (hl : p.live = true) (h : ∀ (a c : List PV) (s : St), PCalls P f [p, .fn g a c] s fun r s' => s' = s ∧ r = .ret v) (hK : K (.av (.pv v)) st b) : SC P imp f args st b K Kp := by
  intro σ s qs hR hA
  subst ha
  obtain ⟨q, qs', rfl, h1, h2⟩ := hA.cons_inv
  obtain ⟨q2, qs2, rfl, h3, h4⟩ := h2.cons_inv
  rw [h4.nil_inv, pvS h1 hl]
  obtain ⟨a', c', rfl, _, _⟩ := h3
  refine (h a' c' s).mono ?_
  rintro _ s' ⟨rfl, rfl⟩
  exact liftV0 hR (v := .av (.pv v)) (Or.inr rfl) hK
@[reducible] def vwenv (kk : VK) (l : List Tk) (o : SV) (i : Int) : SE := [(3, .av (.cell 0 0)), (6, .av (.pv (.vec .any (List.replicate l.length (.vec .nil []))))), (11, o), (51, .av (.pv (toks kk l))), (52, .av (.pv (.lit (.int .i64 ((l.map encT).length : Nat))))), (53, .av (.pv (.lit (.int .i64 i))))]
theorem view0_c (kk kc : VK) (l : List Tk) (hl : l.length ≤ 1000000) (hk : ∀ t ∈ l, t.kind ≠ 7) (s : St) : PCalls Tryz.prog 41 [toks kk l, .vec kc []] s (fun r s' => s' = s ∧ ∃ k0 : VK, r = .ret (.tup [ints k0 (allP l.length), .lit (.int .i64 0)])) := by
  refine PCalls.funF 1 (D := [(9, ([1, 0, 2, 3, 4, 5, 7, 10, 6, 8, 9, 11, 12, 13], [], []))]) ti_ok Tryz.func41 rfl (by kernel_rfl) ?_
  refine sc_pure (ps := [toks kk l]) (v := PV.tup [.vec .any (List.replicate l.length (.vec .nil [])), .vec .nil [], .lit (.int .i64 0)]) (fun s _ => places0_c kk l hl hk s) rfl rfl ?_
  rintro (_ | _) h0
  · exact absurd h0 (by decide)
  rintro (_ | _) h1
  · exact absurd h1 (by decide)
  refine sw_loop (D := [(9, ([1, 0, 2, 3, 4, 5, 7, 10, 6, 8, 9, 11, 12, 13], [], []))]) ti_ok (by kernel_rfl) (fun n env st b => b = s ∧ st = [some (.cel 23 1 [.pv (.vec kc [])])] ∧ env = [(0, .av (.pv (toks kk l))), (3, .av (.cell 0 0)), (6, .av (.pv (.vec .any (List.replicate l.length (.vec .nil []))))), (30, .av (.pv (.lit (.int .i64 0)))), (31, .av (.pv (.lit (.int .i64 0))))]) 0 ⟨[0], [0, 3, 6, 30, 31], rfl, rfl, rfl, rfl⟩ ?_
  rintro n env st b ⟨hb, rfl, rfl⟩
  subst b
  rintro (_ | _) ht
  rotate_left
  · exact absurd ht (by decide)
  refine sw_loop (D := []) ti_ok (by kernel_rfl) (fun n env st b => ∃ i : Nat, i + n = l.length ∧ b = s ∧ ((i = 0 ∧ env = vwenv kk l (.av (.pv (.vec .nil []))) (i : Nat) ∧ st = [some (.cel 23 1 [.pv (.vec kc [])])]) ∨ (0 < i ∧ env = vwenv kk l (.av (.own 1)) (i : Nat) ∧ st = [some (.cel 23 1 [.pv (.vec kc [])]), some (.lst 3 1 (iRg (allP i)))]))) l.length ⟨[0], [3, 6, 11, 51, 52, 53], rfl, 0, by omega, rfl, .inl ⟨rfl, rfl, rfl⟩⟩ ?_
  rintro n2 env st b ⟨i, hi, hb, hor⟩
  subst b
  rcases hor with ⟨hi0, rfl, rfl⟩ | ⟨hi0, rfl, rfl⟩
  · rintro (_ | _) ht2
    · have : l.length = 0 := by have := of_decide_eq_false ht2; rw [List.length_map] at this; omega
      exact .inl ⟨rfl, .nil, by rw [this]; rfl⟩
    have hlt : i < l.length := by have := of_decide_eq_true ht2; rw [List.length_map] at this; omega
    have hg := List.getElem?_eq_getElem hlt
    obtain ⟨x, hx⟩ : ∃ x, l[i] = x := ⟨_, rfl⟩
    rw [hx] at hg
    have hxk := hk x (List.mem_of_getElem? hg)
    refine ⟨encT x, ⟨by omega, by rw [Int.toNat_natCast, List.getElem?_map, hg]; rfl, rfl⟩, ?_⟩
    refine ⟨.vec .nil [], ⟨by omega, by rw [Int.toNat_natCast, List.getElem?_replicate, if_pos hlt], rfl⟩, ?_⟩
    refine sc_clo rfl rfl (fun a c s => hitF0_c _ a c s) ?_
    have nx : ∀ o : SV, vwenv kk l o (IntKind.i64.wrap ((i : Int) + 1)) = vwenv kk l o ((i + 1 : Nat) : Int) := fun o => by rw [incN (by omega)]
    have rw1 : iRg (allP (i + 1)) = iRg (allP i) ++ [[.lit (.int .i64 (i : Nat))]] := by rw [allP_snoc]; simp [iRg]
    rintro (_ | _) c1
    · rintro (_ | _) c2
      rotate_left
      · exact absurd (of_decide_eq_true c2) hxk
      refine ⟨[[.lit (.int .i64 (i : Nat))]], rfl, (by simp), ?_⟩
      exact ⟨n2 - 1, by omega, [0, 2], [3, 6, 11, 51, 52, 53], rfl, i + 1, by omega, rfl, .inr ⟨by omega, nx _, by rw [rw1]; subst hi0; rfl⟩⟩
    · refine ⟨[[.lit (.int .i64 (i : Nat))]], rfl, (by simp), ?_⟩
      exact ⟨n2 - 1, by omega, [0, 2], [3, 6, 11, 51, 52, 53], rfl, i + 1, by omega, rfl, .inr ⟨by omega, nx _, by rw [rw1]; subst hi0; rfl⟩⟩
  · rintro (_ | _) ht2
    · have hil : i = l.length := by have := of_decide_eq_false ht2; rw [List.length_map] at this; omega
      subst hil
      exact .inr ⟨1, (allP l.length).map fun n => .lit (.int .i64 n), _, _, _, rfl, by rw [List.map_map]; rfl, rfl, .any, rfl⟩
    have hlt : i < l.length := by have := of_decide_eq_true ht2; rw [List.length_map] at this; omega
    have hg := List.getElem?_eq_getElem hlt
    obtain ⟨x, hx⟩ : ∃ x, l[i] = x := ⟨_, rfl⟩
    rw [hx] at hg
    have hxk := hk x (List.mem_of_getElem? hg)
    refine ⟨encT x, ⟨by omega, by rw [Int.toNat_natCast, List.getElem?_map, hg]; rfl, rfl⟩, ?_⟩
    refine ⟨.vec .nil [], ⟨by omega, by rw [Int.toNat_natCast, List.getElem?_replicate, if_pos hlt], rfl⟩, ?_⟩
    refine sc_clo rfl rfl (fun a c s => hitF0_c _ a c s) ?_
    have nx : ∀ o : SV, vwenv kk l o (IntKind.i64.wrap ((i : Int) + 1)) = vwenv kk l o ((i + 1 : Nat) : Int) := fun o => by rw [incN (by omega)]
    have rw1 : iRg (allP (i + 1)) = iRg (allP i) ++ [[.lit (.int .i64 (i : Nat))]] := by rw [allP_snoc]; simp [iRg]
    rintro (_ | _) c1
    · rintro (_ | _) c2
      rotate_left
      · exact absurd (of_decide_eq_true c2) hxk
      refine ⟨[[.lit (.int .i64 (i : Nat))]], rfl, (by simp [iRg, allP]; omega), ?_⟩
      exact ⟨n2 - 1, by omega, [0, 3], [3, 6, 11, 51, 52, 53], rfl, i + 1, by omega, rfl, .inr ⟨by omega, nx _, by rw [rw1]; rfl⟩⟩
    · refine ⟨[[.lit (.int .i64 (i : Nat))]], rfl, (by simp [iRg, allP]; omega), ?_⟩
      exact ⟨n2 - 1, by omega, [0, 3], [3, 6, 11, 51, 52, 53], rfl, i + 1, by omega, rfl, .inr ⟨by omega, nx _, by rw [rw1]; rfl⟩⟩
end Go.Pv

/- Conditionals, where no line is a directive: First. -/
namespace Go.Pv
open Go.Proofs
set_option linter.unusedVariables false
set_option linter.unusedSimpArgs false
set_option maxRecDepth 100000
set_option maxHeartbeats 1000000
/-- A slice that is a block of the outer state is handed over as a list. -/
theorem sc_fzA {P : Program} {imp : List Nat} {f : FuncId} {args : List SV} {st : SS} {b : St} {K : SV → SS → St → Prop} {Kp : List PanicEntry → SS → St → Prop} {n i ty sz : Nat} {els : List (List PV)} (xs : List PV) (ha : args[n]? = some (.av (.pv (.sl i sz 0 els.length)))) (hb : b i = some (.row ty sz els)) (hx : xs.map PV.cells = els)
    (h : SC P imp f (args.set n (.av (.pv (.vec .any xs)))) st (b.upd i none) K Kp) : SC P imp f args st b K Kp := by
  intro σ s ps hR hA
  obtain ⟨q, hq, h1⟩ := hA.get ha
  have hp : q = .sl i sz 0 els.length := pvS h1 rfl
  have d := hR.outDrop (i := i) (by rw [hb]; simp)
  exact PCalls.args (Conv.ownAt (hR.sub i _ hb) hx ps n (by rw [hq, hp])) (h σ _ _ d (All2.setR (R := SVR σ st) (a := .av (.pv (.vec .any xs))) (b := .vec .any xs) (Or.inr rfl) hA n))
theorem first0_c (kk : VK) (l : List Tk) (hl : l.length ≤ 1000000) (hk : ∀ t ∈ l, t.kind ≠ 7) (s : St) : PCalls Tryz.prog 35 [toks kk l] s (fun r s' => s' = s ∧ ∃ k0 : VK, r = .ret (.tup [ints k0 (allP l.length), .lit (.int .i64 0)])) := by
  refine PCalls.fun (D := []) ti_ok Tryz.func35 rfl (by kernel_rfl) ?_
  refine sc_pure (ps := [toks kk l]) (v := PV.tup [.vec .nil [], .lit (.int .i64 0), .lit (.int .i64 0)]) (fun s _ => groups0_c kk l hl hk s) rfl rfl ?_
  rintro (_ | _) h0
  · exact absurd h0 (by decide)
  refine ⟨rfl, by simp, by simp, by simp, fun q hq => ?_⟩
  refine sc_fzA (n := 1) (els := []) [] rfl (St.upd_same _ _ _) rfl ?_
  refine sc_pureR (ps := [toks kk l, .vec .any []]) (R := fun v => ∃ k0 : VK, v = .tup [ints k0 (allP l.length), .lit (.int .i64 0)]) (fun s _ => (view0_c kk .any l hl hk s).mono ?_) rfl rfl ?_
  · rintro r s' ⟨rfl, k0, rfl⟩; exact ⟨rfl, _, ⟨k0, rfl⟩, rfl⟩
  rintro _ ⟨k0, rfl⟩
  exact ⟨by rw [St.upd_upd]; exact St.upd_none hq, k0, rfl⟩
end Go.Pv

/- File, where no line is a directive. -/
namespace Go.Pv
open Go.Proofs
set_option linter.unusedVariables false
set_option linter.unusedSimpArgs false
set_option maxRecDepth 100000
set_option maxHeartbeats 1000000
/-- What File answers where the tokens are taken. -/
def FRes (l : List Tk) (n : Nat) (r : Res) : Prop := ∃ k0 it L e, parseF n (seenL l (allP l.length)).length (cxOf .any k0 l (allP l.length) it) 0 = .ok L e ∧
  ((100000 < (fileN (cxOf .any k0 l (allP l.length) it) L e).size ∧ r = .ret (.tup [.vec .nil [], .vec .nil [], zeroN, .lit (.int .i64 2)])) ∨
   (¬ 100000 < (fileN (cxOf .any k0 l (allP l.length) it) L e).size ∧ ∃ k1, r = .ret (.tup [toks .any l, ints k1 (allP l.length), encU (fileN (cxOf .any k0 l (allP l.length) it) L e), .lit (.int .i64 0)])))
theorem file0_c (t : ByteArray) (n : Nat) (hn9 : n ≤ 1000000000) (ht : t.size ≤ 200000) (hL : (allT t).length ≤ 40000) (hk : ∀ x ∈ allT t, x.kind ≠ 7) (hx : ∀ x ∈ allT t, x.text.size ≤ 1000000) (hv : SiteV (allT t) (allP (allT t).length)) (hf : ∀ k0 it, parseF n (seenL (allT t) (allP (allT t).length)).length (cxOf .any k0 (allT t) (allP (allT t).length) it) 0 ≠ .fuel) (s : St) (hs : Vars s) : PCalls Tryz.prog 9 [.lit (.string t)] s (fun r s' => s' = s ∧ FRes (allT t) n r) := by
  refine PCalls.fun (D := [(10, ([0, 1, 3, 4, 2, 5, 6], [], []))]) ti_ok Tryz.func9 rfl (by kernel_rfl) ?_
  have hsc := fun s2 (h : s.sub s2) => pscan_c t (by omega) s2 (hs.sub h)
  simp only [if_neg (show ¬ (200000 < t.size ∨ 40000 < (allT t).length) by omega)] at hsc
  obtain ⟨l, hl⟩ : ∃ l, allT t = l := ⟨_, rfl⟩
  rw [hl] at hsc hL hk hx hv hf ⊢
  refine sc_pure (ps := [.lit (.string t)]) (v := PV.tup [toks .any l, .lit (.int .i64 0)]) hsc rfl rfl ?_
  rintro (_ | _) h0
  · exact absurd h0 (by decide)
  refine sc_pureR (ps := [toks .any l]) (R := fun v => ∃ k1 : VK, v = .tup [ints k1 (allP l.length), .lit (.int .i64 0)]) (fun s _ => (first0_c .any l (by omega) hk s).mono ?_) rfl rfl ?_
  · rintro r s' ⟨rfl, k0, rfl⟩; exact ⟨rfl, _, ⟨k0, rfl⟩, rfl⟩
  rintro _ ⟨k1, rfl⟩
  rintro (_ | _) h1
  · exact absurd h1 (by decide)
  refine sc_pureR (ps := [toks .any l, ints k1 (allP l.length)]) (R := fun v => ∃ k0 it, PRes (cxOf .any k0 l (allP l.length) it) n (.ret v)) (fun s2 _ => (Parse_c .any k1 l (allP l.length) n hn9 hv (by omega) hx (by rw [allP_len]; omega) hf s2).mono ?_) rfl rfl ?_
  · rintro r s' ⟨rfl, k0, it, L, e, h1, h2⟩
    rcases h2 with ⟨h2, rfl⟩ | ⟨h2, rfl⟩
    · exact ⟨rfl, _, ⟨k0, it, L, e, h1, .inl ⟨h2, rfl⟩⟩, rfl⟩
    · exact ⟨rfl, _, ⟨k0, it, L, e, h1, .inr ⟨h2, rfl⟩⟩, rfl⟩
  rintro _ ⟨k0, it, L, e, hp, ⟨h2, h⟩ | ⟨h2, h⟩⟩
  · cases h
    rintro (_ | _) h3
    · exact ⟨rfl, k0, it, L, e, hp, .inl ⟨h2, rfl⟩⟩
    · exact absurd h3 (by decide)
  · cases h
    rintro (_ | _) h3
    · exact absurd h3 (by decide)
    refine ⟨by kernel_rfl, ?_⟩
    exact ⟨rfl, k0, it, L, e, hp, .inr ⟨h2, k1, rfl⟩⟩
end Go.Pv

/- The parser's functions end: with fuel enough they give an answer. -/
namespace Go.Pv
open Go.Proofs
set_option linter.unusedVariables false
set_option linter.unusedSimpArgs false
set_option maxRecDepth 100000
set_option maxHeartbeats 4000000
/-- There is an answer, and it is so. -/
def OT {α : Type} (o : Out α) (R : α → Nat → Prop) : Prop := o ≠ .fuel ∧ OP o R
section
variable {α β : Type}
end
/-- The order in which methods call each other at one place. -/
def rk : NT → Nat
  | .expr => 18
  | .assign => 17
  | .choice => 16
  | .binary k => 15 - k
  | .cast => 4
  | .unary => 3
  | .post => 2
  | .primary => 1
  | .value => 18
  | .initial => 19
  | .dclrs _ => 2
  | .stat => 20
  | .other _ => 19
  | .marked => 21
  | _ => 1
/-- What is read at least. -/
def sI : NT → Nat
  | .sizes => 0
  | .marked => 0
  | _ => 1
def okT : NT → Prop
  | .binary k => k ≤ 10
  | _ => True
def TM (c : Cx) (p : NT → Nat → Out Nd) (M : Nat) : Prop := ∀ Y j, okT Y → j ≤ c.v.length → (c.v.length - j) * 40 + rk Y < M → OT (p Y j) fun _ k => j + sI Y ≤ k ∧ k ≤ c.v.length
section
variable {c : Cx} {p : NT → Nat → Out Nd} {n M : Nat}
/-! ### items -/
end
end Go.Pv

/- The words of a directive, as plain data. -/
namespace Go.Pv
set_option linter.unusedVariables false
set_option linter.unusedSimpArgs false
theorem befF_inn (t : ByteArray) : ∀ (k i : Nat) (c : Bool), i ≤ t.size → i ≤ (befF t k i c).1 ∧ (befF t k i c).1 ≤ t.size
  | 0, i, c, h => ⟨Nat.le_refl _, h⟩
  | k + 1, i, c, h => by
    have hp := pieceEnd_le h
    unfold befF
    split
    · have := befF_inn t k (pieceEnd t i) (clearB t i (pieceEnd t i) c) hp.2
      omega
    · exact ⟨Nat.le_refl _, h⟩
/-- Two texts that differ in their first byte alone. -/
structure Agr (t u : ByteArray) : Prop where
  sz : t.size = u.size
  b : ∀ j, 1 ≤ j → bt t j = bt u j
  e : ∀ i j, 1 ≤ i → t.extract i j = u.extract i j
  z1 : bt t 0 ≠ 92
  z2 : bt u 0 ≠ 92
section
variable {t u : ByteArray} (h : Agr t u)
include h
end
theorem bt_of_beg {t x : ByteArray} {i : Nat} (h : beg t i x = true) (hx : 0 < x.size) : bt t i = bt x 0 := by
  simp [beg] at h
  obtain ⟨h1, h2⟩ := h
  have h3 : x[0]? = t[i]? := by
    rw [getElem?_pos x 0 hx, getElem?_pos t i (by omega)]
    have : (t.extract i (i + x.size))[0]'(by rw [h2]; exact hx) = x[0] := by simp only [h2]
    rw [← this, ByteArray.getElem_extract]
    simp
  unfold bt
  rw [h3]
theorem beg_one {t : ByteArray} {i : Nat} {c : UInt8} (h : i < t.size) (hc : bt t i = c.toNat) : beg t i ⟨#[c]⟩ = true := by
  have hsz : (⟨#[c]⟩ : ByteArray).size = 1 := rfl
  simp only [beg, hsz, Bool.and_eq_true, decide_eq_true_eq]
  refine ⟨by omega, ?_⟩
  apply ByteArray.ext
  rw [ByteArray.data_extract]
  apply Array.ext
  · simp; show min (i + 1) t.size - i = 1; omega
  · intro j h1 h2
    have : j = 0 := by simp at h2; exact h2
    subst this
    simp
    unfold bt at hc
    rw [getElem?_pos t i h] at hc
    have : t[i].toNat = c.toNat := Int.ofNat.inj hc
    exact UInt8.toNat_inj.1 this
/-- A sign of one byte that no other sign begins with. -/
theorem signLen_one {t : ByteArray} {i : Nat} {c : UInt8} (h : i < t.size) (hc : bt t i = c.toNat) (hs : signsL.all (fun s => decide (0 < s.size) && (decide (s = ⟨#[c]⟩) || decide (bt s 0 ≠ c.toNat))) = true) (hm : signsL.any (fun s => decide (s = ⟨#[c]⟩)) = true) : signLen t i signsL = 1 := by
  have key : ∀ (l : List ByteArray) (n : Nat), n ≤ 1 → l.all (fun s => decide (0 < s.size) && (decide (s = ⟨#[c]⟩) || decide (bt s 0 ≠ c.toNat))) = true →
      l.foldl (fun n s => if n < s.size ∧ beg t i s = true then s.size else n) n = if l.any (fun s => decide (s = ⟨#[c]⟩)) = true then 1 else n := by
    intro l
    induction l with
    | nil => intro n hn _; simp
    | cons x l ih =>
      intro n hn ha
      rw [List.all_cons, Bool.and_eq_true] at ha
      obtain ⟨hx, ha⟩ := ha
      rw [List.foldl_cons, List.any_cons]
      by_cases hxc : x = ⟨#[c]⟩
      · subst hxc
        have hsz : (⟨#[c]⟩ : ByteArray).size = 1 := rfl
        have hb := beg_one h hc
        by_cases hn0 : n < 1
        · rw [if_pos ⟨by rw [hsz]; exact hn0, hb⟩, hsz, ih 1 (by omega) ha]; simp
        · have : n = 1 := by omega
          subst this
          rw [if_neg (by rw [hsz]; omega), ih 1 (by omega) ha]; simp
      · have hx2 : 0 < x.size ∧ bt x 0 ≠ c.toNat := by simpa [hxc] using hx
        have hnb : ¬ (n < x.size ∧ beg t i x = true) := by
          rintro ⟨_, hb⟩
          exact hx2.2 ((bt_of_beg hb hx2.1).symm.trans hc)
        rw [if_neg hnb, ih n hn ha, decide_eq_false hxc, Bool.false_or]
  unfold signLen
  rw [key signsL 0 (by omega) hs, if_pos hm]
theorem extract_size {t : ByteArray} {a e : Nat} (h1 : a ≤ e) (h2 : e ≤ t.size) : (t.extract a e).size = e - a := by
  rw [ByteArray.size_extract]; omega
theorem extract_bt {t : ByteArray} {a e j : Nat} (h1 : a + j < e) (h2 : e ≤ t.size) : bt (t.extract a e) j = bt t (a + j) := by
  unfold bt
  have hs := extract_size (t := t) (a := a) (e := e) (by omega) h2
  rw [getElem?_pos _ j (by omega), getElem?_pos _ (a + j) (by omega), ByteArray.getElem_extract]
/-- The signs that have a meaning in a definition. -/
def plainS : List ByteArray := [⟨#[40]⟩, ⟨#[41]⟩, ⟨#[44]⟩, ⟨#[46, 46, 46]⟩]
theorem tok_sign {t : ByteArray} {a : Nat} (c : Bool) (ha : a < t.size) (x : ByteArray) (hx : x ∈ plainS) (h : t.extract a (tokE keysL signsL t a c).2 = x) : (tokE keysL signsL t a c).1 = 6 := by
  have hin := tokE_in keysL signsL c ha
  have hsz := extract_size (t := t) (a := a) (e := (tokE keysL signsL t a c).2) (by omega) hin.2
  have hb0 := extract_bt (t := t) (a := a) (e := (tokE keysL signsL t a c).2) (j := 0) (by omega) hin.2
  rw [h] at hsz hb0
  rw [Nat.add_zero] at hb0
  have hone : ∀ c' : UInt8, bt t a = c'.toNat → c'.toNat = 40 ∨ c'.toNat = 41 ∨ c'.toNat = 44 → signLen t a signsL ≠ 0 → (tokE keysL signsL t a c).1 = 6 := by
    intro c' h1 h2 h3
    have hL : isL (bt t a) = false := by rcases h2 with q | q | q <;> rw [h1, q] <;> decide
    have hD : isD (bt t a) = false := by rcases h2 with q | q | q <;> rw [h1, q] <;> decide
    unfold tokE
    rw [if_neg (by omega), if_neg (by simp [hL]), if_neg (by rw [hD]; simp; omega), if_neg (by omega), if_pos h3]
  simp only [plainS, List.mem_cons, List.not_mem_nil, or_false] at hx
  rcases hx with rfl | rfl | rfl | rfl
  · have hb : bt t a = (40 : UInt8).toNat := hb0.symm.trans (by decide)
    exact hone 40 hb (by decide) (by rw [signLen_one ha hb (by decide +kernel) (by decide +kernel)]; omega)
  · have hb : bt t a = (41 : UInt8).toNat := hb0.symm.trans (by decide)
    exact hone 41 hb (by decide) (by rw [signLen_one ha hb (by decide +kernel) (by decide +kernel)]; omega)
  · have hb : bt t a = (44 : UInt8).toNat := hb0.symm.trans (by decide)
    exact hone 44 hb (by decide) (by rw [signLen_one ha hb (by decide +kernel) (by decide +kernel)]; omega)
  · have hsz3 : (⟨#[46, 46, 46]⟩ : ByteArray).size = 3 := rfl
    have hb : bt t a = 46 := hb0.symm.trans (by decide)
    have hb1 := extract_bt (t := t) (a := a) (e := (tokE keysL signsL t a c).2) (j := 1) (by omega) hin.2
    rw [h] at hb1
    have hb2 : bt t (a + 1) = 46 := hb1.symm.trans (by decide)
    by_cases h3 : signLen t a signsL = 0
    · exfalso
      have : (tokE keysL signsL t a c).2 = a + 1 := by
        unfold tokE
        rw [hb, hb2, if_neg (by omega), if_neg (by decide), if_neg (by decide), if_neg (by omega), if_neg (by omega)]
      omega
    · unfold tokE
      rw [hb, hb2, if_neg (by omega), if_neg (by decide), if_neg (by decide), if_neg (by omega), if_pos h3]
end Go.Pv

/- The words of a directive, as plain data: the list. -/
namespace Go.Pv
set_option linter.unusedVariables false
set_option linter.unusedSimpArgs false
/-- What is known of each token but the last. -/
structure TokOk (x : Tk) : Prop where
  kind : x.kind ≠ 0
  text : x.text ≠ ⟨#[]⟩
  sign : x.text ∈ plainS → x.kind = 6
/-- Places that go up. -/
def Asc : Int → List Tk → Prop
  | _, [] => True
  | i, x :: r => i ≤ x.at_ ∧ Asc (x.at_ + 1) r
theorem Asc.le {i j : Int} {l : List Tk} (h : Asc i l) (hj : j ≤ i) : Asc j l := by
  cases l with
  | nil => trivial
  | cons x r => exact ⟨Int.le_trans hj h.1, h.2⟩
theorem toksF_form (t : ByteArray) : ∀ (k i : Nat) (c : Bool), i ≤ t.size → t.size + 1 - i ≤ k → ∃ (ws : List Tk) (e : Tk), toksF keysL signsL t k i c = ws ++ [e] ∧ e.kind = 0 ∧ ws.length + i ≤ t.size ∧ Asc i ws ∧ ∀ x ∈ ws, TokOk x ∧ (i : Int) ≤ x.at_ ∧ x.at_ < (t.size : Nat)
  | 0, i, c, hi, hk => by omega
  | k + 1, i, c, hi, hk => by
    have hbi : i ≤ (bef t i c).1 ∧ (bef t i c).1 ≤ t.size := befF_inn t _ i c hi
    rw [toksF_succ, restF]
    by_cases he : (bef t i c).1 = t.size
    · rw [if_pos he]
      exact ⟨[], _, rfl, rfl, by simp; exact hi, trivial, by simp⟩
    · rw [if_neg he]
      have hin := tokE_in keysL signsL (bef t i c).2 (t := t) (i := (bef t i c).1) (by omega)
      obtain ⟨ws, e, h1, h2, h3, h5, h4⟩ := toksF_form t k (tokE keysL signsL t (bef t i c).1 (bef t i c).2).2 false hin.2 (by omega)
      refine ⟨_ :: ws, e, by rw [h1]; rfl, h2, by simp; omega, ⟨by show (i : Int) ≤ ((bef t i c).1 : Nat); omega, h5.le (by show (((bef t i c).1 : Nat) : Int) + 1 ≤ _; omega)⟩, fun x hx => ?_⟩
      rcases List.mem_cons.1 hx with rfl | hx
      · refine ⟨⟨?_, ?_, ?_⟩, ?_, ?_⟩
        · intro h
          have h : ((tokE keysL signsL t (bef t i c).1 (bef t i c).2).1 : Int) = 0 := h
          have : (tokE keysL signsL t (bef t i c).1 (bef t i c).2).1 ≠ 0 := by
            unfold tokE
            repeat' split
            all_goals simp
          omega
        · intro h
          have h : t.extract (bef t i c).1 (tokE keysL signsL t (bef t i c).1 (bef t i c).2).2 = ⟨#[]⟩ := h
          have hs := extract_size (t := t) (a := (bef t i c).1) (e := (tokE keysL signsL t (bef t i c).1 (bef t i c).2).2) (by omega) hin.2
          rw [h] at hs
          have : (⟨#[]⟩ : ByteArray).size = 0 := rfl
          omega
        · intro h
          have := tok_sign (bef t i c).2 (by omega : (bef t i c).1 < t.size) _ h rfl
          show ((tokE keysL signsL t (bef t i c).1 (bef t i c).2).1 : Int) = 6
          omega
        · show (i : Int) ≤ ((bef t i c).1 : Nat)
          omega
        · show (((bef t i c).1 : Nat) : Int) < (t.size : Nat)
          omega
      · have := h4 x hx
        exact ⟨this.1, by omega, this.2.2⟩
@[reducible] def semi : ByteArray := ⟨#[59]⟩
@[reducible] def paro : ByteArray := ⟨#[40]⟩
/-- The tokens behind a sign that is set ahead. -/
def midF (u : ByteArray) : List Tk := (toksF keysL signsL (semi ++ u) (u.size + 1) 1 false).dropLast
attribute [irreducible] midF
/-- Words up to a line, whose sign is one, and what comes behind it. -/
def goW (f : Int → List Tk) : List Tk → List Tk
  | [] => []
  | x :: r => if x.kind = 7 then ⟨6, x.before, ⟨#[35]⟩, x.at_⟩ :: f (x.at_ + 1) else x :: goW f r
@[reducible] def shiftT (d : Int) (x : Tk) : Tk := ⟨x.kind, x.before, x.text, x.at_ + d⟩
def wordsF : Nat → ByteArray → Nat → List Tk
  | 0, _, _ => []
  | k + 1, s, p => goW (fun q => wordsF k s q.toNat) ((midF (s.extract p s.size)).map (shiftT ((p : Int) - 1)))
end Go.Pv

/- MacroSame: the plain law. -/
namespace Go.Pv
open Go.Proofs
set_option linter.unusedVariables false
set_option linter.unusedSimpArgs false
/-- The same kind and text. -/
def Sm (a b : Tk) : Prop := a.kind = b.kind ∧ a.text = b.text
def SmA (x y : Arnd) : Prop := x.name = y.name ∧ x.call = y.call ∧ Sm x.last y.last ∧ Sm x.next y.next ∧ x.first = y.first ∧ x.outer = y.outer
/-- What is seen is the same, up to what stands before. -/
def SmV (l : List Tk) (v : List Int) (l' : List Tk) (v' : List Int) : Prop := v.length = v'.length ∧ ∀ i, (seenT l v i).2 = (seenT l' v' i).2 ∧ Sm (seenT l v i).1 (seenT l' v' i).1
section
variable {l l' : List Tk} {v v' : List Int}
end
/-- Another text before. -/
def wB (c : ByteArray) (t : Tk) : Tk := ⟨t.kind, c, t.text, t.at_⟩
def plainL (c : ByteArray) (l : List Tk) (v : List Int) : List Tk := v.map fun p => wB c (l.getD p.toNat zeroT)
def placesL (n : Nat) : List Int := List.map (fun i : Nat => (i : Int)) (List.range n)
theorem places_asc (n : Nat) : AscV n (placesL n) := by
  refine ⟨fun p hp => ?_, fun i p q h1 h2 => ?_⟩
  · obtain ⟨j, hj, rfl⟩ := List.mem_map.1 hp
    rw [List.mem_range] at hj
    omega
  · unfold placesL at h1 h2
    rw [List.getElem?_map] at h1 h2
    obtain ⟨a, ha, rfl⟩ := Option.map_eq_some_iff.1 h1
    obtain ⟨b, hb, rfl⟩ := Option.map_eq_some_iff.1 h2
    have e1 := (List.getElem?_eq_some_iff.1 ha)
    have e2 := (List.getElem?_eq_some_iff.1 hb)
    obtain ⟨_, e1⟩ := e1
    obtain ⟨_, e2⟩ := e2
    rw [List.getElem_range] at e1 e2
    omega
end Go.Pv

/- File, for texts without directives: no further facts. -/
namespace Go.Pv
open Go.Proofs
set_option linter.unusedVariables false
set_option linter.unusedSimpArgs false
set_option maxRecDepth 100000
set_option maxHeartbeats 1000000
theorem allT_form (t : ByteArray) : ∃ (ws : List Tk) (e : Tk), allT t = ws ++ [e] ∧ e.kind = 0 ∧ ws.length ≤ t.size ∧ ∀ x ∈ ws, TokOk x := by
  obtain ⟨ws, e, h1, h2, h3, _, h5⟩ := toksF_form t (t.size + 1) 0 true (by omega) (by omega)
  exact ⟨ws, e, h1, h2, by omega, fun x hx => (h5 x hx).1⟩
theorem allP_asc (n : Nat) : AscV n (allP n) := places_asc n
theorem tokV_allP {l : List Tk} {k : Nat} {x : Tk} (h : l[k]? = some x) : tokV l (allP l.length) k = x := by
  obtain ⟨hk, _⟩ := List.getElem?_eq_some_iff.1 h
  obtain ⟨q, h1, h2, h3⟩ := tokV_get (allP_asc l.length) (k := k) (by simpa [allP] using hk)
  have : q = k := by
    unfold allP at h1
    rw [List.getElem?_map, List.getElem?_range hk] at h1
    simp at h1
    omega
  subst this
  rw [h] at h3
  exact (Option.some.inj h3).symm
theorem site_allT {t : ByteArray} (hk : ∀ x ∈ allT t, x.kind ≠ 7) : SiteV (allT t) (allP (allT t).length) := by
  have key : ∀ k, k < (allP (allT t).length).length → ∃ x, (allT t)[k]? = some x ∧ tokV (allT t) (allP (allT t).length) k = x := fun k h => by
    have h : k < (allT t).length := by simpa [allP] using h
    exact ⟨_, List.getElem?_eq_getElem h, tokV_allP (List.getElem?_eq_getElem h)⟩
  refine ⟨allP_asc _, fun k h => ?_, fun k h => ?_⟩
  · obtain ⟨x, h1, h2⟩ := key k h
    rw [h2]
    exact hk x (List.mem_of_getElem? h1)
  · obtain ⟨x, h1, h2⟩ := key k (by omega)
    rw [h2]
    obtain ⟨ws, e, h3, _, _, h4⟩ := allT_form t
    have hlen : k + 1 < (allT t).length := by simpa [allP] using h
    rw [h3, List.length_append, List.length_singleton] at hlen
    rw [h3, List.getElem?_append_left (by omega)] at h1
    exact (h4 x (List.mem_of_getElem? h1)).kind
end Go.Pv

/- The example of chapter 05: its tokens, its items. -/
namespace Go.Pv
open Go.Proofs
set_option linter.unusedVariables false
set_option linter.unusedSimpArgs false
def tS : ByteArray := ⟨#[105, 110, 116, 32, 102, 40, 105, 110, 116, 32, 97, 41, 32, 123, 32, 114, 101, 116, 117, 114, 110, 32, 97, 32, 43, 32, 49, 59, 32, 125, 10]⟩
def TT : List Tk := [⟨2, ⟨#[]⟩, ⟨#[105, 110, 116]⟩, 0⟩, ⟨1, ⟨#[32]⟩, ⟨#[102]⟩, 4⟩, ⟨6, ⟨#[]⟩, ⟨#[40]⟩, 5⟩, ⟨2, ⟨#[]⟩, ⟨#[105, 110, 116]⟩, 6⟩, ⟨1, ⟨#[32]⟩, ⟨#[97]⟩, 10⟩, ⟨6, ⟨#[]⟩, ⟨#[41]⟩, 11⟩, ⟨6, ⟨#[32]⟩, ⟨#[123]⟩, 13⟩, ⟨2, ⟨#[32]⟩, ⟨#[114, 101, 116, 117, 114, 110]⟩, 15⟩, ⟨1, ⟨#[32]⟩, ⟨#[97]⟩, 22⟩, ⟨6, ⟨#[32]⟩, ⟨#[43]⟩, 24⟩, ⟨3, ⟨#[32]⟩, ⟨#[49]⟩, 26⟩, ⟨6, ⟨#[]⟩, ⟨#[59]⟩, 27⟩, ⟨6, ⟨#[32]⟩, ⟨#[125]⟩, 29⟩, ⟨0, ⟨#[10]⟩, ⟨#[]⟩, 31⟩]
def XX : Nd := ⟨2, ⟨#[]⟩, 0, 0, 13, [⟨10, ⟨#[105, 110, 116]⟩, 0, 0, 1, []⟩, ⟨50, ⟨#[102]⟩, 0, 1, 2, []⟩, ⟨7, ⟨#[]⟩, 0, 3, 5, [⟨10, ⟨#[105, 110, 116]⟩, 0, 3, 4, []⟩, ⟨8, ⟨#[97]⟩, 0, 4, 5, []⟩]⟩, ⟨20, ⟨#[]⟩, 0, 6, 13, [⟨30, ⟨#[]⟩, 0, 7, 12, [⟨55, ⟨#[43]⟩, 0, 8, 11, [⟨50, ⟨#[97]⟩, 0, 8, 9, []⟩, ⟨51, ⟨#[49]⟩, 0, 10, 11, []⟩]⟩]⟩]⟩]⟩
set_option maxRecDepth 100000
theorem allT_S : allT tS = TT := by kernel_rfl
theorem seen_S : seenL TT (allP TT.length) = [0, 1, 2, 3, 4, 5, 6, 7, 8, 9, 10, 11, 12] := by kernel_rfl
theorem alt0_S (k0 : VK) (it : Nat) : (cxOf .any k0 TT (allP TT.length) it).altF ((cxOf .any k0 TT (allP TT.length) it).run 40) 40 0 0 = .bad := by kernel_rfl
theorem alt1_S (k0 : VK) (it : Nat) : (cxOf .any k0 TT (allP TT.length) it).altF ((cxOf .any k0 TT (allP TT.length) it).run 40) 40 1 0 = .bad := by kernel_rfl
theorem alt2_S (k0 : VK) (it : Nat) : (cxOf .any k0 TT (allP TT.length) it).altF ((cxOf .any k0 TT (allP TT.length) it).run 40) 40 2 0 = .ok XX 13 := by kernel_rfl
theorem lev_X : ¬ 60 < XX.lev := by
  have := Nd.lev_le XX
  have : XX.size = 11 := by simp [XX, Nd.size_eq]
  omega
theorem parse_S (k0 : VK) (it : Nat) : parseF 40 (seenL TT (allP TT.length)).length (cxOf .any k0 TT (allP TT.length) it) 0 = .ok [XX] 13 := by
  rw [seen_S]
  have hv : (cxOf .any k0 TT (allP TT.length) it).v = [0, 1, 2, 3, 4, 5, 6, 7, 8, 9, 10, 11, 12] := seen_S
  have h0 : (cxOf .any k0 TT (allP TT.length) it).itemS 40 0 = .ok XX 13 := by
    unfold Cx.itemS
    rw [Cx.itemG, alt0_S]
    show Cx.itemG _ _ _ 5 0 = _
    rw [Cx.itemG, alt1_S]
    show Cx.itemG _ _ _ 4 0 = _
    rw [Cx.itemG, alt2_S]
    show (if 60 < XX.lev then _ else _) = _
    rw [if_neg lev_X]
  show parseF 40 13 _ 0 = _
  unfold parseF
  rw [if_pos (by rw [hv]; decide), h0]
  have h2 : parseF 40 12 ((cxOf .any k0 TT (allP TT.length) it).after XX) 13 = .ok [] 13 := by
    unfold parseF
    rw [if_neg (by rw [after_v, hv]; decide)]
  show (match parseF 40 12 ((cxOf .any k0 TT (allP TT.length) it).after XX) 13 with | .fuel => Out.fuel | .bad => .bad | .ok l e => .ok (XX :: l) e) = _
  rw [h2]
end Go.Pv

/- The example of chapter 05 is read. -/
namespace Go.Pv
open Go.Proofs
set_option linter.unusedVariables false
set_option linter.unusedSimpArgs false
set_option maxRecDepth 100000
set_option maxHeartbeats 1000000
def rootS : Nd := ⟨1, ⟨#[]⟩, 0, 0, 13, [XX]⟩
def X300 : Nd := ⟨55, ⟨#[43]⟩, 0, 8, 11, [⟨50, ⟨#[97]⟩, 0, 8, 9, []⟩, ⟨51, ⟨#[49]⟩, 0, 10, 11, []⟩]⟩
def X30 : Nd := ⟨30, ⟨#[]⟩, 0, 7, 12, [X300]⟩
def X3 : Nd := ⟨20, ⟨#[]⟩, 0, 6, 13, [X30]⟩
theorem fileS_c (s : St) (hs : Vars s) : PCalls Tryz.prog 9 [.lit (.string tS)] s (fun r s' => s' = s ∧ ∃ v, (∃ k1 : VK, v = .tup [toks .any TT, ints k1 (allP TT.length), encU rootS, .lit (.int .i64 0)]) ∧ r = .ret v) := by
  have hk : ∀ x ∈ allT tS, x.kind ≠ 7 := by rw [allT_S]; decide
  refine (file0_c tS 40 (by decide) (by decide) (by rw [allT_S]; decide) hk (by rw [allT_S]; decide) (site_allT hk) (fun k0 it => ?_) s hs).mono ?_
  · rw [allT_S, parse_S]; simp
  rw [allT_S]
  rintro r s' ⟨rfl, k0, it, L, e, hp, h⟩
  rw [parse_S] at hp
  cases hp
  have hN : fileN (cxOf .any k0 TT (allP TT.length) it) [XX] 13 = rootS := by kernel_rfl
  rw [hN] at h
  have hz : rootS.size = 12 := by simp [rootS, XX, Nd.size_eq]
  rcases h with ⟨h, _⟩ | ⟨_, k1, rfl⟩
  · omega
  · exact ⟨rfl, _, ⟨k1, rfl⟩, rfl⟩
theorem awake05_c (s : St) (hs : Vars s) : PCalls Tryz.prog 25 [] s (fun r s' => s' = s ∧ r = .ret (.lit (.bool true))) := by
  refine PCalls.fun (D := []) ti_ok Tryz.func25 rfl (by kernel_rfl) ?_
  refine sc_pureR (ps := [.lit (.string tS)]) (R := fun v => ∃ k1 : VK, v = .tup [toks .any TT, ints k1 (allP TT.length), encU rootS, .lit (.int .i64 0)]) (fun s2 h => fileS_c s2 (hs.sub h)) rfl rfl ?_
  rintro _ ⟨k1, rfl⟩
  rintro (_ | _) h0
  · exact absurd h0 (by decide)
  rintro (_ | _) h1
  · exact absurd h1 (by decide)
  have el : ∀ (l : List Nd) (i : Nat) (y : Nd), l[i]? = some y → 0 ≤ ((i : Nat) : Int) ∧ (l.map enc)[((i : Nat) : Int).toNat]? = some (encU y) := fun l i y h => ⟨by omega, by rw [Int.toNat_natCast, List.getElem?_map, h]; exact congrArg some (enc_eq y)⟩
  refine ⟨encU XX, ⟨(el [XX] 0 XX rfl).1, (el [XX] 0 XX rfl).2, rfl⟩, ?_⟩
  rintro (_ | _) h2
  · exact absurd h2 (by decide)
  refine ⟨encU XX, ⟨(el [XX] 0 XX rfl).1, (el [XX] 0 XX rfl).2, rfl⟩, ?_⟩
  rintro (_ | _) h3
  · exact absurd h3 (by decide)
  refine ⟨encU XX, ⟨(el [XX] 0 XX rfl).1, (el [XX] 0 XX rfl).2, rfl⟩, ?_⟩
  refine ⟨encU X3, ⟨(el XX.l 3 X3 rfl).1, (el XX.l 3 X3 rfl).2, rfl⟩, ?_⟩
  refine ⟨encU X30, ⟨(el X3.l 0 X30 rfl).1, (el X3.l 0 X30 rfl).2, rfl⟩, ?_⟩
  refine ⟨encU X300, ⟨(el X30.l 0 X300 rfl).1, (el X30.l 0 X300 rfl).2, rfl⟩, ?_⟩
  rintro (_ | _) h4
  · exact absurd h4 (by decide)
  exact ⟨rfl, rfl⟩
end Go.Pv

/- How many items could not be read; the types' names: on both sides. -/
namespace Go.Pv
open Go.Proofs
set_option linter.unusedVariables false
set_option linter.unusedSimpArgs false
set_option maxRecDepth 100000
set_option maxHeartbeats 1000000
namespace Rw
@[reducible] def intV (n : Int) : SV := .av (.pv (.lit (.int .i64 n)))
theorem encE (x : Nd) : enc x = encU x := enc_eq x
theorem inc' {i : Nat} (h : i ≤ 1000000000) : IntKind.i64.wrap ((i : Int) + 1) = ((i + 1 : Nat) : Int) := by rw [wrap_i64 (by omega) (by omega)]; omega
@[reducible] def rowS (l : List ByteArray) : List (List PV) := l.map fun b => [.lit (.string b)]
theorem rowS_snoc (l : List ByteArray) (b : ByteArray) : rowS l ++ [[.lit (.string b)]] = rowS (l ++ [b]) := by simp [rowS]
def typeOf (f : Nd) : List ByteArray := if f.op = 5 ∧ f.l.length = 2 then (match f.l[1]? with | some y => [y.s] | none => []) else []
theorem type_take {l : List Nd} {i : Nat} (h : i < l.length) : (l.take (i + 1)).flatMap typeOf = (l.take i).flatMap typeOf ++ typeOf l[i] := by
  rw [List.take_succ_eq_append_getElem h, List.flatMap_append, List.flatMap_cons, List.flatMap_nil, List.append_nil]
theorem type_len : ∀ l : List Nd, (l.flatMap typeOf).length ≤ l.length
  | [] => Nat.le_refl _
  | f :: l => by
    have := type_len l
    have h1 : (typeOf f).length ≤ 1 := by
      unfold typeOf
      repeat' split
      all_goals simp
    rw [List.flatMap_cons, List.length_append, List.length_cons]
    omega
def rawB (f : Nd) : Bool := decide (f.op = 6)
theorem raw_take {l : List Nd} {i : Nat} (h : i < l.length) : (l.take (i + 1)).countP rawB = (l.take i).countP rawB + (if rawB l[i] = true then 1 else 0) := by
  rw [List.take_succ_eq_append_getElem h, List.countP_append, List.countP_cons, List.countP_nil]
  omega
@[reducible] def fenv (v : SV) (x : Nd) (i : Nat) : List (Nat × SV) := [(3, v), (7, .av (.pv (.vec .any (x.l.map enc)))), (8, .av (.pv (.lit (.int .i64 ((x.l.map enc).length : Nat))))), (9, .av (.pv (.lit (.int .i64 (i : Nat)))))]
@[reducible] def nodeLoc (x : Nd) : Option Loc := some (.cel 26 6 ((encC x).map .pv))
@[reducible] def genv (v : SV) (i : Nat) : List (Nat × SV) := [(1, .av (.cell 0 0)), (3, v), (4, .av (.pv (.lit (.int .i64 (i : Nat)))))]
theorem raws_c (x : Nd) (hx : x.size ≤ 1000000) (s : St) : PCalls Tryz.prog 29 [encU x] s (fun r s' => s' = s ∧ r = .ret (.lit (.int .i64 (x.l.countP rawB : Nat)))) := by
  refine PCalls.fun (D := []) ti_ok Tryz.func29 rfl (by kernel_rfl) ?_
  have hn := x.len_lt
  refine sw_loop (D := []) ti_ok (by kernel_rfl) (fun n env st b => ∃ (i m : Nat), i + n = x.l.length ∧ m = (x.l.take i).countP rawB ∧ b = s ∧ env = fenv (intV (m : Nat)) x i ∧ st = []) x.l.length ⟨[], [3, 7, 8, 9], rfl, 0, 0, by omega, rfl, rfl, rfl, rfl⟩ ?_
  rintro n env st b ⟨i, m, hi, hm, rfl, rfl, rfl⟩
  rintro (_ | _) ht
  · rw [List.length_map] at ht
    have hle : x.l.length ≤ i := by have := of_decide_eq_false ht; omega
    rw [List.take_of_length_le hle] at hm
    refine ⟨rfl, ?_⟩
    rw [← hm]; rfl
  rw [List.length_map] at ht
  have hlt : i < x.l.length := by have := of_decide_eq_true ht; omega
  have hg := List.getElem?_eq_getElem hlt
  have htk := raw_take hlt
  have hml : m ≤ x.l.length := by rw [hm]; exact Nat.le_trans List.countP_le_length (by rw [List.length_take]; omega)
  obtain ⟨f, hf⟩ : ∃ f, x.l[i] = f := ⟨_, rfl⟩
  rw [hf] at hg htk
  refine ⟨encU f, ⟨by omega, by rw [Int.toNat_natCast, List.getElem?_map, hg]; exact congrArg some (encE f), rfl⟩, ?_⟩
  rintro (_ | _) h2
  · have h2 := of_decide_eq_false h2
    exact ⟨n - 1, by omega, [], [3, 7, 8, 9], rfl, i + 1, m, by omega, by rw [htk, show rawB f = false from decide_eq_false h2, hm]; rfl, rfl, by unfold fenv; rw [← inc' (show i ≤ 1000000000 by omega)]; rfl, rfl⟩
  have h2 := of_decide_eq_true h2
  exact ⟨n - 1, by omega, [], [3, 7, 8, 9], rfl, i + 1, m + 1, by omega, by rw [htk, show rawB f = true from decide_eq_true h2, hm]; rfl, rfl, by unfold fenv; rw [← inc' (show i ≤ 1000000000 by omega), ← inc' (show m ≤ 1000000000 by omega)]; rfl, rfl⟩
theorem rraws_c (x : Nd) (hx : x.size ≤ 1000000) (s : St) : PCalls Tryz.prog 30 [encU x] s (fun r s' => s' = s ∧ r = .ret (.lit (.int .i64 (x.l.countP rawB : Nat)))) := by
  refine PCalls.fun (D := []) ti_ok Tryz.func30 rfl (by kernel_rfl) ?_
  have hn := x.len_lt
  refine sw_loop (D := []) ti_ok (by kernel_rfl) (fun n env st b => ∃ (i m : Nat), i + n = x.l.length ∧ m = (x.l.take i).countP rawB ∧ b = s ∧ env = genv (intV (m : Nat)) i ∧ st = [nodeLoc x]) x.l.length ⟨[0], [1, 3, 4], rfl, 0, 0, by omega, rfl, rfl, rfl, rfl⟩ ?_
  rintro n env st b ⟨i, m, hi, hm, rfl, rfl, rfl⟩
  rintro (_ | _) ht
  · rw [List.length_map] at ht
    have hle : x.l.length ≤ i := by have := of_decide_eq_false ht; omega
    rw [List.take_of_length_le hle] at hm
    refine ⟨rfl, ?_⟩
    rw [← hm]; rfl
  rw [List.length_map] at ht
  have hlt : i < x.l.length := by have := of_decide_eq_true ht; omega
  have hg := List.getElem?_eq_getElem hlt
  have htk := raw_take hlt
  have hml : m ≤ x.l.length := by rw [hm]; exact Nat.le_trans List.countP_le_length (by rw [List.length_take]; omega)
  obtain ⟨f, hf⟩ : ∃ f, x.l[i] = f := ⟨_, rfl⟩
  rw [hf] at hg htk
  refine ⟨encU f, ⟨by omega, by rw [Int.toNat_natCast, List.getElem?_map, hg]; exact congrArg some (encE f), rfl⟩, ?_⟩
  rintro (_ | _) h2
  · have h2 := of_decide_eq_false h2
    exact ⟨n - 1, by omega, [0], [1, 3, 4], rfl, i + 1, m, by omega, by rw [htk, show rawB f = false from decide_eq_false h2, hm]; rfl, rfl, by unfold genv; rw [← inc' (show i ≤ 1000000000 by omega)]; rfl, rfl⟩
  have h2 := of_decide_eq_true h2
  exact ⟨n - 1, by omega, [0], [1, 3, 4], rfl, i + 1, m + 1, by omega, by rw [htk, show rawB f = true from decide_eq_true h2, hm]; rfl, rfl, by unfold genv; rw [← inc' (show i ≤ 1000000000 by omega), ← inc' (show m ≤ 1000000000 by omega)]; rfl, rfl⟩
theorem types_c (x : Nd) (hx : x.size ≤ 1000000) (s : St) : PCalls Tryz.prog 13 [encU x] s (fun r s' => s' = s ∧ r = .ret (.vec .any ((x.l.flatMap typeOf).map fun b => .lit (.string b)))) := by
  refine PCalls.funO (D := []) ti_ok Tryz.func13 rfl (by kernel_rfl) rfl ?_
  have hn := x.len_lt
  refine sw_loop (D := []) ti_ok (by kernel_rfl) (fun n env st b => ∃ (i : Nat) (L : List ByteArray), i + n = x.l.length ∧ L = (x.l.take i).flatMap typeOf ∧ b = s ∧ ((L = [] ∧ env = fenv (.av (.pv (.vec .nil []))) x i ∧ st = []) ∨ (L ≠ [] ∧ env = fenv (.av (.own 0)) x i ∧ st = [some (.lst 9 1 (rowS L))]))) x.l.length ⟨[], [3, 7, 8, 9], rfl, 0, [], by omega, by simp, rfl, .inl ⟨rfl, rfl, rfl⟩⟩ ?_
  rintro n env st b ⟨i, L, hi, hL, rfl, ⟨hL0, rfl, rfl⟩ | ⟨hL0, rfl, rfl⟩⟩
  · rintro (_ | _) ht
    · rw [List.length_map] at ht
      have hle : x.l.length ≤ i := by have := of_decide_eq_false ht; omega
      rw [List.take_of_length_le hle] at hL
      exact ⟨rfl, by rw [← hL, hL0]; rfl⟩
    rw [List.length_map] at ht
    have hlt : i < x.l.length := by have := of_decide_eq_true ht; omega
    have hg := List.getElem?_eq_getElem hlt
    have htk := type_take hlt
    have hfl := type_len (x.l.take i)
    rw [List.length_take, ← hL] at hfl
    obtain ⟨f, hf⟩ : ∃ f, x.l[i] = f := ⟨_, rfl⟩
    rw [hf] at hg htk
    refine ⟨encU f, ⟨by omega, by rw [Int.toNat_natCast, List.getElem?_map, hg]; exact congrArg some (encE f), rfl⟩, ?_⟩
    rintro (_ | _) h2
    · have h2 := of_decide_eq_false h2
      exact ⟨n - 1, by omega, [], [3, 7, 8, 9], rfl, i + 1, L, by omega, by rw [htk, show typeOf f = [] by unfold typeOf; rw [if_neg (by intro h; exact h2 h.1)], List.append_nil, hL], rfl, .inl ⟨hL0, by unfold fenv; rw [← inc' (show i ≤ 1000000000 by omega)]; rfl, rfl⟩⟩
    have h2 := of_decide_eq_true h2
    rintro (_ | _) h1
    · rw [List.length_map] at h1
      have h1 := of_decide_eq_false h1
      exact ⟨n - 1, by omega, [], [3, 7, 8, 9], rfl, i + 1, L, by omega, by rw [htk, show typeOf f = [] by unfold typeOf; rw [if_neg (by intro h; have := h.2; omega)], List.append_nil, hL], rfl, .inl ⟨hL0, by unfold fenv; rw [← inc' (show i ≤ 1000000000 by omega)]; rfl, rfl⟩⟩
    rw [List.length_map] at h1
    have h1 := of_decide_eq_true h1
    obtain ⟨g, hgx⟩ : ∃ g, f.l[1]? = some g := ⟨_, List.getElem?_eq_getElem (by omega)⟩
    have hty : typeOf f = [g.s] := by unfold typeOf; rw [if_pos ⟨h2, by omega⟩, hgx]
    refine ⟨encU g, ⟨by omega, by rw [show (1 : Int).toNat = 1 from rfl, List.getElem?_map, hgx]; exact congrArg some (encE g), rfl⟩, ?_⟩
    refine ⟨[[.lit (.string g.s)]], rfl, by simp; try omega, ?_⟩
    refine ⟨n - 1, by omega, [1], [3, 7, 8, 9], rfl, i + 1, [g.s], by omega, by rw [htk, hty, ← hL, hL0]; rfl, rfl, .inr ⟨by simp, by unfold fenv; rw [← inc' (show i ≤ 1000000000 by omega)]; rfl, rfl⟩⟩
  · rintro (_ | _) ht
    · rw [List.length_map] at ht
      have hle : x.l.length ≤ i := by have := of_decide_eq_false ht; omega
      rw [List.take_of_length_le hle] at hL
      exact ⟨L.map fun b => .lit (.string b), by rw [List.map_map]; rfl, rfl, by rw [hL]⟩
    rw [List.length_map] at ht
    have hlt : i < x.l.length := by have := of_decide_eq_true ht; omega
    have hg := List.getElem?_eq_getElem hlt
    have htk := type_take hlt
    have hfl := type_len (x.l.take i)
    rw [List.length_take, ← hL] at hfl
    obtain ⟨f, hf⟩ : ∃ f, x.l[i] = f := ⟨_, rfl⟩
    rw [hf] at hg htk
    refine ⟨encU f, ⟨by omega, by rw [Int.toNat_natCast, List.getElem?_map, hg]; exact congrArg some (encE f), rfl⟩, ?_⟩
    rintro (_ | _) h2
    · have h2 := of_decide_eq_false h2
      exact ⟨n - 1, by omega, [0], [3, 7, 8, 9], rfl, i + 1, L, by omega, by rw [htk, show typeOf f = [] by unfold typeOf; rw [if_neg (by intro h; exact h2 h.1)], List.append_nil, hL], rfl, .inr ⟨hL0, by unfold fenv; rw [← inc' (show i ≤ 1000000000 by omega)]; rfl, rfl⟩⟩
    have h2 := of_decide_eq_true h2
    rintro (_ | _) h1
    · rw [List.length_map] at h1
      have h1 := of_decide_eq_false h1
      exact ⟨n - 1, by omega, [0], [3, 7, 8, 9], rfl, i + 1, L, by omega, by rw [htk, show typeOf f = [] by unfold typeOf; rw [if_neg (by intro h; have := h.2; omega)], List.append_nil, hL], rfl, .inr ⟨hL0, by unfold fenv; rw [← inc' (show i ≤ 1000000000 by omega)]; rfl, rfl⟩⟩
    rw [List.length_map] at h1
    have h1 := of_decide_eq_true h1
    obtain ⟨g, hgx⟩ : ∃ g, f.l[1]? = some g := ⟨_, List.getElem?_eq_getElem (by omega)⟩
    have hty : typeOf f = [g.s] := by unfold typeOf; rw [if_pos ⟨h2, by omega⟩, hgx]
    refine ⟨encU g, ⟨by omega, by rw [show (1 : Int).toNat = 1 from rfl, List.getElem?_map, hgx]; exact congrArg some (encE g), rfl⟩, ?_⟩
    refine ⟨[[.lit (.string g.s)]], rfl, by simp; try omega, ?_⟩
    refine ⟨n - 1, by omega, [2], [3, 7, 8, 9], rfl, i + 1, L ++ [g.s], by omega, by rw [htk, hty, ← hL], rfl, .inr ⟨by simp, by unfold fenv; rw [← inc' (show i ≤ 1000000000 by omega)]; rfl, by rw [← rowS_snoc]; rfl⟩⟩
theorem rtypes_c (x : Nd) (hx : x.size ≤ 1000000) (s : St) : PCalls Tryz.prog 32 [encU x] s (fun r s' => s' = s ∧ r = .ret (.vec .any ((x.l.flatMap typeOf).map fun b => .lit (.string b)))) := by
  refine PCalls.funO (D := []) ti_ok Tryz.func32 rfl (by kernel_rfl) rfl ?_
  have hn := x.len_lt
  refine sw_loop (D := []) ti_ok (by kernel_rfl) (fun n env st b => ∃ (i : Nat) (L : List ByteArray), i + n = x.l.length ∧ L = (x.l.take i).flatMap typeOf ∧ b = s ∧ ((L = [] ∧ env = genv (.av (.pv (.vec .nil []))) i ∧ st = [nodeLoc x]) ∨ (L ≠ [] ∧ env = genv (.av (.own 1)) i ∧ st = [nodeLoc x, some (.lst 9 1 (rowS L))]))) x.l.length ⟨[0], [1, 3, 4], rfl, 0, [], by omega, by simp, rfl, .inl ⟨rfl, rfl, rfl⟩⟩ ?_
  rintro n env st b ⟨i, L, hi, hL, rfl, ⟨hL0, rfl, rfl⟩ | ⟨hL0, rfl, rfl⟩⟩
  · rintro (_ | _) ht
    · rw [List.length_map] at ht
      have hle : x.l.length ≤ i := by have := of_decide_eq_false ht; omega
      rw [List.take_of_length_le hle] at hL
      exact ⟨rfl, by rw [← hL, hL0]; rfl⟩
    rw [List.length_map] at ht
    have hlt : i < x.l.length := by have := of_decide_eq_true ht; omega
    have hg := List.getElem?_eq_getElem hlt
    have htk := type_take hlt
    have hfl := type_len (x.l.take i)
    rw [List.length_take, ← hL] at hfl
    obtain ⟨f, hf⟩ : ∃ f, x.l[i] = f := ⟨_, rfl⟩
    rw [hf] at hg htk
    refine ⟨encU f, ⟨by omega, by rw [Int.toNat_natCast, List.getElem?_map, hg]; exact congrArg some (encE f), rfl⟩, ?_⟩
    rintro (_ | _) h2
    · have h2 := of_decide_eq_false h2
      exact ⟨n - 1, by omega, [0], [1, 3, 4], rfl, i + 1, L, by omega, by rw [htk, show typeOf f = [] by unfold typeOf; rw [if_neg (by intro h; exact h2 h.1)], List.append_nil, hL], rfl, .inl ⟨hL0, by unfold genv; rw [← inc' (show i ≤ 1000000000 by omega)]; rfl, rfl⟩⟩
    have h2 := of_decide_eq_true h2
    refine ⟨encU f, ⟨by omega, by rw [Int.toNat_natCast, List.getElem?_map, hg]; exact congrArg some (encE f), rfl⟩, ?_⟩
    rintro (_ | _) h1
    · rw [List.length_map] at h1
      have h1 := of_decide_eq_false h1
      exact ⟨n - 1, by omega, [0], [1, 3, 4], rfl, i + 1, L, by omega, by rw [htk, show typeOf f = [] by unfold typeOf; rw [if_neg (by intro h; have := h.2; omega)], List.append_nil, hL], rfl, .inl ⟨hL0, by unfold genv; rw [← inc' (show i ≤ 1000000000 by omega)]; rfl, rfl⟩⟩
    rw [List.length_map] at h1
    have h1 := of_decide_eq_true h1
    obtain ⟨g, hgx⟩ : ∃ g, f.l[1]? = some g := ⟨_, List.getElem?_eq_getElem (by omega)⟩
    have hty : typeOf f = [g.s] := by unfold typeOf; rw [if_pos ⟨h2, by omega⟩, hgx]
    refine ⟨encU f, ⟨by omega, by rw [Int.toNat_natCast, List.getElem?_map, hg]; exact congrArg some (encE f), rfl⟩, ?_⟩
    refine ⟨encU g, ⟨by omega, by rw [show (1 : Int).toNat = 1 from rfl, List.getElem?_map, hgx]; exact congrArg some (encE g), rfl⟩, ?_⟩
    refine ⟨[[.lit (.string g.s)]], rfl, by simp; try omega, ?_⟩
    refine ⟨n - 1, by omega, [0, 1], [1, 3, 4], rfl, i + 1, [g.s], by omega, by rw [htk, hty, ← hL, hL0]; rfl, rfl, .inr ⟨by simp, by unfold genv; rw [← inc' (show i ≤ 1000000000 by omega)]; rfl, rfl⟩⟩
  · rintro (_ | _) ht
    · rw [List.length_map] at ht
      have hle : x.l.length ≤ i := by have := of_decide_eq_false ht; omega
      rw [List.take_of_length_le hle] at hL
      exact ⟨L.map fun b => .lit (.string b), by rw [List.map_map]; rfl, rfl, by rw [hL]⟩
    rw [List.length_map] at ht
    have hlt : i < x.l.length := by have := of_decide_eq_true ht; omega
    have hg := List.getElem?_eq_getElem hlt
    have htk := type_take hlt
    have hfl := type_len (x.l.take i)
    rw [List.length_take, ← hL] at hfl
    obtain ⟨f, hf⟩ : ∃ f, x.l[i] = f := ⟨_, rfl⟩
    rw [hf] at hg htk
    refine ⟨encU f, ⟨by omega, by rw [Int.toNat_natCast, List.getElem?_map, hg]; exact congrArg some (encE f), rfl⟩, ?_⟩
    rintro (_ | _) h2
    · have h2 := of_decide_eq_false h2
      exact ⟨n - 1, by omega, [0, 1], [1, 3, 4], rfl, i + 1, L, by omega, by rw [htk, show typeOf f = [] by unfold typeOf; rw [if_neg (by intro h; exact h2 h.1)], List.append_nil, hL], rfl, .inr ⟨hL0, by unfold genv; rw [← inc' (show i ≤ 1000000000 by omega)]; rfl, rfl⟩⟩
    have h2 := of_decide_eq_true h2
    refine ⟨encU f, ⟨by omega, by rw [Int.toNat_natCast, List.getElem?_map, hg]; exact congrArg some (encE f), rfl⟩, ?_⟩
    rintro (_ | _) h1
    · rw [List.length_map] at h1
      have h1 := of_decide_eq_false h1
      exact ⟨n - 1, by omega, [0, 1], [1, 3, 4], rfl, i + 1, L, by omega, by rw [htk, show typeOf f = [] by unfold typeOf; rw [if_neg (by intro h; have := h.2; omega)], List.append_nil, hL], rfl, .inr ⟨hL0, by unfold genv; rw [← inc' (show i ≤ 1000000000 by omega)]; rfl, rfl⟩⟩
    rw [List.length_map] at h1
    have h1 := of_decide_eq_true h1
    obtain ⟨g, hgx⟩ : ∃ g, f.l[1]? = some g := ⟨_, List.getElem?_eq_getElem (by omega)⟩
    have hty : typeOf f = [g.s] := by unfold typeOf; rw [if_pos ⟨h2, by omega⟩, hgx]
    refine ⟨encU f, ⟨by omega, by rw [Int.toNat_natCast, List.getElem?_map, hg]; exact congrArg some (encE f), rfl⟩, ?_⟩
    refine ⟨encU g, ⟨by omega, by rw [show (1 : Int).toNat = 1 from rfl, List.getElem?_map, hgx]; exact congrArg some (encE g), rfl⟩, ?_⟩
    refine ⟨[[.lit (.string g.s)]], rfl, by simp; try omega, ?_⟩
    refine ⟨n - 1, by omega, [0, 2], [1, 3, 4], rfl, i + 1, L ++ [g.s], by omega, by rw [htk, hty, ← hL], rfl, .inr ⟨by simp, by unfold genv; rw [← inc' (show i ≤ 1000000000 by omega)]; rfl, by rw [← rowS_snoc]; rfl⟩⟩
end Rw
end Go.Pv

/- Lists of texts compared. -/
namespace Go.Pv
open Go.Proofs
set_option linter.unusedVariables false
set_option linter.unusedSimpArgs false
set_option maxRecDepth 100000
set_option maxHeartbeats 1000000
theorem eqstrs_c (k1 k2 : VK) (l : List ByteArray) (hl : l.length ≤ 1000000) (s : St) : PCalls Tryz.prog 31 [strs k1 l, strs k2 l] s (fun r s' => s' = s ∧ r = .ret (.lit (.bool true))) := by
  refine PCalls.of Tryz.func31 rfl (by rfl) (by simp [Tryz.ntmps31]) ?_
  refine pwC_sound _ _ _ _ ?_
  refine pwC_cut fun K hK => ?_
  simp [Tryz.ntmps31]
  refine hK _ _ ?_
  clear hK K
  refine pwC_cut fun K hK => ?_
  simp
  refine hK _ _ ?_
  clear hK K
  refine pwC_cut fun K hK => ?_
  simp
  refine PW.loop (fun n e s' => ∃ j : Nat, j + n = l.length ∧ e 0 = strs k1 l ∧ e 1 = strs k2 l ∧ e 5 = .lit (.int .i64 j) ∧ s' = s) l.length ⟨0, by omega, by simp, by simp, by simp, rfl⟩ ?_
  rintro n e s' ⟨j, hj, e0, e1, e5, rfl⟩
  refine pwC_sound _ _ _ _ ?_
  by_cases hlt : j < l.length
  · have hlt' : (j : Int) < l.length := by omega
    have hg : l[j]? = some l[j] := List.getElem?_eq_getElem hlt
    obtain ⟨x, hx⟩ : ∃ x, l[j] = x := ⟨_, rfl⟩
    rw [hx] at hg
    have w1 : IntKind.i64.wrap ((j : Int) + 1) = ((j + 1 : Nat) : Int) := by rw [wrap_i64 (by omega) (by omega)]; omega
    clear hK
    simp [e0, e1, e5, hlt, hlt']
    refine PW.drawn (fun i => 0) [0, 1, 2, 3, 4, 5, 6, 7, 8] mixed_ (fun _ _ _ _ h => h) (by kernel_rfl) ?_
    simp [e0, e1, e5, hlt, hlt', hg, hx, w1]
    exact ⟨n - 1, by omega, j + 1, by omega, by omega⟩
  · have hlt' : ¬ (j : Int) < l.length := by omega
    simp [e0, e1, e5, hlt, hlt']
    refine hK _ _ ?_
    clear hK K
    simp
end Go.Pv

/- The reference's Heavy, 400 nodes. -/
namespace Go.Pv
open Go.Proofs
set_option linter.unusedVariables false
set_option linter.unusedSimpArgs false
set_option maxRecDepth 100000
set_option maxHeartbeats 1000000
theorem heavy400_c (l : List Nd) (hl : l.length ≤ 2 ^ 63 - 1) (hG : ∀ y ∈ l, Gd y) (s : St) : PCalls Tryz.prog 17 [.vec .any (l.map enc), .lit (.int .i64 400)] s (fun r s' => s' = s ∧ ∃ b, r = .ret (.lit (.bool b)) ∧ (b = false → (l.map Nd.size).sum ≤ 400)) := by
  refine PCalls.of Tryz.func17 rfl (by rfl) (by simp [Tryz.ntmps17]) ?_
  refine pwC_sound _ _ _ _ ?_
  simp [Tryz.ntmps17]
  refine (deep_c 300 (by omega) l hl hG s).mono ?_
  rintro _ s2 ⟨h2, b, rfl, hb⟩
  rw [h2]
  clear h2 s2
  cases b
  · simp
    refine (nodes_c 300 (by omega) l (hb rfl) hl hG 400 (by omega) s).mono ?_
    rintro _ s2 ⟨h2, n, rfl, hn1, hn2⟩
    rw [h2]
    clear h2 s2
    by_cases h3 : 400 < n
    · have h3' : (400 : Int) < n := by omega
      simp [h3, h3']
    · have h3' : ¬ (400 : Int) < n := by omega
      simp [h3, h3']
      refine (texts_c 300 l (hb rfl) hl hG 20000 s).mono ?_
      rintro _ s2 ⟨h2, u, rfl⟩
      rw [h2]
      clear h2 s2
      have := hn2 (by omega)
      simp
      exact ⟨s, sub_refl, rfl, by omega⟩
  · simp
end Go.Pv

/- The law of counts of chapter 05. -/
namespace Go.Pv
open Go.Proofs
set_option linter.unusedVariables false
set_option linter.unusedSimpArgs false
set_option maxRecDepth 100000
set_option maxHeartbeats 1000000
theorem q1v {P : Program} {f : FuncId} {σ : Nat → Nat} {st : SS} {ps qs : List PV} {v : PV} {s : St} (h : PCalls P f ps s fun r s' => s' = s ∧ r = .ret v) (hl : ps.all PV.live = true) (hA : All2 (SVR σ st) (pvs ps) qs) : PCalls P f qs s fun r s' => s' = s ∧ r = .ret v := by
  rw [pvs_rel hl hA]; exact h
theorem parseCounts_c (x : Nd) (hG : Gd x) (hI : Gi x) (s : St) (hv : Vars s) : PCalls Tryz.prog 7 [encU x] s (fun r s' => s' = s ∧ r = .ret (.lit (.bool true))) := by
  refine PCalls.fun (D := [(3, ([0, 1, 2, 3, 4, 5, 6, 7, 8, 9, 10, 11, 12, 13, 14, 15], [(1, 1), (3, 1), (7, 1), (9, 1), (10, 1), (13, 1)], []))]) ti_ok Tryz.func7 rfl (by kernel_rfl) ?_
  refine sc_pureR (R := fun v => ∃ b, v = .lit (.bool b) ∧ (b = false → x.size ≤ 400)) (ps := [.vec .tight [encU x], .lit (.int .i64 400)]) (fun s _ => ?_) rfl rfl ?_
  · have h := PCalls.wk (ps := [.vec .tight ([x].map enc), .lit (.int .i64 400)]) (heavy400_c [x] (by simp) (by simpa using hG) s) (.cons (.any _ _) (.cons (.refl _) .nil))
    rw [show ([x].map enc) = [encU x] from by simp [enc_eq]] at h
    refine PCalls.mono h ?_
    rintro _ _ ⟨rfl, b, rfl, hb⟩
    exact ⟨rfl, _, ⟨b, rfl, fun h => by have := hb h; simpa using this⟩, rfl⟩
  rintro _ ⟨b, rfl, hb⟩
  cases b with
  | true => exact ⟨rfl, rfl⟩
  | false =>
    have hx := hb rfl
    have hln := x.len_lt
    have hf : (x.l.flatMap Rw.typeOf).length ≤ 1000000 := by have := Rw.type_len x.l; omega
    refine ⟨by kernel_rfl, ?_⟩
    refine ⟨_, fun σ s qs hR hA => q1v (ps := [encU x]) (Rw.raws_c x (by omega) s) rfl hA, ?_⟩
    refine ⟨_, fun σ s qs hR hA => q1v (ps := [encU x]) (Rw.rraws_c x (by omega) s) rfl hA, ?_⟩
    rintro (_ | _) h1
    · exact absurd rfl (of_decide_eq_false h1)
    refine ⟨_, fun σ s qs hR hA => q1v (ps := [encU x]) (Rw.types_c x (by omega) s) rfl hA, ?_⟩
    refine ⟨_, fun σ s qs hR hA => q1v (ps := [encU x]) (Rw.rtypes_c x (by omega) s) rfl hA, ?_⟩
    refine ⟨_, fun σ s qs hR hA => q1v (ps := [strs .any (x.l.flatMap Rw.typeOf), strs .any (x.l.flatMap Rw.typeOf)]) (eqstrs_c _ _ _ hf s) rfl hA, ?_⟩
    refine ⟨_, fun σ s qs hR hA => q1v (ps := []) (awake05_c s (hv.sub hR.sub)) rfl hA, ?_⟩
    exact ⟨rfl, rfl⟩
end Go.Pv
