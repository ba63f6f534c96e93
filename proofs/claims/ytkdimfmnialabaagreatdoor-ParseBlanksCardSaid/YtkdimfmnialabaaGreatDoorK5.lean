/- Several texts, one behind the other. -/
import Derived.Test.YtkdimfmnialabaaGreatDoorK4
import Derived.Test.YtkdimfmnialabaaGreatDoorK2
import Derived.Test.YtkdimfmnialabaaGreatDoorK1
namespace Go.Pv
open Go.Proofs
set_option linter.unusedVariables false
set_option linter.unusedSimpArgs false
set_option maxRecDepth 100000
set_option maxHeartbeats 4000000
def OT {α : Type} (o : Out α) (R : α → Nat → Prop) : Prop := o ≠ .fuel ∧ OP o R
section
variable {α β : Type}
theorem OT.bad {R : α → Nat → Prop} : OT (.bad : Out α) R := ⟨by simp, .bad⟩
theorem OT.ok {R : α → Nat → Prop} {a : α} {i : Nat} (h : R a i) : OT (.ok a i) R := ⟨by simp, .ok h⟩
theorem OT.bind {o : Out α} {f : α → Nat → Out β} {R : α → Nat → Prop} {S : β → Nat → Prop} (h : OT o R) (hf : ∀ x j, R x j → OT (f x j) S) : OT (o.bind f) S := by
 cases o with
 | fuel => exact absurd rfl h.1
 | bad => exact .bad
 | ok a k => exact hf a k (h.2 a k rfl)
theorem OT.ite {P : Prop} [Decidable P] {a b : Out α} {R : α → Nat → Prop} (h1 : P → OT a R) (h2 : ¬P → OT b R) : OT (if P then a else b) R := by
 by_cases h : P
 ·rw [if_pos h]; exact h1 h
 ·rw [if_neg h]; exact h2 h
theorem OT.want {c : Cx} (hc : c.ok) {u : ByteArray} {j : Nat} {f : Nat → Out α} {R : α → Nat → Prop} (hf : j < c.v.length → OT (f (j + 1)) R) : OT (c.want j u f) R := .ite (fun h => hf (hc.lt h)) fun _ => .bad
theorem OT.mono {o : Out α} {R S : α → Nat → Prop} (h : OT o R) (hs : ∀ x j, R x j → S x j) : OT o S := ⟨h.1, h.2.mono hs⟩
end
def rk : NT → Nat
 | .expr => 18
 | .assign => 17
 | .choice => 16
 | .binary k => 15 - k
 | .cast => 4
 | .unary => 3
 | .post => 2
 | .primary => 1
 | .value => 18
 | .initial => 19
 | .dclrs _ => 2
 | .stat => 20
 | .other _ => 19
 | .marked => 21
 | _ => 1
def sI : NT → Nat
 | .sizes => 0
 | .marked => 0
 | _ => 1
def okT : NT → Prop
 | .binary k => k ≤ 10
 | _ => True
def TM (c : Cx) (p : NT → Nat → Out Nd) (M : Nat) : Prop := ∀ Y j, okT Y → j ≤ c.v.length → (c.v.length - j) * 40 + rk Y < M → OT (p Y j) fun _ k => j + sI Y ≤ k ∧ k ≤ c.v.length
theorem OT.nf {α : Type} {o : Out α} {R : α → Nat → Prop} (h : OT o R) : o ≠ .fuel := h.1
section
variable {c : Cx} {p : NT → Nat → Out Nd} {n M : Nat}
theorem TM.at (h : TM c p M) (Y : NT) (j : Nat) (h1 : okT Y) (h2 : j ≤ c.v.length) (h3 : (c.v.length - j) * 40 + rk Y < M) : OT (p Y j) fun _ k => j + sI Y ≤ k ∧ k ≤ c.v.length := h Y j h1 h2 h3
theorem base_nfT {m : Nm} {i : Nat} : c.base m i ≠ .fuel := by
 unfold Cx.base
 simp only
 repeat' split
 all_goals simp
theorem type_tm (hc : c.ok) {i : Nat} (hi : i ≤ c.v.length) (m : Nm) : OT (c.starred m i) (fun _ j => i < j ∧ j ≤ c.v.length) ∧ OT (c.simple m i) (fun _ j => i < j ∧ j ≤ c.v.length) := by
 have h := type_sz hc hi m
 refine ⟨⟨?_, h.1.mono fun x j h => ⟨h.1, h.2.1⟩⟩, ⟨?_, h.2.mono fun x j h => ⟨h.1, h.2.1⟩⟩⟩
 ·unfold Cx.starred
  have := base_nfT (c := c) (m := m) (i := i)
  cases hb : c.base m i with
  | fuel => exact absurd hb this
  | bad => simp
  | ok u j => simp
 ·unfold Cx.simple
  have := base_nfT (c := c) (m := m) (i := i)
  cases hb : c.base m i with
  | fuel => exact absurd hb this
  | bad => simp
  | ok u j => simp
theorem commas_tm (hc : c.ok) {q : Nat → Out Nd} {i0 : Nat} (hq : ∀ j, i0 < j → j ≤ c.v.length → OT (q j) fun _ k => j < k ∧ k ≤ c.v.length) : ∀ (m : Nat) (L : List Nd) (j : Nat), i0 ≤ j → j ≤ c.v.length → c.v.length - j < m → OT (c.commas q m L j) fun _ k => j ≤ k ∧ k ≤ c.v.length
 | 0, L, j, _, _, h => by omega
 | m + 1, L, j, h0, hj, hm => by
  unfold Cx.commas
  refine .ite (fun h => ?_) fun h => .ok (by omega)
  have hlt := hc.lt h
  exact .bind (hq (j + 1) (by omega) hlt) fun x k hk => (commas_tm hc hq m _ k (by omega) hk.2 (by omega)).mono fun l k2 h2 => by omega
theorem step_tm (hc : c.ok) (ht : TM c p M) {Y : NT} {i : Nat} (hY : okT Y) (hi : i ≤ c.v.length) (hM : (c.v.length - i) * 40 + rk Y ≤ M) (hn : c.v.length - i < n) : OT (c.step p n Y i) fun _ j => i + sI Y ≤ j ∧ j ≤ c.v.length := by
 have E : ∀ Y q, rk Y = q → sI Y = 1 → okT Y → ∀ {j}, j ≤ c.v.length → (c.v.length - j) * 40 + q < M → OT (p Y j) fun _ k => j < k ∧ k ≤ c.v.length := fun Y q h1 h2 h3 j hj hm => (ht Y j h3 hj (by omega)).mono fun x k h => by rw [h2] at h; omega
 have Z : ∀ Y q, rk Y = q → okT Y → ∀ {j}, j ≤ c.v.length → (c.v.length - j) * 40 + q < M → OT (p Y j) fun _ k => j ≤ k ∧ k ≤ c.v.length := fun Y q h1 h3 j hj hm => (ht Y j h3 hj (by omega)).mono fun x k h => by omega
 have fin : ∀ {o : Out Nd}, sI Y = 1 → (OT o fun x j => i < j ∧ j ≤ c.v.length) → OT o fun x j => i + sI Y ≤ j ∧ j ≤ c.v.length := fun h1 h => h.mono fun x j hx => by rw [h1]; omega
 cases Y with
 | expr =>
  have hM : (c.v.length - i) * 40 + 18 ≤ M := hM
  refine fin rfl (.bind (E .assign 17 rfl rfl trivial hi (by omega)) fun x j hx => .ite (fun h => ?_) fun _ => .ok hx)
  exact .bind (commas_tm hc (i0 := i) (fun j h1 hj => E .assign 17 rfl rfl trivial hj (by omega)) n [x] j (by omega) hx.2 (by omega)) fun l k hk => .ok (by omega)
 | assign =>
  have hM : (c.v.length - i) * 40 + 17 ≤ M := hM
  refine fin rfl (.bind (E .choice 16 rfl rfl trivial hi (by omega)) fun x j hx => ?_)
  split
  ·rename_i u hu
   have := first_lt hc hu
   exact .bind (E .assign 17 rfl rfl trivial (show j + 1 ≤ c.v.length by omega) (by omega)) fun y k hk => .ok (by omega)
  ·exact .ok hx
 | choice =>
  have hM : (c.v.length - i) * 40 + 16 ≤ M := hM
  refine fin rfl (.bind (E (.binary 0) 15 rfl rfl (Nat.zero_le _) hi (by omega)) fun x j hx => .ite (fun h => ?_) fun _ => .ok hx)
  have := hc.lt h
  exact .bind (E .expr 18 rfl rfl trivial (show j + 1 ≤ c.v.length by omega) (by omega)) fun y k hk => .want hc fun h2 => .bind (E .choice 16 rfl rfl trivial (show k + 1 ≤ c.v.length by omega) (by omega)) fun z q hq => .ok (by omega)
 | binary k =>
  have hM : (c.v.length - i) * 40 + (15 - k) ≤ M := hM
  have hk10 : k ≤ 10 := hY
  have key : k ≠ 10 → ∀ (m : Nat) (x : Nd) (j : Nat), i < j → j ≤ c.v.length → c.v.length - j < m → OT (c.binF p k (c.place i) m x j) fun _ j => i < j ∧ j ≤ c.v.length := by
   intro hk m
   induction m with
   | zero => intro x j _ _ _; omega
   | succ m ih =>
    intro x j h1 h2 h3
    unfold Cx.binF
    split
    ·exact .ok ⟨h1, h2⟩
    ·rename_i u hu
     have := first_lt hc hu
     exact .bind (E (.binary (k + 1)) (15 - (k + 1)) rfl rfl (show k + 1 ≤ 10 by omega) (show j + 1 ≤ c.v.length by omega) (by omega)) fun y q hq => ih _ _ (by omega) (by omega) (by omega)
  refine fin rfl (.ite (fun h => E .cast 4 rfl rfl trivial hi (by omega)) fun hk => .bind (E (.binary (k + 1)) (15 - (k + 1)) rfl rfl (show k + 1 ≤ 10 by omega) hi (by omega)) fun x j hx => key hk n x j hx.1 hx.2 (by omega))
 | cast =>
  have hM : (c.v.length - i) * 40 + 4 ≤ M := hM
  refine fin rfl (.ite (fun h => ?_) fun _ => E .unary 3 rfl rfl trivial hi (by omega))
  have := ahead_lt hc h
  exact .bind (type_tm hc (show i + 1 ≤ c.v.length by omega) .casted).1 fun t j ht => .want hc fun h2 => .bind (E .cast 4 rfl rfl trivial (show j + 1 ≤ c.v.length by omega) (by omega)) fun x q hq => .ok (by omega)
 | unary =>
  have hM : (c.v.length - i) * 40 + 3 ≤ M := hM
  refine fin rfl (.ite (fun h => ?_) fun _ => ?_)
  ·have := hc.lt h
   refine .ite (fun h => ?_) fun _ => .bind (E .unary 3 rfl rfl trivial (show i + 1 ≤ c.v.length by omega) (by omega)) fun x j hx => .ok (by omega)
   have := ahead_lt hc h
   exact .bind (type_tm hc (show i + 2 ≤ c.v.length by omega) .casted).1 fun t j ht => .want hc fun h2 => .ok (by omega)
  ·split
   ·rename_i u hu
    have := first_lt hc hu
    exact .bind (E .cast 4 rfl rfl trivial (show i + 1 ≤ c.v.length by omega) (by omega)) fun x j hx => .ok (by omega)
   ·exact E .post 2 rfl rfl trivial hi (by omega)
 | post =>
  have hM : (c.v.length - i) * 40 + 2 ≤ M := hM
  have key : ∀ (m : Nat) (x : Nd) (j : Nat), i < j → j ≤ c.v.length → c.v.length - j < m → OT (c.postF p (c.place i) m x j) fun _ j => i < j ∧ j ≤ c.v.length := by
   intro m
   induction m with
   | zero => intro x j _ _ _; omega
   | succ m ih =>
    intro x j h1 h2 h3
    unfold Cx.postF
    refine .ite (fun h => .bind (E (.args x (c.place i)) 1 rfl rfl trivial h2 (by omega)) fun y q hq => ih _ _ (by omega) (by omega) (by omega)) fun _ => .ite (fun h => ?_) fun _ => .ite (fun h => .ite (fun h4 => ?_) fun _ => .bad) fun _ => .ite (fun h => ?_) fun _ => .ok ⟨h1, h2⟩
    ·have := hc.lt h
     exact .bind (E .expr 18 rfl rfl trivial (show j + 1 ≤ c.v.length by omega) (by omega)) fun y q hq => .want hc fun h5 => ih _ _ (by omega) (by omega) (by omega)
    ·have := kind_lt hc h4 (by decide)
     exact ih _ _ (by omega) (by omega) (by omega)
    ·have := among_lt hc h
     exact ih _ _ (by omega) (by omega) (by omega)
  exact fin rfl (.bind (E .primary 1 rfl rfl trivial hi (by omega)) fun x j hx => key n x j hx.1 hx.2 (by omega))
 | primary =>
  have hM : (c.v.length - i) * 40 + 1 ≤ M := hM
  refine fin rfl (.ite (fun h => ?_) fun _ => .ite (fun h => ?_) fun _ => .ite (fun h => ?_) fun _ => .ite (fun h => ?_) fun _ => .want hc fun h1 => .bind (E .expr 18 rfl rfl trivial (show i + 1 ≤ c.v.length by omega) (by omega)) fun x j hx => .want hc fun h2 => .ok (by omega))
  ·have := kind_lt hc h (by decide); exact .ok (by omega)
  ·have := kind_lt hc h (by decide); exact .ok (by omega)
  ·have := kind_lt hc h (by decide); exact .ok (by omega)
  ·have := kind_lt hc h (by decide)
   have := strs_le hc (c.v.length - (i + 1)) (i + 1) (c.text i) (by omega)
   exact .ok (by omega)
 | value =>
  have hM : (c.v.length - i) * 40 + 18 ≤ M := hM
  have key : ∀ (m : Nat) (L : List Nd) (j : Nat), i < j → j ≤ c.v.length → c.v.length - j < m → OT (c.valueF p m L j) fun _ k => j ≤ k ∧ k ≤ c.v.length := by
   intro m
   induction m with
   | zero => intro L j _ _ _; omega
   | succ m ih =>
    intro L j hij hj hm
    unfold Cx.valueF
    refine .ite (fun h => .ok (by omega)) fun _ => .bind (E .value 18 rfl rfl trivial hj (by omega)) fun x k hk => .ite (fun h => ?_) fun _ => .ok (by omega)
    have := hc.lt h
    exact (ih (L ++ [x]) (k + 1) (by omega) this (by omega)).mono fun l q hq => by omega
  refine fin rfl (.ite (fun h => ?_) fun _ => E .assign 17 rfl rfl trivial hi (by omega))
  have := hc.lt h
  exact .bind (key n [] (i + 1) (by omega) this (by omega)) fun l j hl => .want hc fun h2 => .ok (by omega)
 | initial =>
  have hM : (c.v.length - i) * 40 + 19 ≤ M := hM
  exact fin rfl (.bind (E .value 18 rfl rfl trivial hi (by omega)) fun x j hx => .ok (by omega))
 | sizes =>
  have hM : (c.v.length - i) * 40 + 1 ≤ M := hM
  have key : ∀ (m : Nat) (L : List Nd) (j : Nat), i ≤ j → j ≤ c.v.length → c.v.length - j < m → OT (c.sizesF p m L j) fun _ k => j ≤ k ∧ k ≤ c.v.length := by
   intro m
   induction m with
   | zero => intro L j _ _ _; omega
   | succ m ih =>
    intro L j hij hj hm
    unfold Cx.sizesF
    refine .ite (fun h => ?_) fun _ => .ok (by omega)
    have hlt := hc.lt h
    exact .bind (R := fun l k => j + 1 ≤ k ∧ k ≤ c.v.length) (.ite (fun h => .ok ⟨Nat.le_refl _, hlt⟩) fun _ => .bind (E .expr 18 rfl rfl trivial (show j + 1 ≤ c.v.length by omega) (by omega)) fun x k hk => .ok (by omega)) fun l k hk => .want hc fun h2 => (ih _ (k + 1) (by omega) (by omega) (by omega)).mono fun l2 q hq => by omega
  exact .bind (key n [] i (Nat.le_refl _) hi hn) fun l j hl => .ok hl
 | args f fr =>
  have hM : (c.v.length - i) * 40 + 1 ≤ M := hM
  refine fin rfl ?_
  show OT (c.argsS p n f fr i) _
  unfold Cx.argsS
  exact .want hc fun h1 => .bind (R := fun l k => i + 1 ≤ k ∧ k ≤ c.v.length) (.ite (fun h => .ok ⟨Nat.le_refl _, h1⟩) fun _ => .bind (E .assign 17 rfl rfl trivial (show i + 1 ≤ c.v.length by omega) (by omega)) fun x j hx => (commas_tm hc (i0 := i) (fun j h1 hj => E .assign 17 rfl rfl trivial hj (by omega)) n [f, x] j (by omega) hx.2 (by omega)).mono fun l k hk => by omega) fun l k hk => .want hc fun h2 => .ok (by omega)
 | dclr b =>
  have hM : (c.v.length - i) * 40 + 1 ≤ M := hM
  refine fin rfl ?_
  show OT (c.dclrS p b i) _
  unfold Cx.dclrS
  simp only
  have h1 := skip_le (c := c) (q := fun j => c.is j ⟨#[42]⟩) hi
  generalize c.skip (fun j => c.is j ⟨#[42]⟩) i = q at *
  refine .ite (fun hk => ?_) fun _ => .bad
  have hlt := kind_lt hc hk (by decide)
  refine .bind (Z .sizes 1 rfl trivial (show q + 1 ≤ c.v.length by omega) (by omega)) fun l j hl => ?_
  refine .bind (R := fun l k => q + 1 ≤ k ∧ k ≤ c.v.length) (.ite (fun h => ?_) fun _ => .ok (by omega)) fun l k hk => .ok (by omega)
  have := hc.lt h.2
  exact .bind (E .initial 19 rfl rfl trivial (show j + 1 ≤ c.v.length by omega) (by omega)) fun x k hk => .ok (by omega)
 | dclrs b =>
  have hM : (c.v.length - i) * 40 + 2 ≤ M := hM
  exact fin rfl (.bind (E (.dclr b) 1 rfl rfl trivial hi (by omega)) fun x j hx => .bind (commas_tm hc (i0 := i) (fun j h1 hj => E (.dclr b) 1 rfl rfl trivial hj (by omega)) n [x] j (by omega) hx.2 (by omega)) fun l k hk => .want hc fun h2 => .ok (by omega))
 | decl m =>
  have hM : (c.v.length - i) * 40 + 1 ≤ M := hM
  have h1 := words_le hc wordsL (c.v.length - i) i ⟨#[]⟩ hi
  have h1' : i ≤ (c.words wordsL i).2 ∧ (c.words wordsL i).2 ≤ c.v.length := h1
  exact fin rfl (.bind (type_tm hc h1'.2 m).2 fun t j ht => .bind (E (.dclrs true) 2 rfl rfl trivial ht.2 (by omega)) fun l k hk => .ok (by omega))
 | stat =>
  have hM : (c.v.length - i) * 40 + 20 ≤ M := hM
  have one : ∀ {u : ByteArray}, c.is i u = true → i + 1 ≤ c.v.length := fun h => hc.lt h
  refine fin rfl ?_
  show OT (c.statS p i) _
  unfold Cx.statS
  have M : ∀ {j}, i < j → j ≤ c.v.length → OT (p .marked j) fun x k => j ≤ k ∧ k ≤ c.v.length := fun h hj => Z .marked 21 rfl trivial hj (by omega)
  have SS : ∀ {j}, i < j → j ≤ c.v.length → OT (p .stat j) fun x k => j < k ∧ k ≤ c.v.length := fun h hj => E .stat 20 rfl rfl trivial hj (by omega)
  have NN : ∀ {j}, i < j → j ≤ c.v.length → OT (p .nested j) fun x k => j < k ∧ k ≤ c.v.length := fun h hj => E .nested 1 rfl rfl trivial hj (by omega)
  have XX : ∀ {j}, i < j → j ≤ c.v.length → OT (p .expr j) fun x k => j < k ∧ k ≤ c.v.length := fun h hj => E .expr 18 rfl rfl trivial hj (by omega)
  refine .ite (fun h => ?_) fun _ => .ite (fun h => ?_) fun _ => .ite (fun h => E .block 1 rfl rfl trivial hi (by omega)) fun _ => .ite (fun h => .ok (by have := one h; omega)) fun _ => .ite (fun h => ?_) fun _ => .ite (fun h => ?_) fun _ => .ite (fun h => ?_) fun _ => .ite (fun h => ?_) fun _ => .ite (fun h => (E (.loop (c.place i)) 1 rfl rfl trivial (one h) (by have := one h; omega)).mono fun x j hx => by omega) fun _ => .ite (fun h => ?_) fun _ => .ite (fun h => ?_) fun _ => .ite (fun h => ?_) fun _ => .ite (fun h => ?_) fun _ => E (.other (c.place i)) 19 rfl rfl trivial hi (by omega)
  ·have := kind_lt hc h.1 (by decide)
   exact .want hc fun h1 => .ok (by omega)
  ·have := kind_lt hc h.1 (by decide)
   exact .want hc fun h1 => .ok (by omega)
  ·exact .bind (NN (by omega) (one h)) fun x j hx => .bind (SS (by omega) hx.2) fun y k hy => .ite (fun h2 => .bind (SS (by omega) (hc.lt h2)) fun z q hz => .ok (by omega)) fun _ => .ok (by omega)
  ·exact .bind (NN (by omega) (one h)) fun x j hx => .bind (SS (by omega) hx.2) fun y k hy => .ok (by omega)
  ·exact .bind (NN (by omega) (one h)) fun x j hx => .bind (SS (by omega) hx.2) fun y k hy => .ok (by omega)
  ·exact .bind (SS (by omega) (one h)) fun x j hx => .want hc fun h1 => .bind (NN (by omega) (show j + 1 ≤ c.v.length by omega)) fun y k hy => .want hc fun h2 => .ok (by omega)
  ·exact .bind (XX (by omega) (one h)) fun x j hx => .want hc fun h1 => .bind (M (by omega) (show j + 1 ≤ c.v.length by omega)) fun y k hy => .ok (by omega)
  ·exact .want hc fun h1 => .bind (M (by omega) (show i + 1 + 1 ≤ c.v.length by omega)) fun y k hy => .ok (by omega)
  ·exact .ite (fun h2 => .want hc fun h3 => .ok (by omega)) fun _ => .bad
  ·exact .bind (R := fun l k => i + 1 ≤ k ∧ k ≤ c.v.length) (.ite (fun h2 => .ok ⟨Nat.le_refl _, one h⟩) fun _ => .bind (XX (by omega) (one h)) fun x k hk => .ok (by omega)) fun l k hk => .want hc fun h2 => .ok (by omega)
 | block =>
  have hM : (c.v.length - i) * 40 + 1 ≤ M := hM
  have key : ∀ (m : Nat) (L : List Nd) (j : Nat), i < j → j ≤ c.v.length → c.v.length - j < m → OT (c.blockF p m L j) fun _ k => j ≤ k ∧ k ≤ c.v.length := by
   intro m
   induction m with
   | zero => intro L j _ _ _; omega
   | succ m ih =>
    intro L j hij hj hm
    unfold Cx.blockF
    exact .ite (fun h => .ok (by omega)) fun _ => .bind (E .stat 20 rfl rfl trivial hj (by omega)) fun x k hk => (ih _ k (by omega) hk.2 (by omega)).mono fun l q hq => by omega
  refine fin rfl ?_
  show OT (c.blockS p n i) _
  unfold Cx.blockS
  exact .want hc fun h1 => .bind (key n [] (i + 1) (by omega) h1 (by omega)) fun l j hl => .want hc fun h2 => .ok (by omega)
 | other fr =>
  have hM : (c.v.length - i) * 40 + 19 ≤ M := hM
  refine fin rfl ?_
  show OT (c.otherS p fr i) _
  unfold Cx.otherS
  refine .ite (fun h => ?_) fun _ => .ite (fun h => ?_) fun _ => .ite (fun h => ?_) fun _ => .ite (fun h => E (.decl .typed) 1 rfl rfl trivial hi (by omega)) fun _ => .bind (E .expr 18 rfl rfl trivial hi (by omega)) fun x j hx => .want hc fun h2 => .ok (by omega)
  ·have := sg_lt hc h.2
   exact .bind (Z .marked 21 rfl trivial (show i + 2 ≤ c.v.length by omega) (by omega)) fun x j hx => .ok (by omega)
  ·exact .bind (E (.used true) 1 rfl rfl trivial hi (by omega)) fun x j hx => .bind (E .stat 20 rfl rfl trivial hx.2 (by omega)) fun y k hy => .ok (by omega)
  ·exact .bind (E (.used false) 1 rfl rfl trivial hi (by omega)) fun x j hx => .ok (by omega)
 | loop fr =>
  have hM : (c.v.length - i) * 40 + 1 ≤ M := hM
  refine fin rfl ?_
  show OT (c.loopS p fr i) _
  unfold Cx.loopS
  have H : ∀ (u : ByteArray) {j}, i < j → j ≤ c.v.length → OT (c.perhaps p u j) fun l k => j ≤ k ∧ k ≤ c.v.length := fun u j h0 hj => .ite (fun h => .ok (by omega)) fun _ => .bind (E .expr 18 rfl rfl trivial hj (by omega)) fun x k hk => .ok (by omega)
  exact .want hc fun h1 => .bind (R := fun l k => i + 1 ≤ k ∧ k ≤ c.v.length) (.ite (fun h => .bind (E (.decl .typed) 1 rfl rfl trivial (show i + 1 ≤ c.v.length by omega) (by omega)) fun d k hk => .ok (by omega)) fun _ => .bind (H _ (by omega) (show i + 1 ≤ c.v.length by omega)) fun l k hk => .want hc fun h2 => .ok (by omega)) fun l j hl => .bind (H _ (by omega) hl.2) fun t k hk => .want hc fun h2 => .bind (H _ (by omega) (show k + 1 ≤ c.v.length by omega)) fun u q hq => .want hc fun h3 => .bind (E .stat 20 rfl rfl trivial (show q + 1 ≤ c.v.length by omega) (by omega)) fun x m hm => .ok (by omega)
 | marked =>
  have hM : (c.v.length - i) * 40 + 21 ≤ M := hM
  exact .ite (fun h => .ok ⟨Nat.le_refl _, hi⟩) fun _ => (E .stat 20 rfl rfl trivial hi (by omega)).mono fun x j hx => ⟨by show i + 0 ≤ j; omega, hx.2⟩
 | nested =>
  have hM : (c.v.length - i) * 40 + 1 ≤ M := hM
  refine fin rfl ?_
  show OT (c.nestedS p i) _
  unfold Cx.nestedS
  exact .want hc fun h1 => .bind (E .expr 18 rfl rfl trivial (show i + 1 ≤ c.v.length by omega) (by omega)) fun x j hx => .want hc fun h2 => .ok (by omega)
 | used b =>
  have hM : (c.v.length - i) * 40 + 1 ≤ M := hM
  refine fin rfl ?_
  show OT (c.usedS p b i) _
  unfold Cx.usedS
  refine .ite (fun h => .ite (fun h2 => ?_) fun _ => .ite (fun _ => .bad) fun _ => ?_) fun _ => .bad
  ·have := hc.lt h2
   exact (E (.args (c.nodeN 50 (c.text i) (c.place i) (i + 1) []) (c.place i)) 1 rfl rfl trivial (show i + 1 ≤ c.v.length by omega) (by omega)).mono fun x j hx => by omega
  ·have := kind_lt hc h (by decide)
   exact .ok (by omega)
theorem tm_run (hc : c.ok) : ∀ n, TM c (c.run n) n
 | 0 => fun Y j h1 h2 h3 => by omega
 | n + 1 => fun Y j h1 h2 h3 => step_tm hc (tm_run hc n) h1 h2 (by omega) (by
  have : 1 ≤ rk Y := by
   cases Y with
   | binary k => have : k ≤ 10 := h1; show 1 ≤ 15 - k; omega
   | _ => exact Nat.le_of_ble_eq_true rfl
  omega)
theorem fields_tm (hc : c.ok) (hn : c.v.length * 40 + 30 ≤ n) : ∀ (m : Nat) (L : List Nd) (j : Nat), j ≤ c.v.length → c.v.length - j < m → OT (c.fieldsF (c.run n) m L j) fun _ k => j ≤ k ∧ k ≤ c.v.length
 | 0, L, j, hj, h => by omega
 | m + 1, L, j, hj, hm => by
  unfold Cx.fieldsF
  refine .ite (fun h => .ok (by omega)) fun _ => .bind (type_tm hc hj .always).2 fun t k ht => .bind ((tm_run hc n).at (.dclrs false) k trivial ht.2 (by show _ + 2 < _; omega)) fun l q hq => ?_
  have hq1 : k + 1 ≤ q := hq.1
  exact (fields_tm hc hn m _ q hq.2 (by omega)).mono fun l2 r hr => by omega
theorem param_tm (hc : c.ok) (hn : c.v.length * 40 + 30 ≤ n) {j : Nat} (hj : j ≤ c.v.length) : OT (c.paramS (c.run n) j) fun _ k => j < k ∧ k ≤ c.v.length := by
 unfold Cx.paramS
 refine .bind (type_tm hc hj .always).1 fun t k ht => .bind (R := fun ps q => k ≤ q ∧ q ≤ c.v.length) (.ite (fun hk => ?_) fun _ => .ok ⟨Nat.le_refl _, ht.2⟩) fun ps q hq => .ok (by omega)
 have := kind_lt hc hk (by decide)
 exact .bind ((tm_run hc n).at .sizes (k + 1) trivial (by omega) (by show _ + 1 < _; omega)) fun l q hl => .ok ⟨by have : k + 1 + 0 ≤ q := hl.1; omega, hl.2⟩
theorem params_tm (hc : c.ok) (hn : c.v.length * 40 + 30 ≤ n) : ∀ (m : Nat) (L : List Nd) (j : Nat), j ≤ c.v.length → c.v.length - j < m → OT (c.paramsF (c.run n) m L j) fun _ k => j ≤ k ∧ k ≤ c.v.length
 | 0, L, j, hj, h => by omega
 | m + 1, L, j, hj, hm => by
  unfold Cx.paramsF
  refine .ite (fun h => .ok (by have := hc.lt h.2; omega)) fun _ => .bind (param_tm hc hn hj) fun x k hk => .ite (fun h => ?_) fun _ => .ok (by omega)
  have := hc.lt h
  exact (params_tm hc hn m _ (k + 1) this (by omega)).mono fun l2 r hr => by omega
theorem alt_nf (hc : c.ok) (hn : c.v.length * 40 + 30 ≤ n) {i : Nat} (hi : i < c.v.length) : ∀ q, c.altF (c.run n) n q i ≠ .fuel
 | 0 => by
  show c.typedefS (c.run n) i ≠ .fuel
  unfold Cx.typedefS
  refine OT.nf (R := fun _ _ => True) (.want hc fun h1 => .bind (type_tm hc (show i + 1 ≤ c.v.length by omega) .always).2 fun t j ht => .bind ((tm_run hc n).at (.dclr false) j trivial ht.2 (by show _ + 1 < _; omega)) fun x k hk => .want hc fun h2 => .ok trivial)
 | 1 => by
  show c.structS (c.run n) n i ≠ .fuel
  unfold Cx.structS
  refine OT.nf (R := fun _ _ => True) (.want hc fun h1 => .ite (fun hk => .want hc fun h2 => .bind (fields_tm hc hn n [] _ (by omega) (by omega)) fun l k hk => .want hc fun h3 => .want hc fun h4 => .ok trivial) fun _ => .bad)
 | 2 => by
  show c.funcS (c.run n) n i ≠ .fuel
  have h1 := words_le hc wordsL (c.v.length - i) i ⟨#[]⟩ (by omega)
  have h1' : i ≤ (c.words wordsL i).2 ∧ (c.words wordsL i).2 ≤ c.v.length := h1
  unfold Cx.funcS
  refine OT.nf (R := fun _ _ => True) (.bind (type_tm hc h1'.2 .always).1 fun t k ht => .ite (fun hk => .want hc fun h2 => .bind (R := fun _ q => q ≤ c.v.length) (show OT (c.paramsS (c.run n) n (k + 1 + 1)) _ from .ite (fun h => .ok (by omega)) fun _ => .ite (fun h => .ok (by rw [Bool.and_eq_true] at h; have := hc.lt h.1; omega)) fun _ => (params_tm hc hn n [] _ (by omega) (by omega)).mono fun l q hq => hq.2) fun ps q hq => .want hc fun h3 => .ite (fun h4 => .bind ((tm_run hc n).at .block (q + 1) trivial (by omega) (by show _ + 1 < _; omega)) fun b r hr => .ok trivial) fun _ => .bad) fun _ => .bad)
 | 3 => by
  show c.run n (.decl .always) i ≠ .fuel
  exact ((tm_run hc n).at (.decl .always) i trivial (by omega) (by show _ + 1 < _; omega)).1
 | 4 => by
  show c.declarerS (c.run n) i ≠ .fuel
  unfold Cx.declarerS
  refine OT.nf (R := fun _ _ => True) (.ite (fun h => .bind ((tm_run hc n).at (.used true) i trivial (by omega) (by show _ + 1 < _; omega)) fun x j hx => .ok trivial) fun _ => .bad)
 | q + 5 => by
  show c.emptyS i ≠ .fuel
  unfold Cx.emptyS
  refine OT.nf (R := fun _ _ => True) (.want hc fun h1 => .ok trivial)
theorem itemG_nf (hc : c.ok) (hn : c.v.length * 40 + 30 ≤ n) {i : Nat} (hi : i < c.v.length) : ∀ m, c.itemG (c.run n) n m i ≠ .fuel
 | 0 => by unfold Cx.itemG; simp
 | m + 1 => by
  unfold Cx.itemG
  split
  ·rename_i h; exact absurd h (alt_nf hc hn hi _)
  ·exact itemG_nf hc hn hi m
  ·split <;> simp
end
theorem parseF_nf {n : Nat} : ∀ (m : Nat) (c : Cx) (at_ : Nat), c.ok → c.v.length * 40 + 30 ≤ n → c.v.length - at_ ≤ m → parseF n m c at_ ≠ .fuel
 | 0, c, at_, hc, hn, hm => by unfold parseF; rw [if_neg (by omega)]; simp
 | m + 1, c, at_, hc, hn, hm => by
  unfold parseF
  split
  ·rename_i h
   split
   ·rename_i h2; exact absurd h2 (itemG_nf hc hn h 6)
   ·simp
   ·rename_i x j h2
    have hz := item_sz (n := n) hc h 6 x j h2
    obtain ⟨T, hT⟩ := after_ty c x
    have hok : (c.after x).ok := by rw [hT]; exact ok_ty hc T
    have hv : (c.after x).v.length = c.v.length := by rw [after_v]
    have := parseF_nf (n := n) m (c.after x) j hok (by omega) (by omega)
    split
    ·rename_i h3; exact absurd h3 this
    ·simp
    ·simp
  ·simp
end Go.Pv

namespace Go.Pv
set_option linter.unusedVariables false
set_option linter.unusedSimpArgs false
structure TokOk (x : Tk) : Prop where
 kind : x.kind ≠ 0
 text : x.text ≠ ⟨#[]⟩
 sign : x.text ∈ plainS → x.kind = 6
def Asc : Int → List Tk → Prop
 | _, [] => True
 | i, x :: r => i ≤ x.at_ ∧ Asc (x.at_ + 1) r
theorem Asc.le {i j : Int} {l : List Tk} (h : Asc i l) (hj : j ≤ i) : Asc j l := by
 cases l with
 | nil => trivial
 | cons x r => exact ⟨Int.le_trans hj h.1, h.2⟩
theorem toksF_form (t : ByteArray) : ∀ (k i : Nat) (c : Bool), i ≤ t.size → t.size + 1 - i ≤ k → ∃ (ws : List Tk) (e : Tk), toksF keysL signsL t k i c = ws ++ [e] ∧ e.kind = 0 ∧ ws.length + i ≤ t.size ∧ Asc i ws ∧ ∀ x ∈ ws, TokOk x ∧ (i : Int) ≤ x.at_ ∧ x.at_ < (t.size : Nat)
 | 0, i, c, hi, hk => by omega
 | k + 1, i, c, hi, hk => by
  have hbi : i ≤ (bef t i c).1 ∧ (bef t i c).1 ≤ t.size := befF_inn t _ i c hi
  rw [toksF_succ, restF]
  by_cases he : (bef t i c).1 = t.size
  ·rw [if_pos he]
   exact ⟨[], _, rfl, rfl, by simp; exact hi, trivial, by simp⟩
  ·rw [if_neg he]
   have hin := tokE_in keysL signsL (bef t i c).2 (t := t) (i := (bef t i c).1) (by omega)
   obtain ⟨ws, e, h1, h2, h3, h5, h4⟩ := toksF_form t k (tokE keysL signsL t (bef t i c).1 (bef t i c).2).2 false hin.2 (by omega)
   refine ⟨_ :: ws, e, by rw [h1]; rfl, h2, by simp; omega, ⟨by show (i : Int) ≤ ((bef t i c).1 : Nat); omega, h5.le (by show (((bef t i c).1 : Nat) : Int) + 1 ≤ _; omega)⟩, fun x hx => ?_⟩
   rcases List.mem_cons.1 hx with rfl | hx
   ·refine ⟨⟨?_, ?_, ?_⟩, ?_, ?_⟩
    ·intro h
     have h : ((tokE keysL signsL t (bef t i c).1 (bef t i c).2).1 : Int) = 0 := h
     have : (tokE keysL signsL t (bef t i c).1 (bef t i c).2).1 ≠ 0 := by
      unfold tokE
      repeat' split
      all_goals simp
     omega
    ·intro h
     have h : t.extract (bef t i c).1 (tokE keysL signsL t (bef t i c).1 (bef t i c).2).2 = ⟨#[]⟩ := h
     have hs := extract_size (t := t) (a := (bef t i c).1) (e := (tokE keysL signsL t (bef t i c).1 (bef t i c).2).2) (by omega) hin.2
     rw [h] at hs
     have : (⟨#[]⟩ : ByteArray).size = 0 := rfl
     omega
    ·intro h
     have := tok_sign (bef t i c).2 (by omega : (bef t i c).1 < t.size) _ h rfl
     show ((tokE keysL signsL t (bef t i c).1 (bef t i c).2).1 : Int) = 6
     omega
    ·show (i : Int) ≤ ((bef t i c).1 : Nat)
     omega
    ·show (((bef t i c).1 : Nat) : Int) < (t.size : Nat)
     omega
   ·have := h4 x hx
    exact ⟨this.1, by omega, this.2.2⟩
@[reducible] def semi : ByteArray := ⟨#[59]⟩
@[reducible] def paro : ByteArray := ⟨#[40]⟩
def midF (u : ByteArray) : List Tk := (toksF keysL signsL (semi ++ u) (u.size + 1) 1 false).dropLast
attribute [irreducible] midF
def goW (f : Int → List Tk) : List Tk → List Tk
 | [] => []
 | x :: r => if x.kind = 7 then ⟨6, x.before, ⟨#[35]⟩, x.at_⟩ :: f (x.at_ + 1) else x :: goW f r
@[reducible] def shiftT (d : Int) (x : Tk) : Tk := ⟨x.kind, x.before, x.text, x.at_ + d⟩
def wordsF : Nat → ByteArray → Nat → List Tk
 | 0, _, _ => []
 | k + 1, s, p => goW (fun q => wordsF k s q.toNat) ((midF (s.extract p s.size)).map (shiftT ((p : Int) - 1)))
end Go.Pv

namespace Go.Pv
open Go.Proofs
set_option linter.unusedVariables false
set_option linter.unusedSimpArgs false
set_option maxRecDepth 100000
set_option maxHeartbeats 1000000
theorem toksF_sizeT (t : ByteArray) : ∀ (k i : Nat) (c : Bool), ∀ x ∈ toksF keysL signsL t k i c, x.text.size ≤ t.size
 | 0, i, c, x, hx => by simp [toksF] at hx
 | k + 1, i, c, x, hx => by
  rw [toksF_succ, restF] at hx
  split at hx
  ·rw [List.mem_singleton] at hx
   subst hx
   exact Nat.zero_le _
  ·rcases List.mem_cons.1 hx with rfl | hx
   ·show (t.extract _ _).size ≤ t.size
    rw [ByteArray.size_extract]; omega
   ·exact toksF_sizeT t k _ _ x hx
theorem allT_text (t : ByteArray) : ∀ x ∈ allT t, x.text.size ≤ t.size := toksF_sizeT t _ _ _
theorem allT_form (t : ByteArray) : ∃ (ws : List Tk) (e : Tk), allT t = ws ++ [e] ∧ e.kind = 0 ∧ ws.length ≤ t.size ∧ ∀ x ∈ ws, TokOk x := by
 obtain ⟨ws, e, h1, h2, h3, _, h5⟩ := toksF_form t (t.size + 1) 0 true (by omega) (by omega)
 exact ⟨ws, e, h1, h2, by omega, fun x hx => (h5 x hx).1⟩
theorem allT_len (t : ByteArray) : (allT t).length ≤ t.size + 1 := by
 obtain ⟨ws, e, h1, h2, h3, h4⟩ := allT_form t
 rw [h1, List.length_append, List.length_singleton]; omega
theorem allP_asc (n : Nat) : AscV n (allP n) := places_asc n
theorem tokV_allP {l : List Tk} {k : Nat} {x : Tk} (h : l[k]? = some x) : tokV l (allP l.length) k = x := by
 obtain ⟨hk, _⟩ := List.getElem?_eq_some_iff.1 h
 obtain ⟨q, h1, h2, h3⟩ := tokV_get (allP_asc l.length) (k := k) (by simpa [allP] using hk)
 have : q = k := by
  unfold allP at h1
  rw [List.getElem?_map, List.getElem?_range hk] at h1
  simp at h1
  omega
 subst this
 rw [h] at h3
 exact (Option.some.inj h3).symm
theorem site_allT {t : ByteArray} (hk : ∀ x ∈ allT t, x.kind ≠ 7) : SiteV (allT t) (allP (allT t).length) := by
 have key : ∀ k, k < (allP (allT t).length).length → ∃ x, (allT t)[k]? = some x ∧ tokV (allT t) (allP (allT t).length) k = x := fun k h => by
  have h : k < (allT t).length := by simpa [allP] using h
  exact ⟨_, List.getElem?_eq_getElem h, tokV_allP (List.getElem?_eq_getElem h)⟩
 refine ⟨allP_asc _, fun k h => ?_, fun k h => ?_⟩
 ·obtain ⟨x, h1, h2⟩ := key k h
  rw [h2]
  exact hk x (List.mem_of_getElem? h1)
 ·obtain ⟨x, h1, h2⟩ := key k (by omega)
  rw [h2]
  obtain ⟨ws, e, h3, _, _, h4⟩ := allT_form t
  have hlen : k + 1 < (allT t).length := by simpa [allP] using h
  rw [h3, List.length_append, List.length_singleton] at hlen
  rw [h3, List.getElem?_append_left (by omega)] at h1
  exact (h4 x (List.mem_of_getElem? h1)).kind
theorem file_c (t : ByteArray) (n : Nat) (ht : t.size ≤ 35000) (hn : t.size * 40 + 80 ≤ n) (hn9 : n ≤ 1000000000) (hk : ∀ x ∈ allT t, x.kind ≠ 7) (s : St) (hs : Vars s) : PCalls Tryz.prog 9 [.lit (.string t)] s (fun r s' => s' = s ∧ FRes (allT t) n r) := by
 have hl := allT_len t
 have hx := allT_text t
 refine file0_c t n hn9 (by omega) (by omega) hk (fun x h => by have := hx x h; omega) (site_allT hk) (fun k0 it => ?_) s hs
 have hpl : (allP (allT t).length).length = (allT t).length := by simp [allP]
 have hsl : (seenL (allT t) (allP (allT t).length)).length ≤ (allT t).length := by
  unfold seenL
  rw [List.length_map]
  have := sightF_len (allT t) (allP (allT t).length) (allP (allT t).length).length 0
  rw [hpl] at this
  show (sightF (allT t) (allP (allT t).length) (allP (allT t).length).length 0).length ≤ _
  rw [hpl]
  exact this
 have hok : (cxOf .any k0 (allT t) (allP (allT t).length) it).ok := cxOf_ok (allP_asc _) (by omega) (by omega) fun x h => by have := hx x h; omega
 refine parseF_nf _ _ _ hok ?_ (by show (seenL _ _).length - 0 ≤ _; omega)
 show (seenL _ _).length * 40 + 30 ≤ n
 omega
end Go.Pv

namespace Go.Pv
open Go.Proofs
set_option linter.unusedVariables false
set_option linter.unusedSimpArgs false
theorem toksF_sum (t : ByteArray) : ∀ (k i : Nat) (c : Bool), i ≤ t.size → ((toksF keysL signsL t k i c).map fun x => x.text.size).sum ≤ t.size - i
 | 0, i, c, hi => by simp [toksF]
 | k + 1, i, c, hi => by
  have hbi : i ≤ (bef t i c).1 ∧ (bef t i c).1 ≤ t.size := befF_inn t _ i c hi
  rw [toksF_succ, restF]
  split
  ·show ((⟨#[]⟩ : ByteArray).size + 0) ≤ _
   exact Nat.zero_le _
  ·have hin := tokE_in keysL signsL (bef t i c).2 (t := t) (i := (bef t i c).1) (by omega)
   have ih := toksF_sum t k (tokE keysL signsL t (bef t i c).1 (bef t i c).2).2 false hin.2
   rw [List.map_cons, List.sum_cons]
   have hs := extract_size (t := t) (a := (bef t i c).1) (e := (tokE keysL signsL t (bef t i c).1 (bef t i c).2).2) (by omega) hin.2
   show (t.extract _ _).size + _ ≤ _
   omega
theorem blank_le : ∀ b ∈ blanksL, b.size ≤ 12 := by decide +kernel
theorem outF_len (bl : Nat → ByteArray) (hb : ∀ j, bl j ∈ blanksL) : ∀ (l : List Tk) (j : Nat), (outF bl j l).length ≤ 12 * l.length + (l.map fun x => x.text.size).sum
 | [], j => Nat.le_refl _
 | x :: r, j => by
  have ih := outF_len bl hb r (j + 1)
  have h1 := blank_le _ (hb j)
  unfold outF
  rw [List.length_append, List.length_append, tl_len, tl_len, List.map_cons, List.sum_cons, List.length_cons]
  omega
theorem outF_snoc (bl : Nat → ByteArray) (x : Tk) : ∀ (l : List Tk) (j : Nat), outF bl j (l ++ [x]) = outF bl j l ++ ((bl (j + l.length)).data.toList ++ x.text.data.toList)
 | [], j => by simp [outF]
 | y :: r, j => by
  rw [List.cons_append]
  unfold outF
  rw [outF_snoc bl x r (j + 1), List.length_cons, show j + 1 + r.length = j + (r.length + 1) by omega]
  simp
def outT (bl : Nat → ByteArray) (t : ByteArray) : ByteArray := ⟨(outF bl 0 (allT t)).toArray⟩
theorem outT_size (bl : Nat → ByteArray) (hb : ∀ j, bl j ∈ blanksL) {t : ByteArray} (ht : t.size ≤ 2000) : (outT bl t).size ≤ 35000 := by
 have h1 := outF_len bl hb (allT t) 0
 have h2 := allT_len t
 have h3 : ((allT t).map fun x => x.text.size).sum ≤ t.size - 0 := toksF_sum t _ 0 true (Nat.zero_le _)
 have : (outT bl t).size = (outF bl 0 (allT t)).length := by unfold outT; show (outF bl 0 (allT t)).toArray.size = _; simp
 omega
theorem relexT (bl : Nat → ByteArray) (hb : ∀ j, bl j ∈ blanksL) {t : ByteArray} (hx : ∀ x ∈ allT t, x.kind ≠ 7 ∧ x.kind ≠ 8 ∧ x.text ≠ ⟨#[35]⟩) : (allT t).map kt = (allT (outT bl t)).map kt :=
 (relex t bl hb (t.size + 1) 0 true (Nat.zero_le _) (by omega) hx (outT bl t) 0 true 0 ((outT bl t).size + 1) (by unfold outT; simp [allT]) (Nat.zero_le _) (by omega)).symm
theorem line_kt {l l' : List Tk} (h : l.map kt = l'.map kt) (hk : ∀ x ∈ l, x.kind ≠ 7) : ∀ x ∈ l', x.kind ≠ 7 := by
 intro x hx hx7
 have : kt x ∈ l'.map kt := List.mem_map.2 ⟨x, hx, rfl⟩
 rw [← h] at this
 obtain ⟨y, hy, hyx⟩ := List.mem_map.1 this
 have : y.kind = x.kind := (Prod.mk.inj hyx).1
 exact hk y hy (by omega)
end Go.Pv

namespace Go.Pv
open Go.Proofs
set_option linter.unusedVariables false
set_option linter.unusedSimpArgs false
set_option maxRecDepth 100000
set_option maxHeartbeats 1000000
@[reducible] def bcells (b : List UInt8) : List (List PV) := b.map fun c => [.lit (.int .u8 c.toNat)]
end Go.Pv

namespace Go.Pv
open Go.Proofs
set_option linter.unusedVariables false
set_option linter.unusedSimpArgs false
set_option maxRecDepth 100000
set_option maxHeartbeats 1000000
theorem eqnodes_of (l : List Nd) (hl : l.length ≤ 1000000) (b : Bool) (h : ∀ y ∈ l, ∀ s : St, PCalls Tryz.prog 16 [encU y, encU y, .lit (.bool b)] s (fun r s' => s' = s ∧ r = .ret (.lit (.bool true)))) (s : St) :
  PCalls Tryz.prog 28 [.vec .any (l.map enc), .vec .any (l.map enc), .lit (.bool b)] s (fun r s' => s' = s ∧ r = .ret (.lit (.bool true))) := by
 refine PCalls.of Tryz.func28 rfl (by rfl) (by simp [Tryz.ntmps28]) ?_
 refine pwC_sound _ _ _ _ ?_
 simp [Tryz.ntmps28]
 refine PW.loop (fun n e s' => ∃ j : Nat, j + n = l.length ∧ e 0 = .vec .any (l.map enc) ∧ e 1 = .vec .any (l.map enc) ∧ e 2 = .lit (.bool b) ∧ e 7 = .lit (.int .i64 j) ∧ s = s') l.length ⟨0, by simp, by simp, by simp, by simp, by simp, rfl⟩ ?_
 rintro n e s' ⟨j, hj, e0, e1, e2, e7, rfl⟩
 refine pwC_sound _ _ _ _ ?_
 by_cases hlt : j < l.length
 ·have hg : l[j]? = some l[j] := List.getElem?_eq_getElem hlt
  simp [e0, e1, e2, e7, hlt, hg]
  refine PW.drawn (fun i => if i = 9 then 1 else 0) [0, 1, 2, 3, 4, 5, 6, 7, 8, 9, 10] mixed_ (fun _ _ _ _ h => h) (by kernel_rfl) ?_
  simp [e0, e1, e2, e7, hlt, hg]
  refine quiet_of (h l[j] (List.getElem_mem hlt) s) ?_
  simp [e0, e1, e2, e7, hlt, hg]
  rw [wrap_i64 (by omega) (by omega)]
  exact ⟨n - 1, by omega, j + 1, by omega, rfl⟩
 ·have hjl : j = l.length := by omega
  subst hjl
  simp [e0, e1, e2, e7]
theorem eqnode_c (x : Nd) (hx : x.size ≤ 1000000) (b : Bool) (s : St) : PCalls Tryz.prog 16 [encU x, encU x, .lit (.bool b)] s (fun r s' => s' = s ∧ r = .ret (.lit (.bool true))) := by
 have hll := x.len_lt
 have hN := eqnodes_of x.l (by omega) b (fun y hy s => eqnode_c y (by have := Nd.mem_lt hy; omega) b s)
 cases b
 all_goals
  refine PCalls.of Tryz.func16 rfl (by rfl) (by simp [Tryz.ntmps16]) ?_
  refine pwC_sound _ _ _ _ ?_
  simp +contextual (maxSteps := 1000000) [Tryz.ntmps16]
  intro i3 h3 i4 h43 h34 h4
  refine (hN _).mono ?_
  rintro _ _ ⟨rfl, rfl⟩
  simp [h3, h4, h43, h34]
termination_by x.size
decreasing_by exact Nd.mem_lt hy
end Go.Pv

namespace Go.Pv
open Go.Proofs
set_option linter.unusedVariables false
set_option linter.unusedSimpArgs false
def tS : ByteArray := ⟨#[105, 110, 116, 32, 102, 40, 105, 110, 116, 32, 97, 41, 32, 123, 32, 114, 101, 116, 117, 114, 110, 32, 97, 32, 43, 32, 49, 59, 32, 125, 10]⟩
def TT : List Tk := [⟨2, ⟨#[]⟩, ⟨#[105, 110, 116]⟩, 0⟩, ⟨1, ⟨#[32]⟩, ⟨#[102]⟩, 4⟩, ⟨6, ⟨#[]⟩, ⟨#[40]⟩, 5⟩, ⟨2, ⟨#[]⟩, ⟨#[105, 110, 116]⟩, 6⟩, ⟨1, ⟨#[32]⟩, ⟨#[97]⟩, 10⟩, ⟨6, ⟨#[]⟩, ⟨#[41]⟩, 11⟩, ⟨6, ⟨#[32]⟩, ⟨#[123]⟩, 13⟩, ⟨2, ⟨#[32]⟩, ⟨#[114, 101, 116, 117, 114, 110]⟩, 15⟩, ⟨1, ⟨#[32]⟩, ⟨#[97]⟩, 22⟩, ⟨6, ⟨#[32]⟩, ⟨#[43]⟩, 24⟩, ⟨3, ⟨#[32]⟩, ⟨#[49]⟩, 26⟩, ⟨6, ⟨#[]⟩, ⟨#[59]⟩, 27⟩, ⟨6, ⟨#[32]⟩, ⟨#[125]⟩, 29⟩, ⟨0, ⟨#[10]⟩, ⟨#[]⟩, 31⟩]
def XX : Nd := ⟨2, ⟨#[]⟩, 0, 0, 13, [⟨10, ⟨#[105, 110, 116]⟩, 0, 0, 1, []⟩, ⟨50, ⟨#[102]⟩, 0, 1, 2, []⟩, ⟨7, ⟨#[]⟩, 0, 3, 5, [⟨10, ⟨#[105, 110, 116]⟩, 0, 3, 4, []⟩, ⟨8, ⟨#[97]⟩, 0, 4, 5, []⟩]⟩, ⟨20, ⟨#[]⟩, 0, 6, 13, [⟨30, ⟨#[]⟩, 0, 7, 12, [⟨55, ⟨#[43]⟩, 0, 8, 11, [⟨50, ⟨#[97]⟩, 0, 8, 9, []⟩, ⟨51, ⟨#[49]⟩, 0, 10, 11, []⟩]⟩]⟩]⟩]⟩
set_option maxRecDepth 100000
theorem allT_S : allT tS = TT := by kernel_rfl
theorem seen_S : seenL TT (allP TT.length) = [0, 1, 2, 3, 4, 5, 6, 7, 8, 9, 10, 11, 12] := by kernel_rfl
theorem alt0_S (k0 : VK) (it : Nat) : (cxOf .any k0 TT (allP TT.length) it).altF ((cxOf .any k0 TT (allP TT.length) it).run 40) 40 0 0 = .bad := by kernel_rfl
theorem alt1_S (k0 : VK) (it : Nat) : (cxOf .any k0 TT (allP TT.length) it).altF ((cxOf .any k0 TT (allP TT.length) it).run 40) 40 1 0 = .bad := by kernel_rfl
theorem alt2_S (k0 : VK) (it : Nat) : (cxOf .any k0 TT (allP TT.length) it).altF ((cxOf .any k0 TT (allP TT.length) it).run 40) 40 2 0 = .ok XX 13 := by kernel_rfl
theorem lev_X : ¬ 60 < XX.lev := by
 have := Nd.lev_le XX
 have : XX.size = 11 := by simp [XX, Nd.size_eq]
 omega
theorem parse_S (k0 : VK) (it : Nat) : parseF 40 (seenL TT (allP TT.length)).length (cxOf .any k0 TT (allP TT.length) it) 0 = .ok [XX] 13 := by
 rw [seen_S]
 have hv : (cxOf .any k0 TT (allP TT.length) it).v = [0, 1, 2, 3, 4, 5, 6, 7, 8, 9, 10, 11, 12] := seen_S
 have h0 : (cxOf .any k0 TT (allP TT.length) it).itemS 40 0 = .ok XX 13 := by
  unfold Cx.itemS
  rw [Cx.itemG, alt0_S]
  show Cx.itemG _ _ _ 5 0 = _
  rw [Cx.itemG, alt1_S]
  show Cx.itemG _ _ _ 4 0 = _
  rw [Cx.itemG, alt2_S]
  show (if 60 < XX.lev then _ else _) = _
  rw [if_neg lev_X]
 show parseF 40 13 _ 0 = _
 unfold parseF
 rw [if_pos (by rw [hv]; decide), h0]
 have h2 : parseF 40 12 ((cxOf .any k0 TT (allP TT.length) it).after XX) 13 = .ok [] 13 := by
  unfold parseF
  rw [if_neg (by rw [after_v, hv]; decide)]
 show (match parseF 40 12 ((cxOf .any k0 TT (allP TT.length) it).after XX) 13 with | .fuel => Out.fuel | .bad => .bad | .ok l e => .ok (XX :: l) e) = _
 rw [h2]
end Go.Pv

namespace Go.Pv
open Go.Proofs
set_option linter.unusedVariables false
set_option linter.unusedSimpArgs false
set_option maxRecDepth 100000
set_option maxHeartbeats 1000000
def rootS : Nd := ⟨1, ⟨#[]⟩, 0, 0, 13, [XX]⟩
def X300 : Nd := ⟨55, ⟨#[43]⟩, 0, 8, 11, [⟨50, ⟨#[97]⟩, 0, 8, 9, []⟩, ⟨51, ⟨#[49]⟩, 0, 10, 11, []⟩]⟩
def X30 : Nd := ⟨30, ⟨#[]⟩, 0, 7, 12, [X300]⟩
def X3 : Nd := ⟨20, ⟨#[]⟩, 0, 6, 13, [X30]⟩
theorem fileS_c (s : St) (hs : Vars s) : PCalls Tryz.prog 9 [.lit (.string tS)] s (fun r s' => s' = s ∧ ∃ v, (∃ k1 : VK, v = .tup [toks .any TT, ints k1 (allP TT.length), encU rootS, .lit (.int .i64 0)]) ∧ r = .ret v) := by
 have hk : ∀ x ∈ allT tS, x.kind ≠ 7 := by rw [allT_S]; decide
 refine (file0_c tS 40 (by decide) (by decide) (by rw [allT_S]; decide) hk (by rw [allT_S]; decide) (site_allT hk) (fun k0 it => ?_) s hs).mono ?_
 ·rw [allT_S, parse_S]; simp
 rw [allT_S]
 rintro r s' ⟨rfl, k0, it, L, e, hp, h⟩
 rw [parse_S] at hp
 cases hp
 have hN : fileN (cxOf .any k0 TT (allP TT.length) it) [XX] 13 = rootS := by kernel_rfl
 rw [hN] at h
 have hz : rootS.size = 12 := by simp [rootS, XX, Nd.size_eq]
 rcases h with ⟨h, _⟩ | ⟨_, k1, rfl⟩
 ·omega
 ·exact ⟨rfl, _, ⟨k1, rfl⟩, rfl⟩
theorem awake05_c (s : St) (hs : Vars s) : PCalls Tryz.prog 25 [] s (fun r s' => s' = s ∧ r = .ret (.lit (.bool true))) := by
 refine PCalls.fun (D := []) ti_ok Tryz.func25 rfl (by kernel_rfl) ?_
 refine sc_pureR (ps := [.lit (.string tS)]) (R := fun v => ∃ k1 : VK, v = .tup [toks .any TT, ints k1 (allP TT.length), encU rootS, .lit (.int .i64 0)]) (fun s2 h => fileS_c s2 (hs.sub h)) rfl rfl ?_
 rintro _ ⟨k1, rfl⟩
 rintro (_ | _) h0
 ·exact absurd h0 (by decide)
 rintro (_ | _) h1
 ·exact absurd h1 (by decide)
 have el : ∀ (l : List Nd) (i : Nat) (y : Nd), l[i]? = some y → 0 ≤ ((i : Nat) : Int) ∧ (l.map enc)[((i : Nat) : Int).toNat]? = some (encU y) := fun l i y h => ⟨by omega, by rw [Int.toNat_natCast, List.getElem?_map, h]; exact congrArg some (enc_eq y)⟩
 refine ⟨encU XX, ⟨(el [XX] 0 XX rfl).1, (el [XX] 0 XX rfl).2, rfl⟩, ?_⟩
 rintro (_ | _) h2
 ·exact absurd h2 (by decide)
 refine ⟨encU XX, ⟨(el [XX] 0 XX rfl).1, (el [XX] 0 XX rfl).2, rfl⟩, ?_⟩
 rintro (_ | _) h3
 ·exact absurd h3 (by decide)
 refine ⟨encU XX, ⟨(el [XX] 0 XX rfl).1, (el [XX] 0 XX rfl).2, rfl⟩, ?_⟩
 refine ⟨encU X3, ⟨(el XX.l 3 X3 rfl).1, (el XX.l 3 X3 rfl).2, rfl⟩, ?_⟩
 refine ⟨encU X30, ⟨(el X3.l 0 X30 rfl).1, (el X3.l 0 X30 rfl).2, rfl⟩, ?_⟩
 refine ⟨encU X300, ⟨(el X30.l 0 X300 rfl).1, (el X30.l 0 X300 rfl).2, rfl⟩, ?_⟩
 rintro (_ | _) h4
 ·exact absurd h4 (by decide)
 exact ⟨rfl, rfl⟩
end Go.Pv

namespace Go.Pv
open Go.Proofs
set_option linter.unusedVariables false
set_option linter.unusedSimpArgs false
set_option maxRecDepth 100000
set_option maxHeartbeats 4000000
def kOf (sd : List Int) (j : Nat) : Nat := if sd.length = 0 then j else (sd.getD (j % sd.length) 0).toNat
def blK (k : Nat) : ByteArray := blanksL.getD (k % 7) ⟨#[32]⟩
def blOf (sd : List Int) (j : Nat) : ByteArray := blK (kOf sd j)
theorem blK_mem (k : Nat) : blK k ∈ blanksL := by
 have hl : k % 7 < blanksL.length := Nat.mod_lt _ (by decide)
 unfold blK
 rw [show blanksL.getD (k % 7) ⟨#[32]⟩ = blanksL[k % 7] by simp [List.getD, List.getElem?_eq_getElem hl]]
 exact List.getElem_mem hl
@[reducible] def bytesV (k : VK) (l : List Int) : PV := .vec k (l.map fun n => .lit (.int .u8 n))
theorem pw_sx {P : Program} {T : TI} {N : Nat} {D : Ord} {c : Code} {env : SE} {s : St} {e : Env} {Q : Exit → SE → SS → St → Prop} {Q' : Exit → Env → St → Prop} (hT : TIok P T) (hD : (dOk N c && dOkD D) = true) (hE : ERel (fun _ => 0) [] env e) (h : Pv.sx P T N [] D c env [] s Q) (hq : ∀ x e' s', LiftQ [] Q x e' s' → Q' x e' s') : PW P N c e s Q' := by
 rw [Bool.and_eq_true] at hD
 exact (sx_sound hT hD.2 c hD.1 _ _ _ _ h _ s e SRel.none hE).mono hq
theorem erel_nil {e : Env} {σ : Nat → Nat} {st : SS} : ERel σ st [] e := fun t v h => by cases h
theorem erel_cons {e : Env} {σ : Nat → Nat} {st : SS} {env : SE} {t : Nat} {p : PV} (h : e t = p) (hr : ERel σ st env e) : ERel σ st ((t, .av (.pv p)) :: env) e := by
 intro t' v hv
 unfold lk at hv
 cases hb : Nat.beq t t' with
 | true =>
  rw [hb] at hv
  have := Nat.eq_of_beq_eq_true hb
  cases hv
  subst this
  exact Or.inr h
 | false =>
  rw [hb] at hv
  exact hr t' v hv
theorem okS_of {α : Type} {o : Option α} {v : α} {K : α → Prop} (h : o = some v) (hK : K v) : okS o K := by subst h; exact hK
@[reducible] def pbE (t : ByteArray) (sd : List Int) (l : List Tk) (v : SV) (j : Nat) : SE := [(0, .av (.pv (.lit (.string t)))), (1, .av (.pv (bytesV .any sd))), (5, .av (.pv (toks .any l))), (7, v), (8, .av (.pv (.lit (.int .i64 (j : Nat)))))]
def QS (s : St) (t : ByteArray) (sd : List Int) (l : List Tk) : Exit → SE → SS → St → Prop := fun x env st b => match x with
 | .normal => b = s ∧ (∀ x ∈ l, x.kind ≠ 7 ∧ x.kind ≠ 8 ∧ x.text ≠ ⟨#[35]⟩) ∧ lk env 0 = some (.av (.pv (.lit (.string t)))) ∧ lk env 7 = some (.av (.own 0)) ∧ ∃ c cs, bcells (outF (blOf sd) 0 l) = c :: cs ∧ st[0]? = some (some (.lst 5 1 (c :: cs)))
 | .ret => b = s ∧ lk env 4 = some (.av (.pv (.lit (.bool true))))
 | _ => False
theorem outF_ne (sd : List Int) {l : List Tk} {j : Nat} (h : l ≠ []) : ∃ c cs, bcells (outF (blOf sd) j l) = c :: cs := by
 cases l with
 | nil => exact absurd rfl h
 | cons x r =>
  have hb := (blank_first _ (blK_mem (kOf sd j))).1
  have : 0 < (bcells (outF (blOf sd) j (x :: r))).length := by
   show 0 < (List.map _ ((blOf sd j).data.toList ++ _)).length
   rw [List.length_map, List.length_append, tl_len]
   have : 0 < (blOf sd j).size := hb
   omega
  cases h2 : bcells (outF (blOf sd) j (x :: r)) with
  | nil => rw [h2] at this; cases this
  | cons c cs => exact ⟨c, cs, rfl⟩
end Go.Pv

namespace Go.Pv
open Go.Proofs
set_option linter.unusedVariables false
set_option linter.unusedSimpArgs false
set_option maxRecDepth 100000
set_option maxHeartbeats 4000000
theorem elems_str1 (b : ByteArray) : elemsS 1 (.lit (.string b)) = some (bcells b.data.toList) := by
 show (match Nat.beq 1 1 with | true => some (b.toList.map fun c : UInt8 => [PV.lit (.int .u8 c.toNat)]) | false => none) = _
 rw [ByteArray.toList_eq]
theorem bcells_app (a b : List UInt8) : bcells (a ++ b) = bcells a ++ bcells b := List.map_append
theorem cvtSl {P : Program} {t t2 u : Nat} (h1 : sliceT P t = some u) (h2 : tsz P u = some 1) (h3 : intT P u = some .u8) (h7 : isStrT P t2 = true) {s : St} {b : List UInt8} {i n : Nat} (hb : s i = some (.row u 1 (bcells b))) (hn : n = b.length) {K : PV → Prop} (hK : K (.lit (.string ⟨b.toArray⟩))) : cvtW P t t2 (.sl i 1 0 n) s K := by
 have hbs := bytesOf_map b
 subst hn
 refine ex_okv (v := .lit (.string ⟨b.toArray⟩)) ?_ hK
 have hl : (bcells b).length = b.length := List.length_map _
 simp only [convB, h1, h2, h3, h7, elemsOf, hb, Option.bind_some, and_self, if_true]
 rw [if_pos ⟨trivial, by omega⟩, List.drop_zero, List.take_of_length_le (by omega)]
 simp [bcells, hbs]
theorem eqzero_c (s : St) : PCalls Tryz.prog 16 [zeroN, zeroN, .lit (.bool false)] s (fun r s' => s' = s ∧ r = .ret (.lit (.bool true))) := by
 have hw : Wk zeroN (encU ⟨0, ⟨#[]⟩, 0, 0, 0, []⟩) := by
  refine .agg _ _ rfl fun i c d h1 h2 => ?_
  match i with
  | 0 => cases h1; cases h2; exact .refl _
  | 1 => cases h1; cases h2; exact .refl _
  | 2 => cases h1; cases h2; exact .refl _
  | 3 => cases h1; cases h2; exact .refl _
  | 4 => cases h1; cases h2; exact .refl _
  | 5 => cases h1; cases h2; exact .any _ _
  | _ + 6 => cases h1
 exact PCalls.wk (eqnode_c ⟨0, ⟨#[]⟩, 0, 0, 0, []⟩ (by simp [Nd.size_eq]) false s) (.cons hw (.cons hw (.cons (.refl _) .nil)))
theorem blk_at (k : Nat) : 0 ≤ ((k : Nat) : Int).tmod 7 ∧ (blanksL.map fun b => PV.lit (.string b))[(((k : Nat) : Int).tmod 7).toNat]? = some (PV.lit (.string (blK k))) := by
 have h : ((k : Nat) : Int).tmod 7 = ((k % 7 : Nat) : Int) := rfl
 have hl : k % 7 < blanksL.length := Nat.mod_lt _ (by decide)
 rw [h, Int.toNat_natCast, List.getElem?_map]
 refine ⟨by omega, ?_⟩
 unfold blK
 simp [List.getD, List.getElem?_eq_getElem hl]
theorem blK_cons (k : Nat) : ∃ c cs, bcells (blK k).data.toList = c :: cs := by
 have hb := (blank_first _ (blK_mem k)).1
 have : 0 < (bcells (blK k).data.toList).length := by rw [List.length_map, tl_len]; exact hb
 cases h2 : bcells (blK k).data.toList with
 | nil => rw [h2] at this; cases this
 | cons c cs => exact ⟨c, cs, rfl⟩
theorem parseBlanks_c (t : ByteArray) (sd : List Int) (hsl : sd.length ≤ 2 ^ 63 - 1) (hsd : ∀ y ∈ sd, 0 ≤ y ∧ y ≤ 255) (s : St) (hv : Vars s) : PCalls Tryz.prog 6 [.lit (.string t), bytesV .any sd] s (fun r s' => s' = s ∧ r = .ret (.lit (.bool true))) := by
 refine PCalls.of Tryz.func6 rfl (by rfl) (by simp [Tryz.ntmps6]) ?_
 by_cases ht : 2000 < t.size
 ·refine pwC_sound _ _ _ _ ?_
  have ht' : (2000 : Int) < (t.size : Nat) := by omega
  simp [Tryz.ntmps6, ht, ht']
 have ht' : ¬ (2000 : Int) < (t.size : Nat) := by omega
 have hts : t.size ≤ 2000 := by omega
 have hal := allT_len t
 refine PW.cut fun K hK => ?_
 simp [Tryz.ntmps6]
 refine hK _ _ ?_
 clear hK K
 refine PW.cut fun K hK => ?_
 simp [ht, ht']
 refine hK _ _ ?_
 clear hK K
 refine PW.cut fun K hK => ?_
 simp
 refine (rscan_c t (by omega) _).mono ?_
 rw [if_neg (by omega)]
 rintro _ s1 ⟨hs1, rfl⟩
 rw [hs1]
 clear hs1 s1
 simp
 refine hK _ _ ?_
 clear hK K
 refine PW.cut fun K hK => ?_
 simp
 refine hK _ _ ?_
 clear hK K
 refine PW.cut fun K hK => ?_
 simp
 refine hK _ _ ?_
 clear hK K
 obtain ⟨l, hl⟩ : ∃ l, allT t = l := ⟨_, rfl⟩
 have hlx : ∀ x ∈ l, x.text.size ≤ 2000 := fun x hx => by have := allT_text t x (by rw [hl]; exact hx); omega
 have hsum : (l.map fun x => x.text.size).sum ≤ 2000 := by have : ((allT t).map fun x => x.text.size).sum ≤ t.size - 0 := toksF_sum t _ 0 true (Nat.zero_le _); rw [hl] at this; omega
 have hlen : l.length ≤ 2001 := by rw [← hl]; omega
 have hl0 : l ≠ [] := by obtain ⟨ws, x, h, _⟩ := allT_form t; rw [← hl, h]; simp
 generalize hE : Env.put _ _ _ = E
 have e0 : E 0 = .lit (.string t) := by rw [← hE]; simp
 have e1 : E 1 = bytesV .any sd := by rw [← hE]; simp
 have e5 : E 5 = toks .any l := by rw [← hE, ← hl]; simp
 have e7 : E 7 = .vec .nil [] := by rw [← hE]; simp
 clear hE
 refine PW.seq ?_
 refine pw_sx (T := TI0) (D := []) (env := [(0, .av (.pv (.lit (.string t)))), (1, .av (.pv (bytesV .any sd))), (5, .av (.pv (toks .any l))), (7, .av (.pv (.vec .nil [])))]) (Q := QS s t sd l) ti_ok (by kernel_rfl) (erel_cons e0 (erel_cons e1 (erel_cons e5 (erel_cons e7 erel_nil)))) ?_ ?_
 ·refine sw_loop (D := []) ti_ok (by kernel_rfl) (fun n env st b => ∃ j : Nat, j + n = l.length ∧ (∀ x ∈ l.take j, x.kind ≠ 7 ∧ x.kind ≠ 8 ∧ x.text ≠ ⟨#[35]⟩) ∧ b = s ∧ ((j = 0 ∧ env = pbE t sd l (.av (.pv (.vec .nil []))) j ∧ st = []) ∨ (0 < j ∧ env = pbE t sd l (.av (.own 0)) j ∧ st = [some (.lst 5 1 (bcells (outF (blOf sd) 0 (l.take j))))]))) l.length ⟨[], [0, 1, 5, 7, 8], rfl, 0, by omega, by simp, rfl, .inl ⟨rfl, rfl, rfl⟩⟩ ?_
  rintro n env st b ⟨j, hj, hok, rfl, hst⟩
  have EXIT : ∀ {env : SE} {st : SS}, j = l.length → 0 < j → lk env 0 = some (.av (.pv (.lit (.string t)))) → lk env 7 = some (.av (.own 0)) → st = [some (.lst 5 1 (bcells (outF (blOf sd) 0 (l.take j))))] → QS b t sd l .normal env st b := by
   intro env st hjl hj0 h0 h7 hs
   rw [hjl, List.take_of_length_le (Nat.le_refl _)] at hs hok
   obtain ⟨c, cs, hc⟩ := outF_ne sd (j := 0) hl0
   exact ⟨rfl, hok, h0, h7, c, cs, hc, by rw [hs, hc]; rfl⟩
  rcases hst with ⟨hj0, rfl, rfl⟩ | ⟨hj0, rfl, rfl⟩
  ·rintro (_ | _) h
   ·have := of_decide_eq_false h
    rw [List.length_map] at this
    have : 0 < l.length := List.length_pos_iff.2 hl0
    omega
   have hlt : j < l.length := by have := of_decide_eq_true h; rw [List.length_map] at this; omega
   have hg : l[j]? = some l[j] := List.getElem?_eq_getElem hlt
   have hmem := List.getElem_mem hlt
   have htake : l.take (j + 1) = l.take j ++ [l[j]] := List.take_succ_eq_append_getElem hlt
   obtain ⟨x, hx⟩ : ∃ x, l[j] = x := ⟨_, rfl⟩
   rw [hx] at hg hmem htake
   have el : 0 ≤ ((j : Nat) : Int) ∧ (l.map encT)[((j : Nat) : Int).toNat]? = some (encT x) ∧ (encT x).width = 4 := ⟨by omega, by rw [Int.toNat_natCast, List.getElem?_map, hg]; rfl, rfl⟩
   refine ⟨encT x, el, ?_⟩
   rintro (_ | _) h7
   rotate_left
   ·refine sc_pure (ps := []) (v := .lit (.bool true)) (fun s2 h => awake05_c s2 (hv.sub h)) rfl rfl ?_
    exact ⟨rfl, rfl⟩
   have h7 := of_decide_eq_false h7
   refine ⟨encT x, el, ?_⟩
   rintro (_ | _) h8
   rotate_left
   ·refine sc_pure (ps := []) (v := .lit (.bool true)) (fun s2 h => awake05_c s2 (hv.sub h)) rfl rfl ?_
    exact ⟨rfl, rfl⟩
   have h8 := of_decide_eq_false h8
   refine ⟨encT x, el, ?_⟩
   rintro (_ | _) h35
   rotate_left
   ·refine sc_pure (ps := []) (v := .lit (.bool true)) (fun s2 h => awake05_c s2 (hv.sub h)) rfl rfl ?_
    exact ⟨rfl, rfl⟩
   have h35 := of_decide_eq_false h35
   have hok2 : ∀ y ∈ l.take (j + 1), y.kind ≠ 7 ∧ y.kind ≠ 8 ∧ y.text ≠ ⟨#[35]⟩ := by
    intro y hy
    rw [htake, List.mem_append, List.mem_singleton] at hy
    rcases hy with hy | rfl
    ·exact hok y hy
    ·exact ⟨h7, h8, h35⟩
   clear hok EXIT
   obtain ⟨k, hk⟩ : ∃ k, kOf sd j = k := ⟨_, rfl⟩
   have hbk : blOf sd j = blK k := by unfold blOf; rw [hk]
   obtain ⟨c, cs, hc⟩ := blK_cons k
   have hcl : (c :: cs).length ≤ 12 := by rw [← hc, List.length_map, tl_len]; exact blank_le _ (blK_mem k)
   have hol := outF_len (blOf sd) (fun j => blK_mem _) (l.take j) 0
   have htl : ((l.take j).map fun x => x.text.size).sum ≤ 2000 := Nat.le_trans (by rw [List.map_take]; exact sum_take_le _ _) hsum
   have htn : (l.take j).length ≤ 2001 := by rw [List.length_take]; omega
   have hxs := hlx x hmem
   have hsn : bcells (outF (blOf sd) 0 (l.take (j + 1))) = bcells (outF (blOf sd) 0 (l.take j)) ++ (c :: cs ++ bcells x.text.data.toList) := by
    rw [htake, outF_snoc, List.length_take, Nat.min_eq_left (by omega), Nat.zero_add, hbk, bcells_app, bcells_app, hc]
   have w1 : IntKind.i64.wrap ((j : Int) + 1) = ((j + 1 : Nat) : Int) := by rw [wrap_i64 (by omega) (by omega)]; omega
   have hEl : (bcells (outF (blOf sd) 0 (l.take j))).length ≤ 26100 := by rw [List.length_map]; omega
   rintro (_ | _) hs0
   ·have hs0 := of_decide_eq_false hs0
    rw [List.length_map] at hs0
    have hkj : j = k := by rw [← hk]; unfold kOf; rw [if_pos (by omega)]
    rw [← hkj] at hc
    refine ⟨.lit (.string (blK j)), ⟨(blk_at j).1, (blk_at j).2, rfl⟩, ?_⟩
    refine ⟨c :: cs, by rw [elems_str1, hc], (by show (2 * (c :: cs).length + 1000) * 1 ≤ 281474976710656; omega), ?_⟩
    refine ⟨encT x, el, ?_⟩
    cases hxt : bcells x.text.data.toList with
    | nil =>
     refine ⟨[], by rw [elems_str1, hxt], ?_⟩
     rw [hxt, List.append_nil] at hsn
     exact ⟨n - 1, by omega, [0], [0, 1, 5, 7, 8], rfl, j + 1, by omega, hok2, rfl, .inr ⟨by omega, by unfold pbE; rw [← w1]; rfl, by rw [hsn, hj0]; rfl⟩⟩
    | cons d ds =>
     have hdl : (d :: ds).length ≤ 2000 := by rw [← hxt, List.length_map, tl_len]; omega
     refine ⟨d :: ds, by rw [elems_str1, hxt], (by show (2 * ((c :: cs).length + (d :: ds).length) + 1000) * 1 ≤ 281474976710656; omega), ?_⟩
     rw [hxt] at hsn
     exact ⟨n - 1, by omega, [1], [0, 1, 5, 7, 8], rfl, j + 1, by omega, hok2, rfl, .inr ⟨by omega, by unfold pbE; rw [← w1]; rfl, by rw [hsn, hj0]; rfl⟩⟩
   ·have hs0 := of_decide_eq_true hs0
    rw [List.length_map] at hs0
    have hsp : 0 < sd.length := by omega
    have hmod : j % sd.length < sd.length := Nat.mod_lt _ hsp
    have hsg := List.getElem?_eq_getElem hmod
    obtain ⟨y, hy⟩ : ∃ y, sd[j % sd.length] = y := ⟨_, rfl⟩
    rw [hy] at hsg
    have hyr := hsd y (by rw [← hy]; exact List.getElem_mem hmod)
    have hky : y = ((k : Nat) : Int) := by
     rw [← hk]
     unfold kOf
     rw [if_neg (by omega)]
     simp only [List.getD, hsg, Option.getD]
     omega
    refine okS_of (v := .lit (.int .i64 ((j % sd.length : Nat) : Int))) ?_ ?_
    ·show (if (((sd.map fun n => PV.lit (.int .u8 n)).length : Nat) : Int) = 0 then none else some (PV.lit (.int .i64 (((j : Nat) : Int).tmod (((sd.map fun n => PV.lit (.int .u8 n)).length : Nat) : Int))))) = _
     rw [List.length_map, if_neg (by omega)]
     rfl
    refine ⟨.lit (.int .u8 y), ⟨by omega, by rw [Int.toNat_natCast, List.getElem?_map, hsg]; rfl, rfl⟩, ?_⟩
    refine ⟨.lit (.int .i64 ((k : Nat) : Int)), ?_, ?_⟩
    ·rw [hky]
     have hw : IntKind.i64.wrap ((k : Nat) : Int) = ((k : Nat) : Int) := wrap_i64 (by omega) (by omega)
     exact Eq.trans (b := some (PV.lit (.int .i64 (IntKind.i64.wrap ((k : Nat) : Int))))) (by kernel_rfl) (by rw [hw])
    refine ⟨.lit (.string (blK k)), ⟨(blk_at k).1, (blk_at k).2, rfl⟩, ?_⟩
    refine ⟨c :: cs, by rw [elems_str1, hc], (by show (2 * (c :: cs).length + 1000) * 1 ≤ 281474976710656; omega), ?_⟩
    refine ⟨encT x, el, ?_⟩
    cases hxt : bcells x.text.data.toList with
    | nil =>
     refine ⟨[], by rw [elems_str1, hxt], ?_⟩
     rw [hxt, List.append_nil] at hsn
     exact ⟨n - 1, by omega, [0], [0, 1, 5, 7, 8], rfl, j + 1, by omega, hok2, rfl, .inr ⟨by omega, by unfold pbE; rw [← w1]; rfl, by rw [hsn, hj0]; rfl⟩⟩
    | cons d ds =>
     have hdl : (d :: ds).length ≤ 2000 := by rw [← hxt, List.length_map, tl_len]; omega
     refine ⟨d :: ds, by rw [elems_str1, hxt], (by show (2 * ((c :: cs).length + (d :: ds).length) + 1000) * 1 ≤ 281474976710656; omega), ?_⟩
     rw [hxt] at hsn
     exact ⟨n - 1, by omega, [1], [0, 1, 5, 7, 8], rfl, j + 1, by omega, hok2, rfl, .inr ⟨by omega, by unfold pbE; rw [← w1]; rfl, by rw [hsn, hj0]; rfl⟩⟩
  ·rintro (_ | _) h
   ·have := of_decide_eq_false h
    rw [List.length_map] at this
    exact EXIT (by omega) hj0 rfl rfl rfl
   have hlt : j < l.length := by have := of_decide_eq_true h; rw [List.length_map] at this; omega
   have hg : l[j]? = some l[j] := List.getElem?_eq_getElem hlt
   have hmem := List.getElem_mem hlt
   have htake : l.take (j + 1) = l.take j ++ [l[j]] := List.take_succ_eq_append_getElem hlt
   obtain ⟨x, hx⟩ : ∃ x, l[j] = x := ⟨_, rfl⟩
   rw [hx] at hg hmem htake
   have el : 0 ≤ ((j : Nat) : Int) ∧ (l.map encT)[((j : Nat) : Int).toNat]? = some (encT x) ∧ (encT x).width = 4 := ⟨by omega, by rw [Int.toNat_natCast, List.getElem?_map, hg]; rfl, rfl⟩
   refine ⟨encT x, el, ?_⟩
   rintro (_ | _) h7
   rotate_left
   ·refine sc_pure (ps := []) (v := .lit (.bool true)) (fun s2 h => awake05_c s2 (hv.sub h)) rfl rfl ?_
    exact ⟨rfl, rfl⟩
   have h7 := of_decide_eq_false h7
   refine ⟨encT x, el, ?_⟩
   rintro (_ | _) h8
   rotate_left
   ·refine sc_pure (ps := []) (v := .lit (.bool true)) (fun s2 h => awake05_c s2 (hv.sub h)) rfl rfl ?_
    exact ⟨rfl, rfl⟩
   have h8 := of_decide_eq_false h8
   refine ⟨encT x, el, ?_⟩
   rintro (_ | _) h35
   rotate_left
   ·refine sc_pure (ps := []) (v := .lit (.bool true)) (fun s2 h => awake05_c s2 (hv.sub h)) rfl rfl ?_
    exact ⟨rfl, rfl⟩
   have h35 := of_decide_eq_false h35
   have hok2 : ∀ y ∈ l.take (j + 1), y.kind ≠ 7 ∧ y.kind ≠ 8 ∧ y.text ≠ ⟨#[35]⟩ := by
    intro y hy
    rw [htake, List.mem_append, List.mem_singleton] at hy
    rcases hy with hy | rfl
    ·exact hok y hy
    ·exact ⟨h7, h8, h35⟩
   clear hok EXIT
   obtain ⟨k, hk⟩ : ∃ k, kOf sd j = k := ⟨_, rfl⟩
   have hbk : blOf sd j = blK k := by unfold blOf; rw [hk]
   obtain ⟨c, cs, hc⟩ := blK_cons k
   have hcl : (c :: cs).length ≤ 12 := by rw [← hc, List.length_map, tl_len]; exact blank_le _ (blK_mem k)
   have hol := outF_len (blOf sd) (fun j => blK_mem _) (l.take j) 0
   have htl : ((l.take j).map fun x => x.text.size).sum ≤ 2000 := Nat.le_trans (by rw [List.map_take]; exact sum_take_le _ _) hsum
   have htn : (l.take j).length ≤ 2001 := by rw [List.length_take]; omega
   have hxs := hlx x hmem
   have hsn : bcells (outF (blOf sd) 0 (l.take (j + 1))) = bcells (outF (blOf sd) 0 (l.take j)) ++ (c :: cs ++ bcells x.text.data.toList) := by
    rw [htake, outF_snoc, List.length_take, Nat.min_eq_left (by omega), Nat.zero_add, hbk, bcells_app, bcells_app, hc]
   have w1 : IntKind.i64.wrap ((j : Int) + 1) = ((j + 1 : Nat) : Int) := by rw [wrap_i64 (by omega) (by omega)]; omega
   have hEl : (bcells (outF (blOf sd) 0 (l.take j))).length ≤ 26100 := by rw [List.length_map]; omega
   rintro (_ | _) hs0
   ·have hs0 := of_decide_eq_false hs0
    rw [List.length_map] at hs0
    have hkj : j = k := by rw [← hk]; unfold kOf; rw [if_pos (by omega)]
    rw [← hkj] at hc
    refine ⟨.lit (.string (blK j)), ⟨(blk_at j).1, (blk_at j).2, rfl⟩, ?_⟩
    refine ⟨c :: cs, by rw [elems_str1, hc], (by show (2 * ((bcells (outF (blOf sd) 0 (l.take j))).length + (c :: cs).length) + 1000) * 1 ≤ 281474976710656; omega), ?_⟩
    refine ⟨encT x, el, ?_⟩
    cases hxt : bcells x.text.data.toList with
    | nil =>
     refine ⟨[], by rw [elems_str1, hxt], ?_⟩
     rw [hxt, List.append_nil] at hsn
     exact ⟨n - 1, by omega, [1], [0, 1, 5, 7, 8], rfl, j + 1, by omega, hok2, rfl, .inr ⟨by omega, by unfold pbE; rw [← w1]; rfl, by rw [hsn]; rfl⟩⟩
    | cons d ds =>
     have hdl : (d :: ds).length ≤ 2000 := by rw [← hxt, List.length_map, tl_len]; omega
     refine ⟨d :: ds, by rw [elems_str1, hxt], (by show (2 * ((bcells (outF (blOf sd) 0 (l.take j)) ++ c :: cs).length + (d :: ds).length) + 1000) * 1 ≤ 281474976710656; rw [List.length_append]; omega), ?_⟩
     rw [hxt] at hsn
     exact ⟨n - 1, by omega, [2], [0, 1, 5, 7, 8], rfl, j + 1, by omega, hok2, rfl, .inr ⟨by omega, by unfold pbE; rw [← w1]; rfl, by rw [hsn, ← List.append_assoc]; rfl⟩⟩
   ·have hs0 := of_decide_eq_true hs0
    rw [List.length_map] at hs0
    have hsp : 0 < sd.length := by omega
    have hmod : j % sd.length < sd.length := Nat.mod_lt _ hsp
    have hsg := List.getElem?_eq_getElem hmod
    obtain ⟨y, hy⟩ : ∃ y, sd[j % sd.length] = y := ⟨_, rfl⟩
    rw [hy] at hsg
    have hyr := hsd y (by rw [← hy]; exact List.getElem_mem hmod)
    have hky : y = ((k : Nat) : Int) := by
     rw [← hk]
     unfold kOf
     rw [if_neg (by omega)]
     simp only [List.getD, hsg, Option.getD]
     omega
    refine okS_of (v := .lit (.int .i64 ((j % sd.length : Nat) : Int))) ?_ ?_
    ·show (if (((sd.map fun n => PV.lit (.int .u8 n)).length : Nat) : Int) = 0 then none else some (PV.lit (.int .i64 (((j : Nat) : Int).tmod (((sd.map fun n => PV.lit (.int .u8 n)).length : Nat) : Int))))) = _
     rw [List.length_map, if_neg (by omega)]
     rfl
    refine ⟨.lit (.int .u8 y), ⟨by omega, by rw [Int.toNat_natCast, List.getElem?_map, hsg]; rfl, rfl⟩, ?_⟩
    refine ⟨.lit (.int .i64 ((k : Nat) : Int)), ?_, ?_⟩
    ·rw [hky]
     have hw : IntKind.i64.wrap ((k : Nat) : Int) = ((k : Nat) : Int) := wrap_i64 (by omega) (by omega)
     exact Eq.trans (b := some (PV.lit (.int .i64 (IntKind.i64.wrap ((k : Nat) : Int))))) (by kernel_rfl) (by rw [hw])
    refine ⟨.lit (.string (blK k)), ⟨(blk_at k).1, (blk_at k).2, rfl⟩, ?_⟩
    refine ⟨c :: cs, by rw [elems_str1, hc], (by show (2 * ((bcells (outF (blOf sd) 0 (l.take j))).length + (c :: cs).length) + 1000) * 1 ≤ 281474976710656; omega), ?_⟩
    refine ⟨encT x, el, ?_⟩
    cases hxt : bcells x.text.data.toList with
    | nil =>
     refine ⟨[], by rw [elems_str1, hxt], ?_⟩
     rw [hxt, List.append_nil] at hsn
     exact ⟨n - 1, by omega, [1], [0, 1, 5, 7, 8], rfl, j + 1, by omega, hok2, rfl, .inr ⟨by omega, by unfold pbE; rw [← w1]; rfl, by rw [hsn]; rfl⟩⟩
    | cons d ds =>
     have hdl : (d :: ds).length ≤ 2000 := by rw [← hxt, List.length_map, tl_len]; omega
     refine ⟨d :: ds, by rw [elems_str1, hxt], (by show (2 * ((bcells (outF (blOf sd) 0 (l.take j)) ++ c :: cs).length + (d :: ds).length) + 1000) * 1 ≤ 281474976710656; rw [List.length_append]; omega), ?_⟩
     rw [hxt] at hsn
     exact ⟨n - 1, by omega, [2], [0, 1, 5, 7, 8], rfl, j + 1, by omega, hok2, rfl, .inr ⟨by omega, by unfold pbE; rw [← w1]; rfl, by rw [hsn, ← List.append_assoc]; rfl⟩⟩
 ·rintro x e' s' hq
  have lit_of : ∀ {σ : Nat → Nat} {st : SS} {env : SE} {e : Env} {k : Nat} {v : Value}, ERel σ st env e → lk env k = some (.av (.pv (.lit v))) → e k = .lit v := by
   intro σ st env e k v h1 h2
   rcases h1 k _ h2 with h | h
   ·cases h
   ·exact h
  cases x with
  | panic c => obtain ⟨σ, st, b, k1, k2⟩ := hq; exact k2.elim
  | exit i => obtain ⟨σ, st, b, env, k1, k2, k3⟩ := hq; exact k3.elim
  | goto i => obtain ⟨σ, st, b, env, k1, k2, k3⟩ := hq; exact k3.elim
  | outgrown => obtain ⟨σ, st, b, env, k1, k2, k3⟩ := hq; exact k3.elim
  | ret =>
   obtain ⟨σ, st, b, env, k1, k2, rfl, k4⟩ := hq
   have h4 := lit_of k2 k4
   have hss := k1.sub
   simp [h4]
   exact hss
  | normal =>
   obtain ⟨σ, st, b, env, k1, k2, rfl, hok, h0, h7, c, cs, hc, hst⟩ := hq
   have f0 := lit_of k2 h0
   have hss := k1.sub
   have f7 : e' 7 = .sl (σ 0) 1 0 (c :: cs).length := (k2 7 _ h7).2 _ _ _ hst
   have b7 : s' (σ 0) = some (.row 5 1 (c :: cs)) := k1.loc 0 _ hst
   generalize σ 0 = i7 at f7 b7
   clear k1 k2 h0 h7 hst st env lit_of e0 e1 e5 e7 E σ
   have hvs := hv.sub hss
   rw [← hl] at hok hc
   have hkt := relexT (blOf sd) (fun j => blK_mem _) hok
   have hk7 : ∀ x ∈ allT t, x.kind ≠ 7 := fun x hx => (hok x hx).1
   have hk7' := line_kt hkt hk7
   have hosz := outT_size (blOf sd) (fun j => blK_mem _) hts
   obtain ⟨n, hn1, hn2⟩ : ∃ n, 1500000 ≤ n ∧ n ≤ 1000000000 := ⟨1500000, by omega, by omega⟩
   show PW _ _ _ _ _ _
   refine PW.cut fun K hK => ?_
   simp [f0]
   refine (file_c t n (by omega) (by omega) hn2 hk7 _ hvs).mono ?_
   rintro r s1 ⟨hs1, hF⟩
   rw [hs1]
   clear hs1 s1
   obtain ⟨a, b', a', b2, X, er, hX, hr, -⟩ := fres_same rfl hF hF
   rw [hr] at hF ⊢
   clear hr
   rcases hX with rfl | ⟨y, hy, rfl⟩
   ·simp [zeroN]
    intro i12 h12
    refine hK _ _ ?_
    clear hK K
    generalize hE : Env.put _ _ _ = E
    generalize hS : St.upd s' _ _ = S1
    have g12 : E 12 = .pt i12 0 0 := by rw [← hE]; simp
    have g6 : E 6 = .lit (.int .i64 er) := by rw [← hE]; simp
    have g7 : E 7 = .sl i7 1 0 (c :: cs).length := by rw [← hE]; simp [f7]
    have hne : i7 ≠ i12 := fun h => by rw [h] at b7; rw [show s' i12 = none from h12] at b7; cases b7
    have c7 : S1 i7 = some (.row 5 1 (c :: cs)) := by rw [← hS]; simp [hne, b7]
    have c12 : S1 i12 = some (.row 26 6 [[.lit (.int .i64 0), .lit (.string ⟨#[]⟩), .lit (.int .i64 0), .lit (.int .i64 0), .lit (.int .i64 0), .vec .nil []]]) := by rw [← hS]; simp
    have hs1' : s'.sub S1 := by rw [← hS]; exact sub_refl.upd h12
    clear hE hS
    have hvs1 := hvs.sub hs1'
    refine PW.cut fun K hK => ?_
    simp [g7]
    refine cvtSl (u := 5) (b := outF (blOf sd) 0 (allT t)) (by simp) (by simp) (by simp) (by simp) (by rw [hc]; exact c7) (by have := congrArg List.length hc; rw [List.length_map] at this; simp at this ⊢; omega) ?_
    refine (file_c (outT (blOf sd) t) n (by omega) (by omega) hn2 hk7' _ hvs1).mono ?_
    rintro r2 s1 ⟨hs1, hF2⟩
    rw [hs1]
    clear hs1 s1
    obtain ⟨p1, p2, p3, p4, X2, er2, hX2, hr, hr2⟩ := fres_same hkt hF hF2
    rw [hr2]
    cases hr
    clear hr2 hF hF2
    simp [zeroN]
    intro i15 h15
    refine hK _ _ ?_
    clear hK K
    generalize hE : Env.put _ _ _ = E2
    generalize hS : St.upd S1 _ _ = S2
    have m12 : E2 12 = .pt i12 0 0 := by rw [← hE]; simp [g12]
    have m15 : E2 15 = .pt i15 0 0 := by rw [← hE]; simp
    have m6 : E2 6 = .lit (.int .i64 er) := by rw [← hE]; simp [g6]
    have m16 : E2 16 = .lit (.int .i64 er) := by rw [← hE]; simp
    have hne2 : i12 ≠ i15 := fun h => by rw [h] at c12; rw [show S1 i15 = none from h15] at c12; cases c12
    have d12 : S2 i12 = some (.row 26 6 [[.lit (.int .i64 0), .lit (.string ⟨#[]⟩), .lit (.int .i64 0), .lit (.int .i64 0), .lit (.int .i64 0), .vec .nil []]]) := by rw [← hS]; simp [hne2, c12]
    have d15 : S2 i15 = some (.row 26 6 [[.lit (.int .i64 0), .lit (.string ⟨#[]⟩), .lit (.int .i64 0), .lit (.int .i64 0), .lit (.int .i64 0), .vec .nil []]]) := by rw [← hS]; simp
    have hs2 : S1.sub S2 := by rw [← hS]; exact sub_refl.upd h15
    clear hE hS
    have hvs2 := hvs1.sub hs2
    refine pwC_sound _ _ _ _ ?_
    simp [m12, m15, m6, m16, d12, d15]
    refine (eqzero_c _).mono ?_
    rintro _ s1 ⟨hs1, rfl⟩
    rw [hs1]
    clear hs1 s1
    simp [m12, m15, m6, m16, d12, d15]
    refine (awake05_c _ hvs2).mono ?_
    rintro _ s1 ⟨hs1, rfl⟩
    rw [hs1]
    clear hs1 s1
    simp
    exact fun q b' hq => hs2 q b' (hs1' q b' (hss q b' hq))
   ·simp
    intro i12 h12
    refine hK _ _ ?_
    clear hK K
    generalize hE : Env.put _ _ _ = E
    generalize hS : St.upd s' _ _ = S1
    have g12 : E 12 = .pt i12 0 0 := by rw [← hE]; simp
    have g6 : E 6 = .lit (.int .i64 er) := by rw [← hE]; simp
    have g7 : E 7 = .sl i7 1 0 (c :: cs).length := by rw [← hE]; simp [f7]
    have hne : i7 ≠ i12 := fun h => by rw [h] at b7; rw [show s' i12 = none from h12] at b7; cases b7
    have c7 : S1 i7 = some (.row 5 1 (c :: cs)) := by rw [← hS]; simp [hne, b7]
    have c12 : S1 i12 = some (.row 26 6 [encC y]) := by rw [← hS]; simp
    have hs1' : s'.sub S1 := by rw [← hS]; exact sub_refl.upd h12
    clear hE hS
    have hvs1 := hvs.sub hs1'
    refine PW.cut fun K hK => ?_
    simp [g7]
    refine cvtSl (u := 5) (b := outF (blOf sd) 0 (allT t)) (by simp) (by simp) (by simp) (by simp) (by rw [hc]; exact c7) (by have := congrArg List.length hc; rw [List.length_map] at this; simp at this ⊢; omega) ?_
    refine (file_c (outT (blOf sd) t) n (by omega) (by omega) hn2 hk7' _ hvs1).mono ?_
    rintro r2 s1 ⟨hs1, hF2⟩
    rw [hs1]
    clear hs1 s1
    obtain ⟨p1, p2, p3, p4, X2, er2, hX2, hr, hr2⟩ := fres_same hkt hF hF2
    rw [hr2]
    cases hr
    clear hr2 hF hF2
    simp
    intro i15 h15
    refine hK _ _ ?_
    clear hK K
    generalize hE : Env.put _ _ _ = E2
    generalize hS : St.upd S1 _ _ = S2
    have m12 : E2 12 = .pt i12 0 0 := by rw [← hE]; simp [g12]
    have m15 : E2 15 = .pt i15 0 0 := by rw [← hE]; simp
    have m6 : E2 6 = .lit (.int .i64 er) := by rw [← hE]; simp [g6]
    have m16 : E2 16 = .lit (.int .i64 er) := by rw [← hE]; simp
    have hne2 : i12 ≠ i15 := fun h => by rw [h] at c12; rw [show S1 i15 = none from h15] at c12; cases c12
    have d12 : S2 i12 = some (.row 26 6 [encC y]) := by rw [← hS]; simp [hne2, c12]
    have d15 : S2 i15 = some (.row 26 6 [encC y]) := by rw [← hS]; simp
    have hs2 : S1.sub S2 := by rw [← hS]; exact sub_refl.upd h15
    clear hE hS
    have hvs2 := hvs1.sub hs2
    refine pwC_sound _ _ _ _ ?_
    simp [m12, m15, m6, m16, d12, d15]
    refine (eqnode_c y (by omega) false _).mono ?_
    rintro _ s1 ⟨hs1, rfl⟩
    rw [hs1]
    clear hs1 s1
    simp [m12, m15, m6, m16, d12, d15]
    refine (awake05_c _ hvs2).mono ?_
    rintro _ s1 ⟨hs1, rfl⟩
    rw [hs1]
    clear hs1 s1
    simp
    exact fun q b' hq => hs2 q b' (hs1' q b' (hss q b' hq))
end Go.Pv

namespace Go.Pv
open Go.Proofs Go.RowKit Go.ChangeShapes Go.WideShapes
set_option linter.unusedVariables false
set_option linter.unusedSimpArgs false
set_option maxRecDepth 100000
theorem wf_u8 {n : Int} (h : (Lit.int .u8 n).wf = true) : 0 ≤ n ∧ n ≤ 255 := by
 simp only [Lit.wf, Bool.and_eq_true, decide_eq_true_eq] at h
 have h1 : IntKind.u8.min = 0 := by decide
 have h2 : IntKind.u8.max = 255 := by decide
 rw [h1, h2] at h
 exact h
section
variable {H : Type} {enc' : TypeId × Value → H} {w : World} {base : Nat} {spare : Nat → Bool} {held : Bool}
theorem open_bytesP {W : World} {v : Value} {d : DataW H} {p : List MemPlace} (hv : Value.okWide Tryz.prog W .any base 60 v) (h : DataW.Trod enc' Tryz.prog w 0 spare held 60 v d p) :
  ∃ l : List Int, VR w (g0 w) (bytesV .any l) v ∧ l.length ≤ 2 ^ 63 - 1 ∧ ∀ y ∈ l, 0 ≤ y ∧ y ≤ 255 := by
 obtain ⟨a, len, cap, rfl⟩ := okWide_slice Tryz.underlying60 hv
 obtain ⟨fuel, hf⟩ := h
 obtain ⟨u, l, hcs, hv', _, hl, hG⟩ := rows_cr (sz := 1) (fun n : Int => PV.lit (.int .u8 n)) (fun y => 0 ≤ y ∧ y ≤ 255) (fun x => rfl) Tryz.underlying60 (by kernel_rfl) (fun m hm cs x h => by
  obtain ⟨n, rfl, hv, hw⟩ := int_cr Tryz.underlying5 h
  exact ⟨n, CRd.one rfl hv rfl, wf_u8 hw⟩) hf
 have he : Value.slice a len cap = u := by simpa [Value.cells] using hcs
 rw [he]
 exact ⟨l, hv', hl, hG⟩
end
end Go.Pv

namespace Go.Pv
open Go.Proofs
theorem parseBlanksL (t : ByteArray) {p : Prop} (_ : p) (sd : List Int) (h1 : sd.length ≤ 2 ^ 63 - 1) (h2 : ∀ y ∈ sd, 0 ≤ y ∧ y ≤ 255) (s : St) (hv : Vars s) : PCalls Tryz.prog 6 [.lit (.string t), bytesV .any sd] s (fun r s' => s' = s ∧ r = .ret (.lit (.bool true))) := parseBlanks_c t sd h1 h2 s hv
end Go.Pv
