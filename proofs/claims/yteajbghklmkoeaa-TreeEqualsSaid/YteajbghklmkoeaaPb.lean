/- Plain facts: what is not heavy has few levels and few nodes. -/
import Derived.Test.YteajbghklmkoeaaPa
namespace Go.Proofs.Yteajbghklmkoeaa.Tr
open Go.RowKit Go.Proofs.YteajbghklmkoeaaW.PrintWords
set_option linter.unusedVariables false
set_option linter.unusedSimpArgs false

theorem Ev_uniq {α : Type} {g : Nat → Option α} {r s : α} (h : Ev g r) (k : Ev g s) : r = s := by
  obtain ⟨K, hK⟩ := h
  obtain ⟨L, hL⟩ := k
  have h1 := hK (max K L) (Nat.le_max_left _ _)
  have h2 := hL (max K L) (Nat.le_max_right _ _)
  rw [h1] at h2
  exact Option.some.inj h2
/-- It comes to something of which this holds. -/
def To {α : Type} (g : Nat → Option α) (P : α → Prop) : Prop := ∃ r, Ev g r ∧ P r
theorem To.now {α : Type} {P : α → Prop} (r : α) (h : P r) : To (fun _ => some r) P := ⟨r, Ev.now r, h⟩
theorem To.step {α : Type} {g f : Nat → Option α} {P : α → Prop} (h : ∀ k, g (k + 1) = f k) (k : To f P) : To g P := by
  obtain ⟨r, hr, hp⟩ := k
  exact ⟨r, Ev.step h hr, hp⟩
theorem To.bind {α β : Type} {g : Nat → Option α} {f : Nat → α → Option β} {Q : α → Prop} {P : β → Prop} (h : To g Q) (k : ∀ a, Q a → To (fun n => f n a) P) : To (fun n => (g n).bind (f n)) P := by
  obtain ⟨a, ha, hq⟩ := h
  obtain ⟨r, hr, hp⟩ := k a hq
  exact ⟨r, Ev.bind ha hr, hp⟩
theorem To.ite {α : Type} {c : Prop} [Decidable c] {g f : Nat → Option α} {P : α → Prop} (h : c → To g P) (k : ¬ c → To f P) : To (fun n => if c then g n else f n) P := by
  by_cases hc : c
  · simp only [if_pos hc]; exact h hc
  · simp only [if_neg hc]; exact k hc
theorem To.mono {α : Type} {g : Nat → Option α} {P Q : α → Prop} (h : To g P) (k : ∀ r, P r → Q r) : To g Q := by
  obtain ⟨r, hr, hp⟩ := h
  exact ⟨r, hr, k r hp⟩
theorem To.of_ev {α : Type} {g : Nat → Option α} {P : α → Prop} {r : α} (h : To g P) (k : Ev g r) : P r := by
  obtain ⟨s, hs, hp⟩ := h
  rw [Ev_uniq k hs]
  exact hp
theorem To.ev {α : Type} {g : Nat → Option α} {r : α} (h : Ev g r) : To g (· = r) := ⟨r, h, rfl⟩
theorem To.is {α : Type} {g : Nat → Option α} {r : α} (h : To g (· = r)) : Ev g r := by
  obtain ⟨s, hs, rfl⟩ := h
  exact hs
/-- A loop over the places of a list, with what it comes to. -/
theorem to_loop {β R : Type} {g : Nat → β → Int → Option R} (n : Nat) (J : Nat → β → Prop) (Q : Nat → β → R → Prop)
    (h0 : ∀ b, J n b → To (fun k => g k b n) (Q n b)) (hs : ∀ b (i : Nat), i < n → J i b → (∀ b', J (i + 1) b' → To (fun k => g k b' ((i : Int) + 1)) (Q (i + 1) b')) → To (fun k => g k b i) (Q i b)) :
    ∀ (d i : Nat), i + d = n → ∀ b, J i b → To (fun k => g k b i) (Q i b) := by
  intro d
  induction d with
  | zero =>
    intro i hi b hb
    obtain rfl : i = n := by omega
    exact h0 b hb
  | succ d ih =>
    intro i hi b hb
    refine hs b i (by omega) hb (fun b' hb' => ?_)
    have := ih (i + 1) (by omega) b' hb'
    simpa using this
theorem wrap_id {x : Int} (h0 : -9223372036854775808 ≤ x) (h1 : x ≤ 9223372036854775807) : wrap64 x = x := by
  unfold wrap64
  omega

/-! #### few levels -/
theorem rd_of {l : List S24} {y : S24} (h : y ∈ l) : ∃ i : Nat, i < l.length ∧ rd_T24 l (i : Int) = y := by
  obtain ⟨i, hi, he⟩ := List.getElem_of_mem h
  refine ⟨i, hi, ?_⟩
  unfold rd_T24
  rw [List.getD_eq_getElem?_getD]
  simp only [Int.toNat_natCast]
  rw [List.getElem?_eq_getElem hi, Option.getD_some, he]
theorem deep_to : ∀ (n : Nat) (l : List S24), (∀ y ∈ l, GoodN n y) → l.length ≤ maxLen → ∀ a : Nat, a ≤ 300 → To (fun k => smockingref00_Deep.f k l a) (fun r => r = false → ∀ y ∈ l, GoodN a y) := by
  intro n
  induction n with
  | zero =>
    intro l hl hm a ha
    have : l = [] := by cases l with | nil => rfl | cons x l => exact (hl x List.mem_cons_self).elim
    subst this
    refine To.step (f := fun k => smockingref00_Deep.l0 k [] a 0) (fun k => by simp only [smockingref00_Deep.f]) ?_
    exact To.step (f := fun _ => some false) (fun k => by simp [smockingref00_Deep.l0]) (To.now _ (fun _ y hy => by cases hy))
  | succ n ih =>
    intro l hl hm a ha
    refine To.step (f := fun k => smockingref00_Deep.l0 k l a 0) (fun k => by simp only [smockingref00_Deep.f]) ?_
    have := to_loop (g := fun k (_ : Unit) i => smockingref00_Deep.l0 k l a i) l.length (fun _ _ => True) (fun i _ r => r = false → ∀ j : Nat, i ≤ j → j < l.length → GoodN a (rd_T24 l (j : Int)))
      (fun _ _ => To.step (f := fun _ => some false) (fun k => by simp [smockingref00_Deep.l0]) (To.now _ (fun _ j h1 h2 => by omega)))
      (fun _ i hi _ hk => by
        have hg := good_rd hl hi
        refine To.step (f := fun k => if (a : Int) = 0 then some true else (smockingref00_Deep.f k ((rd_T24 l i).f5) (wrap64 ((a : Int) - 1))).bind fun t => if t = true then some true else smockingref00_Deep.l0 k l a ((i : Int) + 1)) (fun k => ?_) ?_
        · simp only [smockingref00_Deep.l0, if_pos (show (i : Int) < (l.length : Int) by omega), if_pos (show (0 : Int) ≤ (i : Int) by omega), wrap_nat hi hm]
        · refine To.ite (fun _ => To.now _ (fun h => by cases h)) (fun h0 => ?_)
          obtain ⟨b, rfl⟩ : ∃ b, a = b + 1 := ⟨a - 1, by omega⟩
          have hw : wrap64 (((b + 1 : Nat) : Int) - 1) = (b : Int) := by rw [wrap_id (by omega) (by omega)]; omega
          simp only [hw]
          refine To.bind (ih _ hg.2.2.2.2.2.2 hg.2.2.2.2.2.1 b (by omega)) (fun t ht => To.ite (fun _ => To.now _ (fun h => by cases h)) (fun hf => (hk () trivial).mono (fun r hr hrf j h1 h2 => ?_)))
          have hf' : t = false := by simpa using hf
          rcases Nat.eq_or_lt_of_le h1 with rfl | h1
          · exact ⟨hg.1, hg.2.1, hg.2.2.1, hg.2.2.2.1, hg.2.2.2.2.1, hg.2.2.2.2.2.1, ht hf'⟩
          · exact hr hrf j h1 h2)
      l.length 0 (by omega) () trivial
    refine To.mono (by simpa using this) (fun r hr hrf y hy => ?_)
    obtain ⟨j, hj, rfl⟩ := rd_of hy
    exact hr hrf j hj
/-! #### few nodes -/
def SmallN : Nat → S24 → Prop
  | 0, _ => True
  | n + 1, x => x.f5.length ≤ 3000 ∧ ∀ y ∈ x.f5, SmallN n y
theorem nodes_to : ∀ (n : Nat), n ≤ 300 → ∀ (l : List S24), (∀ y ∈ l, GoodN n y) → l.length ≤ maxLen → ∀ a : Int, 0 ≤ a → a ≤ 3000 →
    To (fun k => smockingref00_Nodes.f k l a) (fun r => 0 ≤ r ∧ r ≤ a + n ∧ (r ≤ a → (l.length : Int) ≤ r ∧ ∀ y ∈ l, SmallN n y)) := by
  intro n
  induction n with
  | zero =>
    intro _ l hl hm a h0 ha
    have : l = [] := by cases l with | nil => rfl | cons x l => exact (hl x List.mem_cons_self).elim
    subst this
    refine To.step (f := fun k => smockingref00_Nodes.l0 k [] a 0 0) (fun k => by simp only [smockingref00_Nodes.f]) ?_
    exact To.step (f := fun _ => some 0) (fun k => by simp [smockingref00_Nodes.l0]) (To.now _ ⟨by omega, by omega, fun _ => ⟨by simp, fun y hy => by cases hy⟩⟩)
  | succ n ih =>
    intro hn l hl hm a h0 ha
    refine To.step (f := fun k => smockingref00_Nodes.l0 k l a 0 0) (fun k => by simp only [smockingref00_Nodes.f]) ?_
    have := to_loop (g := fun k (s : Int) i => smockingref00_Nodes.l0 k l a s i) l.length (fun i s => (i : Int) ≤ s ∧ s ≤ a + (n + 1 : Nat))
      (fun i s r => s ≤ r ∧ r ≤ a + (n + 1 : Nat) ∧ (r ≤ a → (l.length : Int) ≤ r ∧ ∀ j : Nat, i ≤ j → j < l.length → SmallN (n + 1) (rd_T24 l (j : Int))))
      (fun s hs => To.step (f := fun _ => some s) (fun k => by simp [smockingref00_Nodes.l0]) (To.now _ ⟨by omega, hs.2, fun hr => ⟨hs.1, fun j h1 h2 => by omega⟩⟩))
      (fun s i hi hs hk => by
        have hg := good_rd hl hi
        refine To.step (f := fun k => if s ≤ a then (smockingref00_Nodes.f k ((rd_T24 l i).f5) (wrap64 (a - s))).bind fun t => smockingref00_Nodes.l0 k l a (wrap64 ((wrap64 (s + 1)) + t)) ((i : Int) + 1) else some s) (fun k => ?_) ?_
        · simp only [smockingref00_Nodes.l0, if_pos (show (i : Int) < (l.length : Int) by omega), if_pos (show (0 : Int) ≤ (i : Int) by omega), wrap_nat hi hm]
        · refine To.ite (fun hsa => ?_) (fun hsa => To.now _ ⟨by omega, hs.2, fun hr => by omega⟩)
          have hw : wrap64 (a - s) = a - s := wrap_id (by omega) (by omega)
          simp only [hw]
          refine To.bind (ih (by omega) _ hg.2.2.2.2.2.2 hg.2.2.2.2.2.1 (a - s) (by omega) (by omega)) (fun t ht => ?_)
          obtain ⟨t0, t1, t2⟩ := ht
          have hw2 : wrap64 ((wrap64 (s + 1)) + t) = s + 1 + t := by rw [wrap_id (x := s + 1) (by omega) (by omega), wrap_id (by omega) (by omega)]
          simp only [hw2]
          refine (hk (s + 1 + t) ⟨by omega, by omega⟩).mono (fun r hr => ⟨by omega, hr.2.1, fun hra => ?_⟩)
          obtain ⟨hlen, hrest⟩ := hr.2.2 hra
          refine ⟨hlen, fun j h1 h2 => ?_⟩
          rcases Nat.eq_or_lt_of_le h1 with rfl | h1
          · obtain ⟨u1, u2⟩ := t2 (by omega)
            exact ⟨by omega, u2⟩
          · exact hrest j h1 h2)
      l.length 0 (by omega) 0 ⟨by omega, by omega⟩
    refine To.mono (by simpa using this) (fun r hr => ⟨by omega, by have := hr.2.1; omega, fun hra => ?_⟩)
    obtain ⟨h1, h2⟩ := hr.2.2 hra
    refine ⟨h1, fun y hy => ?_⟩
    obtain ⟨j, hj, rfl⟩ := rd_of hy
    exact h2 j hj
/-- What is not heavy. -/
def Light (x : S24) : Prop := GoodN 300 x ∧ SmallN 300 x
theorem heavy_to (ts : List S78) (vs : List Int) {x : S24} (hx : Good x) : To (fun k => smockinglaw06_heavy.f k ts vs x.f0 x.f1 x.f2 x.f3 x.f4 x.f5) (fun r => r = false → Light x ∧ ts.length ≤ 3000 ∧ vs.length ≤ 3000) := by
  obtain ⟨n, hn⟩ := hx
  unfold smockinglaw06_heavy.f
  refine To.ite (fun _ => To.now _ (fun h => by cases h)) (fun h1 => To.ite (fun _ => To.now _ (fun h => by cases h)) (fun h2 => ?_))
  have hl : ∀ y ∈ [(⟨x.f0, x.f1, x.f2, x.f3, x.f4, x.f5⟩ : S24)], GoodN n y := fun y hy => by
    rw [List.mem_singleton.1 hy, eta24]
    exact hn
  refine To.bind (Q := fun r => r = false → Light x) ?_ (fun t ht => To.now _ (fun h => ⟨ht h, by omega, by omega⟩))
  unfold smockingref00_Heavy.f
  have hd := deep_to n _ hl (by simp [maxLen]) 300 (by omega)
  refine To.bind hd (fun t ht => To.ite (fun _ => To.now _ (fun h => by cases h)) (fun hf => ?_))
  have hg := ht (by simpa using hf)
  refine To.bind (nodes_to 300 (by omega) _ hg (by simp [maxLen]) 3000 (by omega) (by omega)) (fun t ht => To.ite (fun _ => To.now _ (fun h => by cases h)) (fun hle => ?_))
  obtain ⟨r, hr⟩ := texts_ends 300 _ hg (by simp [maxLen]) 20000
  refine To.bind (To.ev hr) (fun t _ => To.now _ (fun _ => ?_))
  have h3 := (ht.2.2 (by omega)).2
  have e := eta24 x
  rw [e] at hg h3
  exact ⟨hg x (List.mem_singleton.2 rfl), h3 x (List.mem_singleton.2 rfl)⟩
end Go.Proofs.Yteajbghklmkoeaa.Tr
