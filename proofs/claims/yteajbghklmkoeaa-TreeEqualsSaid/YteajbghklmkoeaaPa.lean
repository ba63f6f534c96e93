/- Plain facts: what comes to an end; the test for heavy trees does. -/
import Derived.Test.YteajbghklmkoeaaOpen
import Derived.Test.YteajbghklmkoeaaTrf11
namespace Go.Proofs.Yteajbghklmkoeaa.Tr
open Go.RowKit Go.Proofs.YteajbghklmkoeaaW.PrintWords
set_option linter.unusedVariables false
set_option linter.unusedSimpArgs false

/-- It comes to an end. -/
def Ends {α : Type} (g : Nat → Option α) : Prop := ∃ r, Ev g r
theorem Ends.now {α : Type} (r : α) : Ends (fun _ => some r) := ⟨r, Ev.now r⟩
theorem Ends.step {α : Type} {g f : Nat → Option α} (h : ∀ k, g (k + 1) = f k) (k : Ends f) : Ends g := by
  obtain ⟨r, hr⟩ := k
  exact ⟨r, Ev.step h hr⟩
theorem Ends.bind {α β : Type} {g : Nat → Option α} {f : Nat → α → Option β} (h : Ends g) (k : ∀ a, Ends (fun n => f n a)) : Ends (fun n => (g n).bind (f n)) := by
  obtain ⟨a, ha⟩ := h
  obtain ⟨r, hr⟩ := k a
  exact ⟨r, Ev.bind ha hr⟩
theorem Ends.ite {α : Type} {c : Prop} [Decidable c] {g f : Nat → Option α} (h : c → Ends g) (k : ¬ c → Ends f) : Ends (fun n => if c then g n else f n) := by
  by_cases hc : c
  · simp only [if_pos hc]; exact h hc
  · simp only [if_neg hc]; exact k hc
theorem Ends.ends {α : Type} {g f : Nat → Option α} (h : ∀ k, g k = f k) (k : Ends f) : Ends g := by
  have : g = f := funext h
  rw [this]; exact k
/-- A loop over the places of a list. -/
theorem ends_loop {β R : Type} {g : Nat → β → Int → Option R} (n : Nat)
    (h0 : ∀ b, Ends (fun k => g k b n)) (hs : ∀ b (i : Nat), i < n → (∀ b', Ends (fun k => g k b' ((i : Int) + 1))) → Ends (fun k => g k b i)) :
    ∀ (d i : Nat), i + d = n → ∀ b, Ends (fun k => g k b i) := by
  intro d
  induction d with
  | zero =>
    intro i hi b
    obtain rfl : i = n := by omega
    exact h0 b
  | succ d ih =>
    intro i hi b
    refine hs b i (by omega) (fun b' => ?_)
    have := ih (i + 1) (by omega) b'
    simpa using this
theorem wrap_nat {i n : Nat} (h : i < n) (hn : n ≤ maxLen) : wrap64 ((i : Int) + 1) = (i : Int) + 1 := by
  unfold wrap64
  unfold maxLen at hn
  omega
theorem rd_mem {l : List S24} {i : Nat} (h : i < l.length) : rd_T24 l (i : Int) ∈ l := by
  unfold rd_T24
  rw [List.getD_eq_getElem?_getD]
  simp only [Int.toNat_natCast]
  rw [List.getElem?_eq_getElem h]
  exact List.getElem_mem h
theorem good_rd {n : Nat} {l : List S24} (h : ∀ y ∈ l, GoodN n y) {i : Nat} (hi : i < l.length) : GoodN n (rd_T24 l (i : Int)) := h _ (rd_mem hi)

theorem eta24 (x : S24) : (⟨x.f0, x.f1, x.f2, x.f3, x.f4, x.f5⟩ : S24) = x := by cases x; rfl

/-! #### Heavy -/
theorem deep_ends : ∀ (n : Nat) (l : List S24), (∀ y ∈ l, GoodN n y) → l.length ≤ maxLen → ∀ a, Ends (fun k => smockingref00_Deep.f k l a) := by
  intro n
  induction n with
  | zero =>
    intro l hl hm a
    have : l = [] := by cases l with | nil => rfl | cons x l => exact (hl x List.mem_cons_self).elim
    subst this
    refine Ends.step (f := fun k => smockingref00_Deep.l0 k [] a 0) (fun k => by simp only [smockingref00_Deep.f]) ?_
    exact Ends.step (f := fun _ => some false) (fun k => by simp [smockingref00_Deep.l0]) (Ends.now _)
  | succ n ih =>
    intro l hl hm a
    refine Ends.step (f := fun k => smockingref00_Deep.l0 k l a 0) (fun k => by simp only [smockingref00_Deep.f]) ?_
    have := ends_loop (g := fun k (_ : Unit) i => smockingref00_Deep.l0 k l a i) l.length
      (fun _ => Ends.step (f := fun _ => some false) (fun k => by simp [smockingref00_Deep.l0]) (Ends.now _))
      (fun _ i hi hk => by
        have hg := good_rd hl hi
        refine Ends.step (f := fun k => if a = 0 then some true else (smockingref00_Deep.f k ((rd_T24 l i).f5) (wrap64 (a - 1))).bind fun t => if t = true then some true else smockingref00_Deep.l0 k l a ((i : Int) + 1)) (fun k => ?_) ?_
        · simp only [smockingref00_Deep.l0, if_pos (show (i : Int) < (l.length : Int) by omega), if_pos (show (0 : Int) ≤ (i : Int) by omega), if_true, wrap_nat hi hm]
        · refine Ends.ite (fun _ => Ends.now _) (fun _ => Ends.bind (ih _ hg.2.2.2.2.2.2 hg.2.2.2.2.2.1 _) (fun t => Ends.ite (fun _ => Ends.now _) (fun _ => hk ()))))
      l.length 0 (by omega) ()
    simpa using this
theorem nodes_ends : ∀ (n : Nat) (l : List S24), (∀ y ∈ l, GoodN n y) → l.length ≤ maxLen → ∀ a, Ends (fun k => smockingref00_Nodes.f k l a) := by
  intro n
  induction n with
  | zero =>
    intro l hl hm a
    have : l = [] := by cases l with | nil => rfl | cons x l => exact (hl x List.mem_cons_self).elim
    subst this
    refine Ends.step (f := fun k => smockingref00_Nodes.l0 k [] a 0 0) (fun k => by simp only [smockingref00_Nodes.f]) ?_
    exact Ends.step (f := fun _ => some 0) (fun k => by simp [smockingref00_Nodes.l0]) (Ends.now _)
  | succ n ih =>
    intro l hl hm a
    refine Ends.step (f := fun k => smockingref00_Nodes.l0 k l a 0 0) (fun k => by simp only [smockingref00_Nodes.f]) ?_
    have := ends_loop (g := fun k (s : Int) i => smockingref00_Nodes.l0 k l a s i) l.length
      (fun s => Ends.step (f := fun _ => some s) (fun k => by simp [smockingref00_Nodes.l0]) (Ends.now _))
      (fun s i hi hk => by
        have hg := good_rd hl hi
        refine Ends.step (f := fun k => if s ≤ a then (smockingref00_Nodes.f k ((rd_T24 l i).f5) (wrap64 (a - s))).bind fun t => smockingref00_Nodes.l0 k l a (wrap64 ((wrap64 (s + 1)) + t)) ((i : Int) + 1) else some s) (fun k => ?_) ?_
        · simp only [smockingref00_Nodes.l0, if_pos (show (i : Int) < (l.length : Int) by omega), if_pos (show (0 : Int) ≤ (i : Int) by omega), if_true, wrap_nat hi hm]
        · refine Ends.ite (fun _ => Ends.bind (ih _ hg.2.2.2.2.2.2 hg.2.2.2.2.2.1 _) (fun t => hk _)) (fun _ => Ends.now _))
      l.length 0 (by omega) 0
    simpa using this
theorem texts_ends : ∀ (n : Nat) (l : List S24), (∀ y ∈ l, GoodN n y) → l.length ≤ maxLen → ∀ a, Ends (fun k => smockingref00_Texts.f k l a) := by
  intro n
  induction n with
  | zero =>
    intro l hl hm a
    have : l = [] := by cases l with | nil => rfl | cons x l => exact (hl x List.mem_cons_self).elim
    subst this
    refine Ends.step (f := fun k => smockingref00_Texts.l0 k [] a 0 0) (fun k => by simp only [smockingref00_Texts.f]) ?_
    refine Ends.step (f := fun k => smockingref00_Texts.j1 k [] a 0 0 false) (fun k => by simp [smockingref00_Texts.l0]) ?_
    exact Ends.step (f := fun _ => if (0 : Int) > a then some (wrap64 (a + 1)) else some 0) (fun k => by simp [smockingref00_Texts.j1]) (Ends.ite (fun _ => Ends.now _) (fun _ => Ends.now _))
  | succ n ih =>
    intro l hl hm a
    refine Ends.step (f := fun k => smockingref00_Texts.l0 k l a 0 0) (fun k => by simp only [smockingref00_Texts.f]) ?_
    have hno : ∀ (s i : Int), Ends (fun k => smockingref00_Texts.j1 k l a s i false) := fun s i =>
      Ends.step (f := fun _ => if s > a then some (wrap64 (a + 1)) else some s) (fun k => by simp [smockingref00_Texts.j1]) (Ends.ite (fun _ => Ends.now _) (fun _ => Ends.now _))
    have := ends_loop (g := fun k (s : Int) i => smockingref00_Texts.l0 k l a s i) l.length
      (fun s => Ends.step (f := fun k => smockingref00_Texts.j1 k l a s l.length false) (fun k => by simp [smockingref00_Texts.l0]) (hno _ _))
      (fun s i hi hk => by
        have hg := good_rd hl hi
        refine Ends.step (f := fun k => smockingref00_Texts.j1 k l a s i (decide (s ≤ a))) (fun k => by simp only [smockingref00_Texts.l0]; rw [if_pos (by omega)]) ?_
        by_cases hs : s ≤ a
        · rw [decide_eq_true hs]
          refine Ends.step (f := fun k => if (wrap64 (s + (((rd_T24 l i).f1).size : Int))) ≤ a then (smockingref00_Texts.f k ((rd_T24 l i).f5) (wrap64 (a - (wrap64 (s + (((rd_T24 l i).f1).size : Int)))))).bind fun t => smockingref00_Texts.l0 k l a (wrap64 ((wrap64 (s + (((rd_T24 l i).f1).size : Int))) + t)) ((i : Int) + 1) else smockingref00_Texts.l0 k l a (wrap64 (s + (((rd_T24 l i).f1).size : Int))) ((i : Int) + 1)) (fun k => ?_) ?_
          · simp only [smockingref00_Texts.j1, if_pos (show (i : Int) < (l.length : Int) by omega), if_pos (show (0 : Int) ≤ (i : Int) by omega), if_true, wrap_nat hi hm]
          · exact Ends.ite (fun _ => Ends.bind (ih _ hg.2.2.2.2.2.2 hg.2.2.2.2.2.1 _) (fun t => hk _)) (fun _ => hk _)
        · rw [decide_eq_false hs]
          exact hno _ _)
      l.length 0 (by omega) 0
    simpa using this
theorem Heavy_ends (n : Nat) (l : List S24) (hl : ∀ y ∈ l, GoodN n y) (hm : l.length ≤ maxLen) (a : Int) : Ends (fun k => smockingref00_Heavy.f k l a) := by
  unfold smockingref00_Heavy.f
  exact Ends.bind (deep_ends n l hl hm _) (fun t => Ends.ite (fun _ => Ends.now _) (fun _ => Ends.bind (nodes_ends n l hl hm _) (fun t => Ends.ite (fun _ => Ends.now _) (fun _ => Ends.bind (texts_ends n l hl hm _) (fun t => Ends.now _)))))
theorem heavy_ends (ts : List S78) (vs : List Int) {x : S24} (hx : Good x) : Ends (fun k => smockinglaw06_heavy.f k ts vs x.f0 x.f1 x.f2 x.f3 x.f4 x.f5) := by
  obtain ⟨n, hn⟩ := hx
  unfold smockinglaw06_heavy.f
  refine Ends.ite (fun _ => Ends.now _) (fun _ => Ends.ite (fun _ => Ends.now _) (fun _ => Ends.bind (Heavy_ends n _ (fun y hy => ?_) (by simp [maxLen]) _) (fun t => Ends.now _)))
  rw [List.mem_singleton.1 hy, eta24]
  exact hn

end Go.Proofs.Yteajbghklmkoeaa.Tr
