/- A logic over plain values: regions that draw their order, by a plan. -/
import Derived.Test.YteajbghklmkoeaaPv12
namespace Go.Pv
set_option linter.unusedVariables false
set_option linter.unusedSimpArgs false
section
variable {P : Program} {A : St} {w : World} {g : G} {s : St} {N : Nat} {e e' : Env} {a : Act} {ops : Array Oper} {kd : Nat → Nat}
theorem any_sound {B : Nat} {p : List Nat} {An : List (List Nat)} {Q : Exit → Env → St → Prop} (hQ : ∀ c e e' s, Q (.panic c) e s → Q (.panic c) e' s) (g0 : G) (w0 : World)
    (hdeps : ∀ x, x < ops.size → ∀ y ∈ deps ops x, y < ops.size ∧ y ≠ x) (hA : ∀ i, i < ops.size → ∀ x ∈ An.getD i [], x ∈ deps ops i ∨ ∃ y ∈ deps ops i, x ∈ An.getD y []) :
    ∀ (n : Nat) (l : List Nat) (L : Array Bool) (e : Env) (s : St) (g : G) (a : Act) (w : World), l.length = n → l.Nodup → (∀ i ∈ l, i < ops.size) → l.Pairwise (fun x i => i ∉ deps ops x) → l.Pairwise (fun x i => x ∈ An.getD i [] ∨ swp ops kd x i = true) →
      L.size = ops.size → (∀ j, j < ops.size → (L.getD j true = false ↔ j ∈ l)) → (∀ i, i < ops.size → i ∉ l → ∀ x ∈ An.getD i [], x ∉ l) →
      LE g0 w0 g w → A.sub s → Holds g s w → ER w g N e a → DK B g w a.defers → pwD P A ops kd N l e s (Q .normal) (fun c e s => Q (.panic c) e s) → wpAnyR P .any ops (PQ N B g0 w0 Q) n L a w := by
  intro n
  induction n with
  | zero =>
    intro l L e s g a w hn hnd hlt hp1 hp2 hL hLl hdc hle hA0 hH hE hd h
    have : l = [] := List.eq_nil_of_length_eq_zero hn
    subst this
    refine ⟨?_, e, s, g, hle, hH, hE, hd, h⟩
    apply List.eq_nil_iff_forall_not_mem.2
    intro j hj
    obtain ⟨h1, o, ho, _⟩ := mem_ready.1 hj
    have hjn := (Array.getElem?_eq_some_iff.1 ho).1
    exact absurd ((hLl j hjn).1 h1) (by simp)
  | succ n ih =>
    intro l L e s g a w hn hnd hlt hp1 hp2 hL hLl hdc hle hA0 hH hE hd h
    have getL : ∀ j, j < ops.size → L.getD j false = L.getD j true := fun j hj => by
      rw [Array.getD_eq_getD_getElem?, Array.getD_eq_getD_getElem?, Array.getElem?_eq_getElem (by omega)]; rfl
    refine ⟨fun hr => ?_, fun i hi => ?_⟩
    · -- the first of them is ready
      exfalso
      cases l with
      | nil => simp at hn
      | cons x l =>
        have hx := hlt x List.mem_cons_self
        have : x ∈ Region.ready .any ops L := mem_ready.2 ⟨(hLl x hx).2 List.mem_cons_self, ops[x], Array.getElem?_eq_getElem hx, fun ed hed hb => by
          have hmem : ed.on ∈ deps ops x := by
            unfold deps
            rw [Array.getElem?_eq_getElem hx]
            exact List.mem_map.2 ⟨ed, List.mem_filter.2 ⟨Array.mem_toList_iff.2 hed, hb⟩, rfl⟩
          obtain ⟨h1, h2⟩ := hdeps x hx _ hmem
          rw [getL _ h1]
          by_cases hc : L.getD ed.on true = false
          · have := (hLl _ h1).1 hc
            rcases List.mem_cons.1 this with h3 | h3
            · exact absurd h3 h2
            · exact absurd hmem ((List.pairwise_cons.1 hp1).1 _ h3)
          · simpa using hc⟩
        rw [hr] at this
        cases this
    · obtain ⟨h1, o, ho, hrd⟩ := mem_ready.1 hi
      have hin := (Array.getElem?_eq_some_iff.1 ho).1
      have hil := (hLl i hin).1 h1
      obtain ⟨l1, l2, rfl⟩ := List.append_of_mem hil
      -- what is told before i and is still to come may come behind it
      have hdl : ∀ y ∈ deps ops i, y ∉ l1 ++ i :: l2 := by
        intro y hy hm
        have hy' : ∃ ed ∈ o.after, Region.binds .any ed = true ∧ ed.on = y := by
          unfold deps at hy
          rw [ho] at hy
          obtain ⟨ed, h1, h2⟩ := List.mem_map.1 hy
          obtain ⟨h3, h4⟩ := List.mem_filter.1 h1
          exact ⟨ed, Array.mem_toList_iff.1 h3, h4, h2⟩
        obtain ⟨ed, hed, hb, rfl⟩ := hy'
        have hyn := (hdeps i hin _ hy).1
        have := hrd ed hed hb
        rw [getL _ hyn, (hLl _ hyn).2 hm] at this
        cases this
      have hAl : ∀ x ∈ An.getD i [], x ∉ l1 ++ i :: l2 := by
        intro x hx hm
        rcases hA i hin x hx with h3 | ⟨y, hy, hxy⟩
        · exact hdl x h3 hm
        · exact hdc y (hdeps i hin y hy).1 (hdl y hy) x hxy hm
      have hsw : ∀ x ∈ l1, swp ops kd x i = true := by
        intro x hx
        have := (List.pairwise_append.1 hp2).2.2 x hx i List.mem_cons_self
        exact this.resolve_left (fun hm => hAl x hm (List.mem_append_left _ hx))
      have hoff : Off ops o l1 := by
        intro x hx ox hox
        have := hsw x hx
        unfold swp at this
        rw [hox, ho] at this
        simp only [Bool.and_eq_true] at this
        exact this.1
      have hkinds : ∀ x ∈ l1, ∀ ox, ops[x]? = some ox → ((kindOf (kd x) ox.op = .pure ∨ kindOf (kd x) ox.op = .steady) ∨ ((kindOf (kd x) ox.op).det = true ∧ (kindOf (kd i) o.op).det = true)) ∨ (kindOf (kd x) ox.op = .read ∧ kindOf (kd i) o.op = .grow) ∨ (alc ox.op = true ∧ alc o.op = true) := by
        intro x hx ox hox
        have := hsw x hx
        unfold swp at this
        rw [hox, ho] at this
        simp only [Bool.and_eq_true, Bool.or_eq_true, decide_eq_true_eq] at this
        rcases this.2 with ((h | h) | h) | h
        · exact .inl (.inl h)
        · exact .inl (.inr h)
        · exact .inr (.inl h)
        · exact .inr (.inr h)
      have hstep : stepD P A ops kd N i e s (fun e s => pwD P A ops kd N (l1 ++ l2) e s (Q .normal) (fun c e s => Q (.panic c) e s)) (fun c e s => Q (.panic c) e s) := by
        by_cases hk : (kindOf (kd i) o.op).det = true
        · exact (stepD_det ho hk).2 (bubble_det ho hk l2 l1 e hoff (fun x hx ox hox => by
            rcases hkinds x hx ox hox with (h | h) | h | h
            · rcases h with h | h <;> (rw [h]; rfl)
            · exact h.1
            · rw [h.1]; rfl
            · rw [alc_kind h.2] at hk; cases hk) h)
        · exact bubble_eff hQ ho l2 l1 e s ⟨g.n, fun i hi => hH.fresh i hi⟩ hoff (fun x hx ox hox => by
            rcases hkinds x hx ox hox with (h | h) | h | h
            · exact .inl h
            · exact absurd h.2 hk
            · exact .inr (.inl h)
            · exact .inr (.inr h)) h
      have hsub : (l1 ++ l2).Sublist (l1 ++ i :: l2) := (List.append_sublist_append_left l1).2 (List.sublist_cons_self i l2)
      have hini : i ∉ l1 ++ l2 := by
        intro hm
        rcases List.mem_append.1 hm with h | h
        · exact absurd rfl ((List.nodup_append.1 hnd).2.2 i h i List.mem_cons_self)
        · exact (List.nodup_cons.1 (List.nodup_append.1 hnd).2.1).1 h
      refine stepD_sound hstep hA0 hH hE hd (fun e' s' g' a' w' k1 k2 k3 k4 kA k5 => ?_) (fun c s' g' w' k1 k2 k3 => ⟨e, s', g', hle.trans k1, k2, hE.le k1.toLEv, hd.le k1, k3⟩)
      refine ih (l1 ++ l2) (L.setIfInBounds i true) e' s' g' a' w' (by simp at hn ⊢; omega) (hnd.sublist hsub) (fun j hj => hlt j (hsub.subset hj)) (hp1.sublist hsub) (hp2.sublist hsub) (by simp [hL]) (fun j hj => ?_) (fun j hj hjl x hx hm => ?_) (hle.trans k1) kA k2 k3 k4 k5
      · by_cases hji : i = j
        · subst hji
          constructor
          · intro hf
            rw [Array.getD_eq_getD_getElem?, Array.getElem?_setIfInBounds, if_pos rfl, if_pos (by omega)] at hf
            cases hf
          · intro hm; exact absurd hm hini
        · rw [getD_set_ne true hji, hLl j hj]
          constructor
          · intro hm
            rcases List.mem_append.1 hm with h | h
            · exact List.mem_append_left _ h
            · rcases List.mem_cons.1 h with h | h
              · exact absurd h.symm hji
              · exact List.mem_append_right _ h
          · intro hm; exact hsub.subset hm
      · by_cases hji : j = i
        · subst hji; exact hAl x hx (hsub.subset hm)
        · refine hdc j hj (fun hjm => hjl ?_) x hx (hsub.subset hm)
          rcases List.mem_append.1 hjm with h | h
          · exact List.mem_append_left _ h
          · rcases List.mem_cons.1 h with h | h
            · exact absurd h hji
            · exact List.mem_append_right _ h
/-- A region that draws its order, told by a plan. -/
theorem PW.draw {id : Nat} {p : List Nat} {An : List (List Nat)} {Q : Exit → Env → St → Prop} (hm : P.follows .mixedOrders = true) (hQ : ∀ c e e' s, Q (.panic c) e s → Q (.panic c) e' s) (hc : chk ops kd p An = true) (hA : A.sub s)
    (h : pwD P A ops kd N p e s (Q .normal) (fun c e s => Q (.panic c) e s)) : PW P N (.region id ops true) e s Q := by
  unfold chk at hc
  simp only [Bool.and_eq_true, decide_eq_true_eq, List.all_eq_true] at hc
  obtain ⟨⟨⟨⟨⟨⟨⟨c1, c8⟩, c2⟩, c3⟩, c4⟩, c5⟩, c6⟩, c7⟩ := hc
  have hall : ∀ i, i < ops.size → i ∈ p := fun i hi => by simpa using c8 i (List.mem_range.2 hi)
  intro r B g a w hr hH hE hd
  refine wpR_draw hm ?_
  have hH' : Holds g s { w with drawn := w.drawn + 1 } := hH.heap rfl
  have hle : LE g w g { w with drawn := w.drawn + 1 } := ⟨LEv.same rfl, rfl, rfl, rfl, Nat.le_refl _⟩
  refine any_sound (An := An) (p := p) hQ g w (fun x hx y hy => c4 x (hall x hx) y hy) (fun i hi x hx => ?_) ops.size p _ e s g a _ c1 c3 c2 c5 ?_ (by simp) (fun j hj => ?_) (fun i hi hni => absurd (hall i hi) hni) hle hA hH' (hE.le hle.toLEv) (hd.le hle) h
  · have := c6 i (hall i hi) x hx
    rw [Bool.or_eq_true, List.any_eq_true] at this
    rcases this with h | ⟨y, hy, h⟩
    · exact .inl (by simpa using h)
    · exact .inr ⟨y, hy, by simpa using h⟩
  · exact c7.imp fun h => h.imp (fun h => by simpa using h) (fun h => h)
  · constructor
    · intro _; exact hall j hj
    · intro _
      rw [Array.getD_eq_getD_getElem?, Array.getElem?_replicate, if_pos hj]; rfl
end
end Go.Pv
