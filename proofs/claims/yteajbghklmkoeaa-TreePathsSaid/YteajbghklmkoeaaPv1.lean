/- A logic over plain values: what a call does, what a piece of code does; the rules for code. -/
import Derived.Test.YteajbghklmkoeaaPvR
namespace Go.Pv
set_option linter.unusedVariables false
set_option linter.unusedSimpArgs false
/-- How a call ends. -/
inductive Res where
  | ret (p : PV)
  | pan (c : List PanicEntry)
inductive RR (w : World) (g : G) : Res → Ending → Prop where
  | ret (p : PV) (v : Value) (h : VR w g p v) : RR w g (.ret p) (.returned v)
  | pan (c : List PanicEntry) : RR w g (.pan c) (.panicked c)
def Args (w : World) (g : G) (ps : List PV) (vs : Array Value) : Prop := vs.size = ps.length ∧ ∀ (i : Nat) (p : PV) (v : Value), ps[i]? = some p → vs[i]? = some v → VR w g p v
def enters (P : Program) (f : FuncId) : Bool := match P.funcs[f]? with
  | some fn => fn.name != "runtime.NumGoroutine" && fn.body.isSome
  | none => false
theorem run_enters {P : Program} {f : FuncId} (h : enters P f = true) (args : Array Value) (w : World) : (callFunc f args).run P w = .ok (.enter f args) w := by
  unfold enters at h
  split at h
  · rename_i fn hf
    simp only [Bool.and_eq_true, bne_iff_ne, ne_eq] at h
    obtain ⟨h1, h2⟩ := h
    cases hb : fn.body with
    | none => simp [hb] at h2
    | some c => simp [callFunc, go_sem, hf, h1, hb]
  · cases h
/-- The call of function f at these arguments, in these abstract blocks, ends as R says. -/
def PEnt (P : Program) (f : FuncId) (args : List PV) (s : St) (R : Res → St → Prop) : Prop :=
  enters P f = true ∧ ∀ (g : G) (w : World) (vs : Array Value), Holds g s w → Args w g args vs →
    Calls P f vs w fun e w' => ∃ res s' g', LE g w g' w' ∧ Holds g' s' w' ∧ RR w' g' res e ∧ R res s'
/-- .. of a function without a body, that the model knows. -/
def PExt (P : Program) (f : FuncId) (args : List PV) (s : St) (R : Res → St → Prop) : Prop :=
  ∀ (g : G) (w : World) (vs : Array Value), Holds g s w → Args w g args vs →
    ∃ p v s' g' w', (callFunc f vs).run P w = .ok (.value v) w' ∧ LE g w g' w' ∧ Holds g' s' w' ∧ VR w' g' p v ∧ R (.ret p) s'
def PCalls (P : Program) (f : FuncId) (args : List PV) (s : St) (R : Res → St → Prop) : Prop := PEnt P f args s R ∨ PExt P f args s R
theorem PCalls.mono {P : Program} {f : FuncId} {args : List PV} {s : St} {R R' : Res → St → Prop} (h : PCalls P f args s R) (hr : ∀ r s, R r s → R' r s) : PCalls P f args s R' :=
  h.imp (fun h => ⟨h.1, fun g w vs hH hA => (h.2 g w vs hH hA).mono fun e w' ⟨res, s', g', h1, h2, h3, h4⟩ => ⟨res, s', g', h1, h2, h3, hr _ _ h4⟩⟩)
    (fun h g w vs hH hA => (by obtain ⟨p, v, s', g', w', h1, h2, h3, h4, h5⟩ := h g w vs hH hA; exact ⟨p, v, s', g', w', h1, h2, h3, h4, hr _ _ h5⟩))
/-- A loop's round, asked for at these arguments, ends as K says. -/
def PYld (P : Program) (i : Nat) (args : List PV) (s : St) (K : PV → St → Prop) : Prop :=
  ∀ (g : G) (w : World) (vs : Array Value), Holds g s w → i < g.n → Args w g args vs →
    ∃ l f tmps assign body, (Instr.yield (g.mu i).blk vs).run P w = .ok (.round l f tmps assign body) w ∧
      RoundIn (fen none) 0 P l f tmps assign body w (fun e w' => ∃ p v s' g', e = .returned v ∧ LE g w g' w' ∧ Holds g' s' w' ∧ VR w' g' p v ∧ K p s')
theorem PYld.mono {P : Program} {i : Nat} {args : List PV} {s : St} {K K' : PV → St → Prop} (h : PYld P i args s K) (hK : ∀ p s, K p s → K' p s) : PYld P i args s K' := fun g w vs hH hi hA => by
  obtain ⟨l, f, tmps, assign, body, h1, h2⟩ := h g w vs hH hi hA
  exact ⟨l, f, tmps, assign, body, h1, h2.mono fun e w' ⟨p, v, s', g', k1, k2, k3, k4, k5⟩ => ⟨p, v, s', g', k1, k2, k3, k4, hK _ _ k5⟩⟩
/-- Deferred calls: none but the marks of loops over functions that are done, each with a block of its own. -/
def Defs (B : Nat) (g : G) (w : World) : List Deferred → Prop
  | [] => True
  | d :: ds => (∃ D, d = { target := .collected D, args := #[] } ∧ B ≤ D ∧ g.Z D ∧ w.heap[D]? = some (.deferred (some []))) ∧ (∀ d' ∈ ds, d' ≠ d) ∧ Defs B g w ds
theorem Defs.le {B : Nat} {g g' : G} {w w' : World} (hle : LEv g w g' w') : ∀ {ds : List Deferred}, Defs B g w ds → Defs B g' w' ds
  | [], h => h
  | d :: ds, h => by
    obtain ⟨⟨D, h1, h2, h3, h4⟩, h5, h6⟩ := h
    exact ⟨⟨D, h1, h2, hle.Z _ h3, by rw [hle.block _ h3]; exact h4⟩, h5, h6.le hle⟩
def DK (B : Nat) (g : G) (w : World) (ds : List Deferred) : Prop := B ≤ w.heap.size ∧ Defs B g w ds
theorem DK.le {B : Nat} {g g' : G} {w w' : World} {ds : List Deferred} (h : DK B g w ds) (hle : LE g w g' w') : DK B g' w' ds := ⟨Nat.le_trans h.1 hle.size, h.2.le hle.toLEv⟩
/-- What holds where a piece of code has come to. -/
def PQ (N B : Nat) (g : G) (w : World) (Q : Exit → Env → St → Prop) : Exit → Act → World → Prop := fun ex a' w' =>
  ∃ e' s' g', LE g w g' w' ∧ Holds g' s' w' ∧ ER w' g' N e' a' ∧ DK B g' w' a'.defers ∧ Q ex e' s'
def PW (P : Program) (N : Nat) (c : Code) (e : Env) (s : St) (Q : Exit → Env → St → Prop) : Prop :=
  ∀ (r : Option Nat) (B : Nat) (g : G) (a : Act) (w : World), okR c r → Holds g s w → ER w g N e a → DK B g w a.defers → c.wpIn (fen r) 0 P (PQ N B g w Q) a w
theorem PQ.trans {N B : Nat} {g g' : G} {w w' : World} {Q : Exit → Env → St → Prop} (h : LE g w g' w') {ex : Exit} {a : Act} {w1 : World} (hq : PQ N B g' w' Q ex a w1) : PQ N B g w Q ex a w1 := by
  obtain ⟨e1, s1, g1, h1, h2, h3, h4, h5⟩ := hq
  exact ⟨e1, s1, g1, h.trans h1, h2, h3, h4, h5⟩
section
variable {P : Program} {N : Nat} {e : Env} {s : St} {Q Q' : Exit → Env → St → Prop}
theorem PW.mono {c : Code} (h : PW P N c e s Q) (hq : ∀ x e s, Q x e s → Q' x e s) : PW P N c e s Q' :=
  fun r B g a w hr hH hE hd => wpIn_mono (h r B g a w hr hH hE hd) fun ex a' w' ⟨e', s', g', h1, h2, h3, h4, h5⟩ => ⟨e', s', g', h1, h2, h3, h4, hq _ _ _ h5⟩
theorem PW.skip (h : Q .normal e s) : PW P N .skip e s Q := fun r B g a w hr hH hE hd => wpIn_skip ⟨e, s, g, .refl _ _, hH, hE, hd, h⟩
theorem PW.exit {id : Nat} (h : Q (.exit id) e s) : PW P N (.exit id) e s Q := fun r B g a w hr hH hE hd => wpIn_exit ⟨e, s, g, .refl _ _, hH, hE, hd, h⟩
theorem PW.ret (h : Q .ret e s) : PW P N .ret e s Q := fun r B g a w hr hH hE hd => wpIn_ret ⟨e, s, g, .refl _ _, hH, hE, hd, h⟩
def thenQ (K : Env → St → Prop) (Q : Exit → Env → St → Prop) : Exit → Env → St → Prop
  | .normal, e, s => K e s
  | x, e, s => Q x e s
def inB (id : Nat) (Q : Exit → Env → St → Prop) : Exit → Env → St → Prop
  | .exit i, e, s => if i = id then Q .normal e s else Q (.exit i) e s
  | x, e, s => Q x e s
theorem PW.seq {x y : Code} (h : PW P N x e s (thenQ (fun e s => PW P N y e s Q) Q)) : PW P N (.seq x y) e s Q := by
  intro r B g a w hr hH hE hd
  refine wpIn_seq (wpIn_mono (h r B g a w (hr.left rfl) hH hE hd) ?_)
  rintro ex a' w' ⟨e', s', g', h1, h2, h3, h4, h5⟩
  cases ex with
  | normal => exact wpIn_mono (h5 r B g' a' w' (hr.right rfl) h2 h3 h4) fun _ _ _ => PQ.trans h1
  | exit id => exact ⟨e', s', g', h1, h2, h3, h4, h5⟩
  | goto l => exact ⟨e', s', g', h1, h2, h3, h4, h5⟩
  | ret => exact ⟨e', s', g', h1, h2, h3, h4, h5⟩
  | panic c => exact ⟨e', s', g', h1, h2, h3, h4, h5⟩
  | outgrown => exact ⟨e', s', g', h1, h2, h3, h4, h5⟩
theorem PW.cond {c : Operand} {x y : Code} {t : Bool} (hc : e.ev c = .lit (.bool t)) (ht : t = true → PW P N x e s Q) (hf : t = false → PW P N y e s Q) : PW P N (.cond c x y) e s Q := by
  intro r B g a w hr hH hE hd
  have hv := hE.ev c
  rw [hc] at hv
  generalize hcv : a.eval c = cv at hv
  cases hv with
  | lit v hs => exact wpIn_cond_split hcv (fun h => ht h r B g a w (hr.left rfl) hH hE hd) (fun h => hf h r B g a w (hr.right rfl) hH hE hd)
theorem PW.block {id : Nat} {c : Code} (h : PW P N c e s (inB id Q)) : PW P N (.block id c) e s Q := by
  intro r B g a w hr hH hE hd
  refine wpIn_block (wpIn_mono (h r B g a w (hr.of rfl) hH hE hd) ?_)
  rintro ex a' w' ⟨e', s', g', h1, h2, h3, h4, h5⟩
  cases ex with
  | exit i =>
    simp only [inB] at h5
    simp only [Exit.inBlock]
    split at h5
    · rw [if_pos ‹_›]; exact ⟨e', s', g', h1, h2, h3, h4, h5⟩
    · rw [if_neg ‹_›]; exact ⟨e', s', g', h1, h2, h3, h4, h5⟩
  | normal => exact ⟨e', s', g', h1, h2, h3, h4, h5⟩
  | goto l => exact ⟨e', s', g', h1, h2, h3, h4, h5⟩
  | ret => exact ⟨e', s', g', h1, h2, h3, h4, h5⟩
  | panic c => exact ⟨e', s', g', h1, h2, h3, h4, h5⟩
  | outgrown => exact ⟨e', s', g', h1, h2, h3, h4, h5⟩
/-- A loop, by a relation that bears a number which every round lowers. -/
theorem PW.loop {c : Code} (I : Nat → Env → St → Prop) (n : Nat) (h0 : I n e s) (round : ∀ n e s, I n e s → PW P N c e s (thenQ (fun e' s' => ∃ m, m < n ∧ I m e' s') Q)) : PW P N (.loop c) e s Q := by
  intro r B g a w hr hH hE hd
  refine wpIn_ghost (fun n a' w' => ∃ e' s' g', LE g w g' w' ∧ Holds g' s' w' ∧ ER w' g' N e' a' ∧ DK B g' w' a'.defers ∧ I n e' s') n ⟨e, s, g, .refl _ _, hH, hE, hd, h0⟩ ?_
  rintro n a' w' ⟨e', s', g', h1, h2, h3, h4, h5⟩
  refine wpIn_mono (round n e' s' h5 r B g' a' w' (hr.of rfl) h2 h3 h4) ?_
  rintro ex a2 w2 ⟨e2, s2, g2, k1, k2, k3, k4, k5⟩
  cases ex with
  | normal =>
    obtain ⟨m, hm, hI⟩ := k5
    exact ⟨m, hm, e2, s2, g2, h1.trans k1, k2, k3, k4, hI⟩
  | exit i => exact ⟨e2, s2, g2, h1.trans k1, k2, k3, k4, k5⟩
  | goto l => exact ⟨e2, s2, g2, h1.trans k1, k2, k3, k4, k5⟩
  | ret => exact ⟨e2, s2, g2, h1.trans k1, k2, k3, k4, k5⟩
  | panic c => exact ⟨e2, s2, g2, h1.trans k1, k2, k3, k4, k5⟩
  | outgrown => exact ⟨e2, s2, g2, h1.trans k1, k2, k3, k4, k5⟩
/-- Fewer blocks, and less of the frame, may be known. -/
theorem PW.weak {c : Code} {e' : Env} {s' : St} (h : PW P N c e' s' Q) (he : ∀ t, e' t = e t ∨ e' t = .junk) (hs : s'.sub s) : PW P N c e s Q := by
  intro r B g a w hr hH hE hd
  refine h r B g a w hr (hH.sub hs) ⟨hE.size, fun t => ?_⟩ hd
  rcases he t with h | h
  · rw [h]; exact hE.vr t
  · rw [h]; exact .junk _
end
/-! ### Memory -/
theorem add_zero_add (a : Addr) (i : Nat) : (a.add i).block = a.block := by unfold Addr.add; split <;> rfl
theorem add_plain (b o n : Nat) : (⟨b, o, none⟩ : Addr).add n = ⟨b, o + n, none⟩ := by unfold Addr.add; split <;> simp_all
theorem run_loadCellsFrom {P : Program} {w : World} {a : Addr} : ∀ (vs : List Value) (i : Nat) (acc : Array Value), (∀ (j : Nat) (v : Value), vs[j]? = some v → w.cell? (a.add (i + j)) = some v) →
    (loadCellsFrom a i vs.length acc).run P w = .ok (acc ++ vs.toArray) w
  | [], i, acc, _ => by simp [loadCellsFrom]
  | v :: vs, i, acc, h => by
    have h0 : w.cell? (a.add i) = some v := by simpa using h 0 v rfl
    have ih := run_loadCellsFrom (P := P) (w := w) (a := a) vs (i + 1) (acc.push v) (fun j u hu => by rw [Nat.add_assoc, Nat.add_comm 1 j]; exact h (j + 1) u hu)
    simp only [List.length_cons, loadCellsFrom, Sem.run_bind, run_load, h0, Result.andThen_ok, ih]
    simp
theorem run_loadCells {P : Program} {w : World} {a : Addr} (vs : List Value) (h : ∀ (j : Nat) (v : Value), vs[j]? = some v → w.cell? (a.add j) = some v) (n : Nat) (hn : n = vs.length) : (loadCells a n).run P w = .ok vs.toArray w := by
  subst hn
  have := run_loadCellsFrom (P := P) (w := w) (a := a) vs 0 #[] (fun j v hv => by rw [Nat.zero_add]; exact h j v hv)
  simpa [loadCells] using this
/-- The world with one block's cells other. -/
def withCells (w : World) (k : Nat) (arr : Array Value) (ty : TypeId) : World := { w with heap := w.heap.setIfInBounds k (.cells arr ty (0, 0)) }
def spliceA (arr : Array Value) (o : Nat) : List Value → Array Value
  | [] => arr
  | v :: vs => spliceA (arr.setIfInBounds o v) (o + 1) vs
theorem spliceA_size (vs : List Value) : ∀ (arr : Array Value) (o : Nat), (spliceA arr o vs).size = arr.size := by
  induction vs with
  | nil => intro _ _; rfl
  | cons v vs ih => intro arr o; simp [spliceA, ih]
theorem spliceA_get (vs : List Value) : ∀ (arr : Array Value) (o : Nat), o + vs.length ≤ arr.size → ∀ j, (spliceA arr o vs)[j]? = if o ≤ j ∧ j < o + vs.length then vs[j - o]? else arr[j]? := by
  induction vs with
  | nil => intro arr o _ j; simp [spliceA]; omega
  | cons v vs ih =>
    intro arr o h j
    simp only [List.length_cons] at h
    simp only [spliceA, List.length_cons]
    rw [ih _ _ (by simp; omega)]
    by_cases h1 : o + 1 ≤ j ∧ j < o + 1 + vs.length
    · rw [if_pos h1, if_pos (by omega), show j - o = (j - (o + 1)) + 1 by omega, List.getElem?_cons_succ]
    · rw [if_neg h1, Array.getElem?_setIfInBounds]
      by_cases h2 : o = j
      · subst h2
        rw [if_pos rfl, if_pos (by omega), if_pos (by omega)]
        simp
      · rw [if_neg h2, if_neg (by omega)]
theorem run_storeCells {P : Program} (k : Nat) (ty : TypeId) : ∀ (vs : List Value) (w : World) (arr : Array Value) (o i : Nat), w.heap[k]? = some (.cells arr ty (0, 0)) → o + i + vs.length ≤ arr.size → (∀ v ∈ vs, Value.oneCell' v = true) →
    (storeCells ⟨k, o, none⟩ vs i).run P w = .ok () (withCells w k (spliceA arr (o + i) vs) ty)
  | [], w, arr, o, i, hb, _, _ => by
    have : withCells w k (spliceA arr (o + i) []) ty = w := by
      have hk : k < w.heap.size := by
        rcases Nat.lt_or_ge k w.heap.size with h | h
        · exact h
        · rw [Array.getElem?_eq_none h] at hb; cases hb
      have : w.heap.setIfInBounds k (.cells arr ty (0, 0)) = w.heap := by
        apply Array.ext_getElem?
        intro j
        rw [Array.getElem?_setIfInBounds]
        split
        · rename_i h; subst h; rw [hb]
        · rfl
      simp only [withCells, spliceA]
      rw [this]
    rw [this]
    rfl
  | v :: vs, w, arr, o, i, hb, hl, h1 => by
    simp only [List.length_cons] at hl
    have hcell : w.cell? (Addr.add ⟨k, o, none⟩ i) = arr[o + i]? := by rw [add_plain]; simp [World.cell?, hb]
    have hin : o + i < arr.size := by omega
    rw [Array.getElem?_eq_getElem hin] at hcell
    have hfr : w.frozen? (Addr.add ⟨k, o, none⟩ i) = false := by rw [add_plain]; simp [World.frozen?, hb]
    have hset : w.setCell (Addr.add ⟨k, o, none⟩ i) v = withCells w k (arr.setIfInBounds (o + i) v) ty := by
      rw [add_plain]
      simp only [World.setCell, withCells]
      congr 1
      apply Array.ext_getElem?
      intro j
      rw [Array.getElem?_modify, Array.getElem?_setIfInBounds]
      split
      · rename_i h
        subst h
        have hk : k < w.heap.size := by
          rcases Nat.lt_or_ge k w.heap.size with h | h
          · exact h
          · rw [Array.getElem?_eq_none h] at hb; cases hb
        rw [if_pos hk, hb]
        rfl
      · rfl
    have hk : k < w.heap.size := by
      rcases Nat.lt_or_ge k w.heap.size with h | h
      · exact h
      · rw [Array.getElem?_eq_none h] at hb; cases hb
    have ih := run_storeCells (P := P) k ty vs (withCells w k (arr.setIfInBounds (o + i) v) ty) (arr.setIfInBounds (o + i) v) o (i + 1) (by simp [withCells, hk]) (by simp; omega) (fun u hu => h1 u (List.mem_cons_of_mem _ hu))
    simp only [storeCells, Sem.run_bind, run_store P w _ v _ (h1 v List.mem_cons_self), hcell, hfr, Bool.false_eq_true, if_false, hset, Result.andThen_ok, ih]
    simp only [withCells, spliceA, Nat.add_assoc]
    congr 2
    apply Array.ext_getElem?
    intro j
    rw [Array.getElem?_setIfInBounds, Array.getElem?_setIfInBounds, Array.getElem?_setIfInBounds]
    split <;> simp_all
end Go.Pv
