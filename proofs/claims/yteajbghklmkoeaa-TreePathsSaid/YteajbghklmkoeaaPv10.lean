/- A logic over plain values: calls, and what may be done to the blocks between the lines. -/
import Derived.Test.YteajbghklmkoeaaPv9
namespace Go.Pv
set_option linter.unusedVariables false
set_option linter.unusedSimpArgs false
def resP1 (P : Program) (e : Env) (s : St) : ResultVar → Option PV
  | .tmp t => some (e t)
  | .cell a t => (tsz P t).bind fun n => (aggT P t).bind fun ag => (cellsAt s (e a) n).bind fun cs => pack ag cs
def resP (P : Program) (e : Env) (s : St) : List ResultVar → Option (List PV)
  | [] => some []
  | r :: rs => (resP1 P e s r).bind fun p => (resP P e s rs).map fun ps => p :: ps
def one : List PV → PV
  | [p] => p
  | ps => .tup ps
/-- What must hold where a function's body ends. -/
def retQ (P : Program) (rs : List ResultVar) (R : Res → St → Prop) : Exit → Env → St → Prop
  | .normal, e, s => ∃ ps, resP P e s rs = some ps ∧ ∃ s', s'.sub s ∧ R (.ret (one ps)) s'
  | .ret, e, s => ∃ ps, resP P e s rs = some ps ∧ ∃ s', s'.sub s ∧ R (.ret (one ps)) s'
  | .panic c, e, s => ∃ s', s'.sub s ∧ R (.pan c) s'
  | _, _, _ => False
def resSem (tmps : Array Value) (r : ResultVar) : Sem Value := match r with
  | .tmp t => pure (tmps.getD t undef)
  | .cell c t => do loadVar t (← asAddr (tmps.getD c undef))
def oneV : List Value → Value
  | [v] => v
  | vs => .tuple vs.toArray
section
variable {P : Program} {w : World} {g : G} {s : St} {N : Nat} {e : Env} {a : Act}
theorem resP_sound (hH : Holds g s w) (hE : ER w g N e a) : ∀ (rs : List ResultVar) (ps : List PV), resP P e s rs = some ps →
    ∃ vs : List Value, (rs.mapM (resSem a.tmps)).run P w = .ok vs w ∧ vs.length = ps.length ∧ ∀ (i : Nat) (p : PV) (v : Value), ps[i]? = some p → vs[i]? = some v → VR w g p v
  | [], ps, h => by cases h; exact ⟨[], rfl, rfl, fun i p v h => by simp at h⟩
  | r :: rs, ps, h => by
    simp only [resP] at h
    replace h := Option.bind_eq_some_iff.1 h; obtain ⟨p, hp, h⟩ := h
    cases hr : resP P e s rs with
    | none => rw [hr] at h; cases h
    | some qs =>
      rw [hr] at h
      cases h
      obtain ⟨vs, h1, h2, h3⟩ := resP_sound hH hE rs qs hr
      have hone : ∃ v, (resSem a.tmps r).run P w = .ok v w ∧ VR w g p v := by
        cases r with
        | tmp t => cases hp; exact ⟨_, rfl, hE.vr t⟩
        | cell c t =>
          simp only [resP1] at hp
          replace hp := Option.bind_eq_some_iff.1 hp; obtain ⟨n, hn, hp⟩ := hp
          replace hp := Option.bind_eq_some_iff.1 hp; obtain ⟨ag, ha, hp⟩ := hp
          replace hp := Option.bind_eq_some_iff.1 hp; obtain ⟨cs, hc, hp⟩ := hp
          obtain ⟨v, hv, hr⟩ := run_load_pv (P := P) hH (hE.vr c) hn ha hc hp
          obtain ⟨_, ad, had, _⟩ := cellsAt_vr hH (hE.vr c) hc
          refine ⟨v, ?_, hr⟩
          rw [had] at hv
          simp only [resSem, had]
          simpa [Instr.loadAt, Instr.sureAddr, asAddr] using hv
      obtain ⟨v, hv, hr⟩ := hone
      refine ⟨v :: vs, ?_, by simp [h2], fun i p' v' hp' hv' => ?_⟩
      · simp only [List.mapM_cons, Sem.run_bind, hv, Result.andThen_ok, h1, Sem.run_pure]
      · cases i with
        | zero => cases hp'; cases hv'; exact hr
        | succ i => exact h3 i p' v' hp' hv'
theorem results_run (fn : Func) (tmps : Array Value) {vs : List Value} (h : (fn.results.toList.mapM (resSem tmps)).run P w = .ok vs w) : (results fn tmps).run P w = .ok (oneV vs) w := by
  show (do let vs ← fn.results.mapM (resSem tmps); pure (if h : vs.size = 1 then vs[0] else .tuple vs) : Sem Value).run P w = _
  rw [Array.mapM_eq_mapM_toList]
  simp only [map_eq_pure_bind, bind_assoc, pure_bind, Sem.run_bind, h, Result.andThen_ok, Sem.run_pure]
  clear h
  match vs with
  | [] => rfl
  | [v] => rfl
  | u :: v :: r => simp [oneV]
theorem one_vr {ps : List PV} {vs : List Value} (hl : vs.length = ps.length) (h : ∀ (i : Nat) (p : PV) (v : Value), ps[i]? = some p → vs[i]? = some v → VR w g p v) : VR w g (one ps) (oneV vs) := by
  match ps, vs, hl with
  | [], [], _ => exact .tup _ _ rfl (fun i c v hc => by simp at hc)
  | [p], [v], _ => exact h 0 p v rfl rfl
  | p :: q :: r, u :: v :: t, hl => exact .tup _ _ (by simpa using hl) (fun i c x hc hx => h i c x hc (by simpa using hx))
theorem start_er {args : List PV} {vs : Array Value} {n : Nat} (hA : Args w g args vs) (hn : args.length ≤ n) : ER w g n (Env.start args) { tmps := vs ++ Array.replicate (n - vs.size) undef, defers := [] } := by
  obtain ⟨h1, h2⟩ := hA
  refine ⟨by simp [h1]; omega, fun t => ?_⟩
  unfold Env.start
  by_cases ht : t < args.length
  · have hv : vs[t]? = some vs[t] := Array.getElem?_eq_getElem (by omega)
    have : (vs ++ Array.replicate (n - vs.size) undef).getD t undef = vs[t] := by
      rw [Array.getD_eq_getD_getElem?, Array.getElem?_append_left (by omega), hv]; rfl
    simp only [this]
    rw [List.getD_eq_getElem?_getD, List.getElem?_eq_getElem ht]
    exact h2 t _ _ (List.getElem?_eq_getElem ht) hv
  · rw [List.getD_eq_getElem?_getD, List.getElem?_eq_none (by omega)]
    exact .junk _
/-- A block that is no cells leaves the frozen zone, and is changed. -/
def G.drop (g : G) (D : Nat) : G := ⟨fun k => g.Z k ∧ k ≠ D, g.mu, g.n, g.gl⟩
def dropW (w : World) (D : Nat) : World := w.putObj D (.deferred none)
theorem cell_ne {x : Addr} {v : Value} {D : Nat} {y : Option (List Deferred)} (h : w.cell? x = some v) (hD : w.heap[D]? = some (.deferred y)) : x.block ≠ D := by
  intro e
  subst e
  simp [World.cell?, hD] at h
theorem cell_drop {x : Addr} {v : Value} {D : Nat} {y : Option (List Deferred)} (h : w.cell? x = some v) (hD : w.heap[D]? = some (.deferred y)) : (dropW w D).cell? x = some v := by
  unfold dropW
  rw [World.cell?_of_block (w := w) (World.putObj_heap_other (cell_ne h hD))]
  exact h
theorem VR.drop {D : Nat} {y : Option (List Deferred)} (hD : w.heap[D]? = some (.deferred y)) {p : PV} {v : Value} (h : VR w g p v) : VR (dropW w D) (g.drop D) p v := by
  induction h with
  | junk v => exact .junk v
  | lit v h => exact .lit v h
  | agg cs vs hl h1 h ih => exact .agg cs vs hl h1 ih
  | tup cs vs hl h ih => exact .tup cs vs hl ih
  | vec k xs A cap sz f hc hk hn h0 hs hm h ih =>
    refine .vec k xs A cap sz f hc hk hn h0 hs (fun i x j c hx hj => ?_) ih
    obtain ⟨a, ha, hz, hcell, h1⟩ := hm i x j c hx hj
    exact ⟨a, ha, ⟨hz, by have := cell_ne hcell hD; rwa [add_zero_add] at this⟩, cell_drop hcell hD, h1⟩
  | sl i sz off len cap hi hc hz hb => exact .sl (g := g.drop D) i sz off len cap hi hc hz hb
  | pt i j f hi => exact .pt (g := g.drop D) i j f hi
  | ep cs a f hm h ih =>
    refine .ep cs a f (fun j c hj => ?_) ih
    obtain ⟨hz, hcell, h1⟩ := hm j c hj
    exact ⟨⟨hz, by have := cell_ne hcell hD; rwa [add_zero_add] at this⟩, cell_drop hcell hD, h1⟩
  | fn f fs cs fv cv h1 h2 h3 h4 i3 i4 => exact .fn f fs cs fv cv h1 h2 i3 i4
  | mp i hi => exact .mp (g := g.drop D) i hi
  | yld i hi => exact .yld (g := g.drop D) i hi
theorem BR.drop {D : Nat} {y : Option (List Deferred)} (hD : w.heap[D]? = some (.deferred y)) {i : Nat} {b : Blk} (h : BR w g i b) : BR (dropW w D) (g.drop D) i b := by
  have key : ∀ {o : Obj}, w.heap[(g.mu i).blk]? = some o → (∀ y, o ≠ .deferred y) → (g.mu i).blk ≠ D ∧ (dropW w D).heap[(g.mu i).blk]? = some o := fun {o} ho hn => by
    have hne : (g.mu i).blk ≠ D := fun e => by rw [e, hD] at ho; cases ho; exact hn _ rfl
    exact ⟨hne, by rw [← ho]; exact World.putObj_heap_other hne⟩
  cases h with
  | row ty sz els arr hz h1 h2 h3 h4 h5 =>
    refine .row ty sz els arr hz (key h1 (fun y h => by cases h)).2 h2 h3 h4 (fun j cs f c hj hf => ?_)
    obtain ⟨v, hv, q1, hr⟩ := h5 j cs f c hj hf
    exact ⟨v, hv, q1, hr.drop hD⟩
  | dict es ents clock h1 h2 h3 => exact .dict es ents clock (key h1 (fun y h => by cases h)).2 h2 (fun j k p m hj hm => ⟨(h3 j k p m hj hm).1, (h3 j k p m hj hm).2.drop hD⟩)
  | ro cs arr ty fr hz h1 h2 =>
    refine .ro cs arr ty fr ⟨hz, (key h1 (fun y h => by cases h)).1⟩ (key h1 (fun y h => by cases h)).2 (fun f c hf => ?_)
    obtain ⟨v, hv, q1, hr⟩ := h2 f c hf
    exact ⟨v, cell_drop hv hD, q1, hr.drop hD⟩
  | loop L rec h1 h2 h3 h4 h5 h6 h7 h8 => exact .loop L rec (key h1 (fun y h => by cases h)).2 h2 h3 h4 h5 h6 h7 (fun t => (h8 t).drop hD)
theorem Holds.drop {D : Nat} {y : Option (List Deferred)} (hD : w.heap[D]? = some (.deferred y)) (hH : Holds g s w) : Holds (g.drop D) s (dropW w D) :=
  ⟨hH.fresh, fun k hk => by have := hH.zlt k hk.1; simpa [dropW] using this, fun i b hb => (hH.blk i b hb).drop hD, hH.inj, fun i b hb hr hz => hH.apart i b hb hr hz.1⟩
theorem Defs.drop {B D : Nat} (hD : w.heap[D]? = some (.deferred (some []))) : ∀ {ds : List Deferred}, (∀ d' ∈ ds, d' ≠ { target := .collected D, args := #[] }) → Defs B g w ds → Defs B (g.drop D) (dropW w D) ds
  | [], _, h => h
  | d :: ds, hne, h => by
    obtain ⟨⟨D', h1, h2, h3, h4⟩, h5, h6⟩ := h
    have hDD : D' ≠ D := fun e => hne d List.mem_cons_self (by rw [h1, e])
    exact ⟨⟨D', h1, h2, ⟨h3, hDD⟩, by rw [← h4]; exact World.putObj_heap_other hDD⟩, h5, h6.drop hD (fun d' hd' => hne d' (List.mem_cons_of_mem _ hd'))⟩
theorem leaves_drop {g0 : G} {w0 : World} {s0 : St} (hH0 : Holds g0 s0 w0) {fn : Func} {tmps : Array Value} {R : Ending → World → Prop} {u : FrameMode} (hu : u ≠ .run) {ds0 : List Deferred} : ∀ (ds : List Deferred) (g : G) (w : World), Defs w0.heap.size g w ds → LE g0 w0 g w → Holds g s w → ER w g N e ⟨tmps, ds0⟩ →
    (∀ (g : G) (w : World), LE g0 w0 g w → Holds g s w → ER w g N e ⟨tmps, ds0⟩ → LeavesIn (fen none) 0 P fn tmps R [] u w) → LeavesInM (fen none) 0 P fn tmps R ds u w
  | [], g, w, hd, hle, hH, hE, h => h g w hle hH hE
  | d :: ds, g, w, hd, hle, hH, hE, h => by
    obtain ⟨⟨D, h1, h2, h3, h4⟩, h5, h6⟩ := hd
    refine ⟨hu, .inl ⟨D, dropW w D, by rw [h1], run_takeDeferred h4, ?_⟩⟩
    refine leaves_drop hH0 hu ds (g.drop D) (dropW w D) (h6.drop h4 (by rw [← h1]; exact h5)) ?_ (hH.drop h4) ⟨hE.size, fun t => (hE.vr t).drop h4⟩ h
    have hlt : ∀ k, g0.Z k → k ≠ D := fun k hk => by have := hH0.zlt k hk; omega
    exact ⟨⟨hle.n, hle.mu, fun k hk => ⟨hle.Z k hk, hlt k hk⟩, fun k hk => (World.putObj_heap_other (hlt k hk)).trans (hle.block k hk)⟩, hle.os, hle.tape, hle.output, by simpa [dropW] using hle.size⟩
/-- A function's contract, out of its body. -/
theorem PCalls.of {f : FuncId} {fn : Func} {c : Code} {args : List PV} {R : Res → St → Prop} (hf : P.funcs[f]? = some fn) (hb : fn.body = some c) (hn : (fn.name != "runtime.NumGoroutine") = true) (ha : args.length ≤ fn.ntmps)
    (h : PW P fn.ntmps c (Env.start args) s (retQ P fn.results.toList R)) : PCalls P f args s R := by
  refine .inl ⟨by simp [enters, hf, hb, hn], fun g w vs hH hA => ?_⟩
  refine callsIn_wide.1 (callsIn_of_wp_marks (F := fen none) (n := 0) hf hb trivial (wpIn_mono (h none w.heap.size g _ w (.inr rfl) hH (start_er hA ha) ⟨Nat.le_refl _, trivial⟩) ?_))
  rintro ex a' w' ⟨e', s', g', h1, h2, h3, h4, h5⟩
  have ret : (∃ ps, resP P e' s' fn.results.toList = some ps ∧ ∃ s2, s2.sub s' ∧ R (.ret (one ps)) s2) → LeavesInM (fen none) 0 P fn a'.tmps (fun en w' => ∃ res s' g', LE g w g' w' ∧ Holds g' s' w' ∧ RR w' g' res en ∧ R res s') a'.defers .returning w' := by
    rintro ⟨ps, hps, s2, hs2, hR⟩
    refine leaves_drop hH (by simp) a'.defers g' w' h4.2 h1 h2 (ds0 := a'.defers) h3 (fun g1 w1 l1 H1 E1 => ?_)
    obtain ⟨vs, k1, k2, k3⟩ := resP_sound (P := P) H1 E1 _ ps hps
    exact ⟨_, results_run fn a'.tmps k1, _, s2, g1, l1, H1.sub hs2, .ret _ _ (one_vr k2 k3), hR⟩
  cases ex with
  | normal => exact ret h5
  | ret => exact ret h5
  | panic c =>
    obtain ⟨s2, hs2, hR⟩ := h5
    exact leaves_drop hH (by simp) a'.defers g' w' h4.2 h1 h2 (ds0 := a'.defers) h3 (fun g1 w1 l1 H1 E1 => ⟨_, s2, g1, l1, H1.sub hs2, .pan c, hR⟩)
  | exit _ => exact h5.elim
  | goto _ => exact h5.elim
  | outgrown => exact h5.elim
end
end Go.Pv
