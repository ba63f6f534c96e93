/- A logic over plain values: calls, and what may be done to the blocks between the lines. -/
import Derived.Test.YteajbghklmkoeaaPv9
namespace Go.Pv
set_option linter.unusedVariables false
set_option linter.unusedSimpArgs false
def resP1 (P : Program) (e : Env) (s : St) : ResultVar → Option PV
  | .tmp t => some (e t)
  | .cell a t => (tsz P t).bind fun n => (aggT P t).bind fun ag => (cellsAt s (e a) n).bind fun cs => pack ag cs
def resP (P : Program) (e : Env) (s : St) : List ResultVar → Option (List PV)
  | [] => some []
  | r :: rs => (resP1 P e s r).bind fun p => (resP P e s rs).map fun ps => p :: ps
def one : List PV → PV
  | [p] => p
  | ps => .tup ps
/-- What must hold where a function's body ends. -/
def retQ (P : Program) (rs : List ResultVar) (R : Res → St → Prop) : Exit → Env → St → Prop
  | .normal, e, s => ∃ ps, resP P e s rs = some ps ∧ ∃ s', s'.sub s ∧ R (.ret (one ps)) s'
  | .ret, e, s => ∃ ps, resP P e s rs = some ps ∧ ∃ s', s'.sub s ∧ R (.ret (one ps)) s'
  | .panic c, e, s => ∃ s', s'.sub s ∧ R (.pan c) s'
  | _, _, _ => False
def resSem (tmps : Array Value) (r : ResultVar) : Sem Value := match r with
  | .tmp t => pure (tmps.getD t undef)
  | .cell c t => do loadVar t (← asAddr (tmps.getD c undef))
def oneV : List Value → Value
  | [v] => v
  | vs => .tuple vs.toArray
section
variable {P : Program} {w : World} {g : G} {s : St} {N : Nat} {e : Env} {a : Act}
theorem resP_sound (hH : Holds g s w) (hE : ER w g N e a) : ∀ (rs : List ResultVar) (ps : List PV), resP P e s rs = some ps →
    ∃ vs : List Value, (rs.mapM (resSem a.tmps)).run P w = .ok vs w ∧ vs.length = ps.length ∧ ∀ (i : Nat) (p : PV) (v : Value), ps[i]? = some p → vs[i]? = some v → VR w g p v
  | [], ps, h => by cases h; exact ⟨[], rfl, rfl, fun i p v h => by simp at h⟩
  | r :: rs, ps, h => by
    simp only [resP] at h
    replace h := Option.bind_eq_some_iff.1 h; obtain ⟨p, hp, h⟩ := h
    cases hr : resP P e s rs with
    | none => rw [hr] at h; cases h
    | some qs =>
      rw [hr] at h
      cases h
      obtain ⟨vs, h1, h2, h3⟩ := resP_sound hH hE rs qs hr
      have hone : ∃ v, (resSem a.tmps r).run P w = .ok v w ∧ VR w g p v := by
        cases r with
        | tmp t => cases hp; exact ⟨_, rfl, hE.vr t⟩
        | cell c t =>
          simp only [resP1] at hp
          replace hp := Option.bind_eq_some_iff.1 hp; obtain ⟨n, hn, hp⟩ := hp
          replace hp := Option.bind_eq_some_iff.1 hp; obtain ⟨ag, ha, hp⟩ := hp
          replace hp := Option.bind_eq_some_iff.1 hp; obtain ⟨cs, hc, hp⟩ := hp
          obtain ⟨v, hv, hr⟩ := run_load_pv (P := P) hH (hE.vr c) hn ha hc hp
          obtain ⟨_, ad, had, _⟩ := cellsAt_vr hH (hE.vr c) hc
          refine ⟨v, ?_, hr⟩
          rw [had] at hv
          simp only [resSem, had]
          simpa [Instr.loadAt, Instr.sureAddr, asAddr] using hv
      obtain ⟨v, hv, hr⟩ := hone
      refine ⟨v :: vs, ?_, by simp [h2], fun i p' v' hp' hv' => ?_⟩
      · simp only [List.mapM_cons, Sem.run_bind, hv, Result.andThen_ok, h1, Sem.run_pure]
      · cases i with
        | zero => cases hp'; cases hv'; exact hr
        | succ i => exact h3 i p' v' hp' hv'
theorem results_run (fn : Func) (tmps : Array Value) {vs : List Value} (h : (fn.results.toList.mapM (resSem tmps)).run P w = .ok vs w) : (results fn tmps).run P w = .ok (oneV vs) w := by
  show (do let vs ← fn.results.mapM (resSem tmps); pure (if h : vs.size = 1 then vs[0] else .tuple vs) : Sem Value).run P w = _
  rw [Array.mapM_eq_mapM_toList]
  simp only [map_eq_pure_bind, bind_assoc, pure_bind, Sem.run_bind, h, Result.andThen_ok, Sem.run_pure]
  clear h
  match vs with
  | [] => rfl
  | [v] => rfl
  | u :: v :: r => simp [oneV]
theorem one_vr {ps : List PV} {vs : List Value} (hl : vs.length = ps.length) (h : ∀ (i : Nat) (p : PV) (v : Value), ps[i]? = some p → vs[i]? = some v → VR w g p v) : VR w g (one ps) (oneV vs) := by
  match ps, vs, hl with
  | [], [], _ => exact .tup _ _ rfl (fun i c v hc => by simp at hc)
  | [p], [v], _ => exact h 0 p v rfl rfl
  | p :: q :: r, u :: v :: t, hl => exact .tup _ _ (by simpa using hl) (fun i c x hc hx => h i c x hc (by simpa using hx))
theorem start_er {args : List PV} {vs : Array Value} {n : Nat} (hA : Args w g args vs) (hn : args.length ≤ n) : ER w g n (Env.start args) { tmps := vs ++ Array.replicate (n - vs.size) undef, defers := [] } := by
  obtain ⟨h1, h2⟩ := hA
  refine ⟨by simp [h1]; omega, fun t => ?_⟩
  unfold Env.start
  by_cases ht : t < args.length
  · have hv : vs[t]? = some vs[t] := Array.getElem?_eq_getElem (by omega)
    have : (vs ++ Array.replicate (n - vs.size) undef).getD t undef = vs[t] := by
      rw [Array.getD_eq_getD_getElem?, Array.getElem?_append_left (by omega), hv]; rfl
    simp only [this]
    rw [List.getD_eq_getElem?_getD, List.getElem?_eq_getElem ht]
    exact h2 t _ _ (List.getElem?_eq_getElem ht) hv
  · rw [List.getD_eq_getElem?_getD, List.getElem?_eq_none (by omega)]
    exact .junk _
/-- A function's contract, out of its body. -/
theorem PCalls.of {f : FuncId} {fn : Func} {c : Code} {args : List PV} {R : Res → St → Prop} (hf : P.funcs[f]? = some fn) (hb : fn.body = some c) (hn : (fn.name != "runtime.NumGoroutine") = true) (ha : args.length ≤ fn.ntmps)
    (h : PW P fn.ntmps c (Env.start args) s (retQ P fn.results.toList R)) : PCalls P f args s R := by
  refine .inl ⟨by simp [enters, hf, hb, hn], fun g w vs hH hA => ?_⟩
  refine calls_of_wp hf hb (wp_mono (h g _ w hH (start_er hA ha) rfl) ?_)
  rintro ex a' w' ⟨e', s', g', h1, h2, h3, h4, h5⟩
  have ret : (∃ ps, resP P e' s' fn.results.toList = some ps ∧ ∃ s2, s2.sub s' ∧ R (.ret (one ps)) s2) → a'.defers = [] ∧ ∃ v, (results fn a'.tmps).run P w' = .ok v w' ∧ (∃ res s' g', LE g w g' w' ∧ Holds g' s' w' ∧ RR w' g' res (.returned v) ∧ R res s') := by
    rintro ⟨ps, hps, s2, hs2, hR⟩
    obtain ⟨vs, k1, k2, k3⟩ := resP_sound (P := P) h2 h3 _ ps hps
    exact ⟨h4, _, results_run fn a'.tmps k1, _, s2, g', h1, h2.sub hs2, .ret _ _ (one_vr k2 k3), hR⟩
  cases ex with
  | normal => exact ret h5
  | ret => exact ret h5
  | panic c =>
    obtain ⟨s2, hs2, hR⟩ := h5
    exact ⟨h4, _, s2, g', h1, h2.sub hs2, .pan c, hR⟩
  | exit _ => exact h5.elim
  | goto _ => exact h5.elim
  | outgrown => exact h5.elim
end
end Go.Pv
