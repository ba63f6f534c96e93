/- A logic over plain values: a loop over a function, and its rounds. -/
import Derived.Test.YteajbghklmkoeaaPv10
namespace Go.Pv
set_option linter.unusedVariables false
set_option linter.unusedSimpArgs false
section
variable {P : Program} {w : World} {g : G} {s : St} {N : Nat} {e : Env} {a : Act} {Q : Exit → Env → St → Prop}
/-- A loop's record is set. -/
theorem Holds.loopSet (hH : Holds g s w) {i : Nat} {L : LoopR} (hs : s i = some (.loop L)) : ∃ rec : Loop, w.heap[(g.mu i).blk]? = some (.loop rec) ∧ rec.state = L.st.state ∧ rec.pending = L.st.pend ∧ rec.params = L.ps ∧ rec.assign = L.asg ∧ rec.body = L.body ∧ rec.tmps.size = L.N ∧ (∀ t, VR w g (L.e t) (rec.tmps.getD t undef)) ∧
    ∀ (st : LSt), Holds g (s.upd i (some (.loop { L with st := st }))) (w.putObj (g.mu i).blk (.loop { rec with state := st.state, pending := st.pend })) ∧ LE g w g (w.putObj (g.mu i).blk (.loop { rec with state := st.state, pending := st.pend })) := by
  cases hH.blk i _ hs with
  | loop _ rec h1 h2 h3 h4 h5 h6 h7 h8 =>
    refine ⟨rec, h1, h2, h3, h4, h5, h6, h7, h8, fun st => ?_⟩
    have hle := LE.writeO hH hs rfl (.loop { rec with state := st.state, pending := st.pend })
    have hlt := (Array.getElem?_eq_some_iff.1 h1).1
    exact ⟨Holds.writeO hH hs rfl _ _ (.loop _ { rec with state := st.state, pending := st.pend } (World.putObj_heap_same hlt) rfl rfl h4 h5 h6 h7 (fun t => (h8 t).le hle.toLEv)), hle⟩
/-- The parameters of a round take its arguments. -/
def putL (e : Env) : List Tmp → List PV → Env
  | t :: ts, p :: ps => putL (e.put (some t) p) ts ps
  | _, _ => e
theorem ER.putL {ds : List Deferred} : ∀ (ts : List Tmp) (ps : List PV) (vs : List Value) (e : Env) (tmps : Array Value), ER w g N e ⟨tmps, ds⟩ → (∀ t ∈ ts, t < N) → vs.length = ps.length → (∀ (i : Nat) (p : PV) (v : Value), ps[i]? = some p → vs[i]? = some v → VR w g p v) →
    ER w g N (Pv.putL e ts ps) ⟨(ts.zip vs).foldl (fun tmps (t, a) => tmps.setIfInBounds t a) tmps, ds⟩
  | [], ps, vs, e, tmps, hE, ht, hl, h => by simpa [Pv.putL] using hE
  | t :: ts, [], vs, e, tmps, hE, ht, hl, h => by
    have : vs = [] := List.eq_nil_of_length_eq_zero (by simpa using hl)
    subst this
    simpa [Pv.putL] using hE
  | t :: ts, p :: ps, [], e, tmps, hE, ht, hl, h => by simp at hl
  | t :: ts, p :: ps, v :: vs, e, tmps, hE, ht, hl, h => by
    simp only [List.zip_cons_cons, List.foldl_cons, Pv.putL]
    exact ER.putL ts ps vs _ _ (hE.put (d := some t) (fun t' ht' => by cases ht'; exact ht t List.mem_cons_self) (h 0 p v rfl rfl)) (fun t' ht' => ht t' (List.mem_cons_of_mem _ ht')) (by simpa using hl) (fun i p' v' hp hv => h (i + 1) p' v' hp hv)
/-- What must hold where a round's body ends. -/
def QY (i : Nat) (L : LoopR) (K : PV → St → Prop) : Exit → Env → St → Prop
  | .normal, _, s => ∃ s2 : St, s2.sub s ∧ s2 i = some (.loop { L with st := .busy }) ∧ K (.lit (.bool true)) (s2.upd i (some (.loop { L with st := .ready })))
  | .ret, _, s => ∃ s2 : St, s2.sub s ∧ s2 i = some (.loop { L with st := .busy }) ∧ K (.lit (.bool false)) (s2.upd i (some (.loop { L with st := .done .ret })))
  | .exit id, _, s => ∃ s2 : St, s2.sub s ∧ s2 i = some (.loop { L with st := .busy }) ∧ K (.lit (.bool false)) (s2.upd i (some (.loop { L with st := .done (.exit id) })))
  | _, _, _ => False
theorem PYld.of {i : Nat} {args : List PV} {L : LoopR} {K : PV → St → Prop} (hs : s i = some (.loop L)) (hr : L.st = .ready) (hl : args.length = L.ps.size) (hps : ∀ p ∈ L.ps.toList, p < L.N) (hf1 : flat L.asg = true) (hf2 : flat L.body = true)
    (h : PW P L.N L.asg (putL L.e L.ps.toList args) s (thenQ (fun e1 s1 => s1 i = some (.loop L) ∧ PW P L.N L.body e1 (s1.upd i (some (.loop { L with st := .busy }))) (QY i L K)) (fun _ _ _ => False))) : PYld P i args s K := by
  intro g w vs hH hi hA
  obtain ⟨rec, h1, h2, h3, h4, h5, h6, h7, h8, hset⟩ := hH.loopSet hs
  refine ⟨_, _, _, _, _, run_yield h1 (by rw [h4, hA.1, hl]), ?_⟩
  refine roundIn_of_wpIn (F := fen none) trivial ?_
  have htm : ((rec.params.zip vs).foldl (fun tmps (t, a) => tmps.setIfInBounds t a) rec.tmps) = ((L.ps.toList.zip vs.toList).foldl (fun tmps (t, a) => tmps.setIfInBounds t a) rec.tmps) := by
    rw [h4, ← Array.foldl_toList, Array.toList_zip]
  rw [htm, h5, h6]
  have hE0 : ER w g L.N (putL L.e L.ps.toList args) ⟨(L.ps.toList.zip vs.toList).foldl (fun tmps (t, a) => tmps.setIfInBounds t a) rec.tmps, []⟩ :=
    ER.putL _ _ _ _ _ ⟨h7, h8⟩ hps (by rw [Array.length_toList]; exact hA.1) (fun i p v hp hv => hA.2 i p v hp (by rw [← Array.getElem?_toList]; exact hv))
  refine wpIn_mono (h (some (g.mu i).blk) 0 g _ w (.inl hf1) hH hE0 ⟨Nat.zero_le _, trivial⟩) ?_
  rintro ex a1 w1 ⟨e1, s1, g1, l1, H1, E1, D1, hq⟩
  cases ex with
  | normal =>
    obtain ⟨hs1, hbody⟩ := hq
    obtain ⟨rec1, q1, q2, q3, q4, q5, q6, q7, q8, hset1⟩ := H1.loopSet hs1
    rw [hr] at q2 q3
    have hmu1 : g1.mu i = g.mu i := l1.mu i hi
    rw [hmu1] at q1 hset1
    obtain ⟨H2, l2⟩ := hset1 .busy
    refine ⟨_, run_beginRound q1 q2, ?_⟩
    have hrec : ({ rec1 with state := LSt.busy.state, pending := LSt.busy.pend } : Loop) = { rec1 with state := .busy } := by
      have : rec1.pending = none := q3
      cases rec1
      simp only at this
      subst this
      rfl
    rw [hrec] at H2 l2
    refine wpIn_mono (hbody (some (g.mu i).blk) 0 g1 a1 _ (.inl hf2) H2 (E1.le l2.toLEv) (D1.le l2)) ?_
    rintro ex a3 w3 ⟨e3, s3, g3, l3, H3, E3, D3, hq⟩
    have fin : ∀ (j : Option Code) (st : LSt), (∃ s2 : St, s2.sub s3 ∧ s2 i = some (.loop { L with st := .busy }) ∧ K (.lit (.bool j.isNone)) (s2.upd i (some (.loop { L with st := st })))) → st.state = (if j.isNone then .ready else .done) → st.pend = j →
        ∃ v w', (Instr.endRound (g.mu i).blk j).run P w3 = .ok v w' ∧ ∃ p v' s' g', Ending.returned v = .returned v' ∧ LE g w g' w' ∧ Holds g' s' w' ∧ VR w' g' p v' ∧ K p s' := by
      rintro j st ⟨s2, hs2, hs3, hK⟩ hst hp
      obtain ⟨rec3, r1, r2, r3, r4, r5, r6, r7, r8, hset3⟩ := (H3.sub hs2).loopSet hs3
      have hmu3 : g3.mu i = g.mu i := (l3.mu i (Nat.lt_of_lt_of_le hi l1.n)).trans hmu1
      rw [hmu3] at r1 hset3
      obtain ⟨H4, l4⟩ := hset3 st
      rw [hst, hp] at H4 l4
      exact ⟨_, _, run_endRound j r1, .lit (.bool j.isNone), _, _, g3, rfl, ((l1.trans l2).trans l3).trans l4, H4, .lit _ rfl, hK⟩
    cases ex with
    | normal => exact fin none .ready hq rfl rfl
    | ret => exact fin (some .ret) (.done .ret) hq rfl rfl
    | exit id => exact fin (some (.exit id)) (.done (.exit id)) hq rfl rfl
    | goto l => exact hq.elim
    | panic c => exact hq.elim
    | outgrown => exact hq.elim
  | ret => exact hq.elim
  | exit id => exact hq.elim
  | goto l => exact hq.elim
  | panic c => exact hq.elim
  | outgrown => exact hq.elim
theorem Defs.lt {B : Nat} (hz : ∀ k, g.Z k → k < w.heap.size) : ∀ {ds : List Deferred}, Defs B g w ds → ∀ d ∈ ds, d ≠ { target := .collected w.heap.size, args := #[] }
  | [], _, d, hd => by cases hd
  | d0 :: ds, h, d, hd => by
    obtain ⟨⟨D, h1, h2, h3, h4⟩, h5, h6⟩ := h
    rcases List.mem_cons.1 hd with rfl | hd
    · rw [h1]
      intro he
      have := hz D h3
      simp only [Deferred.mk.injEq, Target.collected.injEq] at he
      omega
    · exact h6.lt hz d hd
/-- A loop over a function. -/
theorem PW.range {f : Operand} {ps : Array Tmp} {asg body : Code} {gf : FuncId} {cs : List PV} (hf : e.ev f = .fn gf [] cs) (hent : enters P gf = true)
    (h : ∀ i, s i = none → PCalls P gf (.yld i :: cs) (s.upd i (some (.loop ⟨.ready, N, e, ps, asg, body⟩))) (fun r s' => match r with
      | .ret _ => (s' i = some (.loop ⟨.ready, N, e, ps, asg, body⟩) ∧ Q .normal e (s'.upd i none)) ∨ (s' i = some (.loop ⟨.done .ret, N, e, ps, asg, body⟩) ∧ Q .ret e (s'.upd i none)) ∨ (∃ id, s' i = some (.loop ⟨.done (.exit id), N, e, ps, asg, body⟩) ∧ Q (.exit id) e (s'.upd i none))
      | .pan c => Q (.panic c) e (s'.upd i none))) : PW P N (.rangeFunc f ps asg body) e s Q := by
  intro r B g a w hr hH hE hd
  have hr0 : r = none := hr.resolve_left (by simp [flat])
  subst hr0
  refine wpIn_rangeFunc ?_
  intro fn _
  have hfv := hE.ev f
  rw [hf] at hfv
  generalize hfe : a.eval f = fv at hfv
  cases hfv with
  | fn _ _ _ fvs cvs f1 f2 f3 f4 =>
    have hfvs : fvs = #[] := Array.eq_empty_of_size_eq_zero (by simpa using f1)
    subst hfvs
    obtain ⟨H1, l1⟩ := hH.pushed (.deferred (some []))
    have hsz1 : (pushed w (.deferred (some []))).heap.size = w.heap.size + 1 := pushed_size _ _
    have HF : Holds (g.freeze w.heap.size) s (pushed w (.deferred (some []))) := H1.freeze (by rw [hsz1]; omega) (fun j hj hjb => by
      obtain ⟨b, hb⟩ := Option.ne_none_iff_exists'.1 hj
      have := (hH.blk j b hb).lt
      omega)
    have lF : LE g w (g.freeze w.heap.size) (pushed w (.deferred (some []))) := l1.trans (LE.freeze _)
    generalize hrec : (⟨.ready, none, fn, a.tmps, ps, asg, body, w.heap.size⟩ : Loop) = rec
    obtain ⟨L, hL⟩ : ∃ L : LoopR, L = ⟨.ready, N, e, ps, asg, body⟩ := ⟨_, rfl⟩
    have hle2 := LE.more HF ⟨(pushed w (.deferred (some []))).heap.size, 0, 0⟩ (.loop rec)
    have hmun : ((g.freeze w.heap.size).more ⟨(pushed w (.deferred (some []))).heap.size, 0, 0⟩).mu g.n = ⟨(pushed w (.deferred (some []))).heap.size, 0, 0⟩ := by simp [G.more, G.freeze]
    have H2 : Holds ((g.freeze w.heap.size).more ⟨(pushed w (.deferred (some []))).heap.size, 0, 0⟩) (s.upd g.n (some (.loop L))) (pushed (pushed w (.deferred (some []))) (.loop rec)) := by
      refine HF.newO (.loop rec) 0 0 (.loop L) ?_
      refine .loop L rec ?_ ?_ ?_ ?_ ?_ ?_ ?_ ?_
      · have : (g.freeze w.heap.size).n = g.n := rfl
        rw [this, hmun]
        exact pushed_new _ _
      · rw [← hrec, hL]; rfl
      · rw [← hrec, hL]; rfl
      · rw [← hrec, hL]
      · rw [← hrec, hL]
      · rw [← hrec, hL]
      · rw [← hrec, hL]; exact hE.size
      · intro t
        have := (hE.vr t).le (lF.trans hle2).toLEv
        rw [hL, show rec.tmps = a.tmps by rw [← hrec]]
        exact this
    have l2 := lF.trans hle2
    generalize hg2 : (g.freeze w.heap.size).more ⟨(pushed w (.deferred (some []))).heap.size, 0, 0⟩ = g2 at *
    generalize hw2 : pushed (pushed w (.deferred (some []))) (.loop rec) = w2 at *
    have hn2 : g.n < g2.n := by rw [← hg2]; exact Nat.lt_succ_self _
    have hblk : (g2.mu g.n).blk = w.heap.size + 1 := by rw [hmun]; exact hsz1
    have hZ2 : g2.Z w.heap.size := by rw [← hg2]; exact .inr rfl
    have hD2 : w2.heap[w.heap.size]? = some (.deferred (some [])) := by
      rw [← hw2, pushed_old _ _ (by rw [hsz1]; omega)]
      exact pushed_new _ _
    have hA : Args w2 g2 (.yld g.n :: cs) (#[.func (.yield (w.heap.size + 1)) #[] #[]] ++ cvs) := by
      refine ⟨by simp [f2]; omega, fun i p v hp hv => ?_⟩
      cases i with
      | zero =>
        cases hp
        have : v = .func (.yield (w.heap.size + 1)) #[] #[] := by
          rw [Array.getElem?_append_left (by simp)] at hv
          simpa using hv.symm
        rw [this, ← hblk]
        exact .yld _ hn2
      | succ i =>
        have hv' : cvs[i]? = some v := by
          rw [Array.getElem?_append_right (by simp)] at hv
          simpa using hv
        exact (f4 i p v hp hv').le l2.toLEv
    have hfresh : s g.n = none := hH.fresh _ (Nat.le_refl _)
    have hcall := h g.n hfresh
    rw [← hL] at hcall
    have henterL := run_enterLoop_outer (P := P) (w := w) fn a.tmps ps asg body
    have hww : (w.alloc (.deferred (some []))).alloc (.loop { state := .ready, pending := none, fn, tmps := a.tmps, params := ps, assign := asg, body, defers := w.heap.size }) = w2 := by
      rw [← hw2, ← hrec]; rfl
    rw [hww] at henterL
    refine ⟨w.heap.size + 1, [{ target := .collected w.heap.size, args := #[] }], w2, { target := .fn (.func gf) cvs, args := #[.func (.yield (w.heap.size + 1)) #[] #[]] }, w2, gf, #[.func (.yield (w.heap.size + 1)) #[] #[]] ++ cvs, w2, henterL, ?_, fun _ _ => trivial, ?_, fun h => (by cases h), ?_⟩
    · simp only [resolve, hfe]
      simp [go_sem]
    · simp [invoke, go_sem, run_enters hent]
    · rcases hcall with ⟨_, hcall⟩ | hcall
      case inr =>
        obtain ⟨p, v, s', g', w', q1, _⟩ := hcall g2 w2 _ H2 hA
        rw [run_enters hent] at q1
        cases q1
      refine (calls_fen (hcall g2 w2 _ H2 hA)).mono ?_
      rintro en w3 ⟨res, s3, g3, l3, H3, hres, hR⟩
      have hds : ∀ (g4 : G) (w4 : World), LE g2 w2 g4 w4 → DK B g4 w4 ([{ target := .collected w.heap.size, args := #[] }] ++ a.defers) := fun g4 w4 l4 => by
        refine ⟨Nat.le_trans hd.1 (Nat.le_trans l2.size l4.size), ⟨w.heap.size, rfl, hd.1, l4.Z _ hZ2, by rw [l4.block _ hZ2]; exact hD2⟩, ?_, hd.2.le (l2.trans l4).toLEv⟩
        exact fun d' hd' => hd.2.lt hH.zlt d' hd'
      have ends : ∀ (st : LSt) (hst : st ≠ .busy) (hst2 : ∀ p, st ≠ .over p), s3 g.n = some (.loop { L with st := st }) → ∃ w4, (Instr.endLoop (w.heap.size + 1)).run P w3 = .ok st.pend w4 ∧ LE g2 w2 g3 w4 ∧ Holds g3 (s3.upd g.n none) w4 ∧ LE g w g3 w4 := by
        intro st hst hst2 hs3
        obtain ⟨rec3, r1, r2, r3, r4, r5, r6, r7, r8, hset3⟩ := H3.loopSet hs3
        have hmu3 : (g3.mu g.n).blk = w.heap.size + 1 := by rw [l3.mu _ hn2]; exact hblk
        rw [hmu3] at r1 hset3
        obtain ⟨H4, l4⟩ := hset3 (.over rec3.pending)
        have hrun := run_endLoop (P := P) r1 (by rw [r2]; cases st <;> first | exact absurd rfl hst | simp [LSt.state])
        have hrec4 : ({ rec3 with state := (LSt.over rec3.pending).state, pending := (LSt.over rec3.pending).pend } : Loop) = { rec3 with state := .exhausted } := rfl
        rw [hrec4] at H4 l4
        refine ⟨w3.putObj (w.heap.size + 1) (.loop { rec3 with state := .exhausted }), by rw [show st.pend = rec3.pending from r3.symm]; exact hrun, l3.trans l4, H4.sub (fun j b hj => ?_), l2.trans (l3.trans l4)⟩
        by_cases hji : j = g.n
        · subst hji; rw [St.upd_same] at hj; cases hj
        · rw [St.upd_ne _ _ hji] at hj ⊢; exact hj
      cases hres with
      | ret p v hv =>
        subst hL
        rcases hR with ⟨hs3, hQ⟩ | ⟨hs3, hQ⟩ | ⟨id, hs3, hQ⟩
        · obtain ⟨w4, k1, k2, k3, k4⟩ := ends .ready (by simp) (by simp) hs3
          exact ⟨none, w4, k1, e, _, g3, k4, k3, ⟨hE.size, fun t => (hE.vr t).le k4.toLEv⟩, hds g3 w4 k2, hQ⟩
        · obtain ⟨w4, k1, k2, k3, k4⟩ := ends (.done .ret) (by simp) (by simp) hs3
          exact ⟨some .ret, w4, k1, wpIn_ret ⟨e, _, g3, k4, k3, ⟨hE.size, fun t => (hE.vr t).le k4.toLEv⟩, hds g3 w4 k2, hQ⟩⟩
        · obtain ⟨w4, k1, k2, k3, k4⟩ := ends (.done (.exit id)) (by simp) (by simp) hs3
          exact ⟨some (.exit id), w4, k1, wpIn_exit ⟨e, _, g3, k4, k3, ⟨hE.size, fun t => (hE.vr t).le k4.toLEv⟩, hds g3 w4 k2, hQ⟩⟩
      | pan c =>
        refine ⟨e, s3.upd g.n none, g3, l2.trans l3, H3.sub (fun j b hj => ?_), ⟨hE.size, fun t => (hE.vr t).le (l2.trans l3).toLEv⟩, hds g3 w3 l3, hR⟩
        by_cases hji : j = g.n
        · subst hji; rw [St.upd_same] at hj; cases hj
        · rwa [St.upd_ne _ _ hji] at hj
/-- .. with the record under a name. -/
theorem PW.rangeL {f : Operand} {ps : Array Tmp} {asg body : Code} {gf : FuncId} {cs : List PV} (hf : e.ev f = .fn gf [] cs) (hent : enters P gf = true)
    (h : ∀ (i : Nat) (L : LoopR), s i = none → L.st = .ready → L.N = N → L.e = e → L.ps = ps → L.asg = asg → L.body = body → PCalls P gf (.yld i :: cs) (s.upd i (some (.loop L))) (fun r s' => match r with
      | .ret _ => (s' i = some (.loop L) ∧ Q .normal e (s'.upd i none)) ∨ (s' i = some (.loop { L with st := .done .ret }) ∧ Q .ret e (s'.upd i none)) ∨ (∃ id, s' i = some (.loop { L with st := .done (.exit id) }) ∧ Q (.exit id) e (s'.upd i none))
      | .pan c => Q (.panic c) e (s'.upd i none))) : PW P N (.rangeFunc f ps asg body) e s Q :=
  PW.range hf hent fun i hi => h i ⟨.ready, N, e, ps, asg, body⟩ hi rfl rfl rfl rfl rfl rfl
/-- What must hold where a round's body ends; the record's forms under names. -/
def QZ (i : Nat) (B L : LoopR) (K : PV → St → Prop) : Exit → Env → St → Prop
  | .normal, _, s => ∃ s2 : St, s2.sub s ∧ s2 i = some (.loop B) ∧ K (.lit (.bool true)) (s2.upd i (some (.loop L)))
  | .ret, _, s => ∃ s2 : St, s2.sub s ∧ s2 i = some (.loop B) ∧ K (.lit (.bool false)) (s2.upd i (some (.loop { L with st := .done .ret })))
  | .exit id, _, s => ∃ s2 : St, s2.sub s ∧ s2 i = some (.loop B) ∧ K (.lit (.bool false)) (s2.upd i (some (.loop { L with st := .done (.exit id) })))
  | _, _, _ => False
theorem PYld.ofL {i : Nat} {args : List PV} {L : LoopR} {K : PV → St → Prop} (hs : s i = some (.loop L)) (hr : L.st = .ready) {ps : List Tmp} {asg body : Code} (hN : L.N = N) (he : L.e = e) (hp : L.ps = ps.toArray) (ha : L.asg = asg) (hb : L.body = body)
    (hl : args.length = ps.length) (hps : ∀ p ∈ ps, p < N) (hf1 : flat asg = true) (hf2 : flat body = true)
    (h : ∀ B : LoopR, PW P N asg (putL e ps args) s (thenQ (fun e1 s1 => s1 i = some (.loop L) ∧ PW P N body e1 (s1.upd i (some (.loop B))) (QZ i B L K)) (fun _ _ _ => False))) : PYld P i args s K := by
  refine PYld.of hs hr (by rw [hp, hl]; simp) (by rw [hp, hN]; exact hps) (by rw [ha]; exact hf1) (by rw [hb]; exact hf2) ?_
  have hh := h { L with st := .busy }
  have hL : ({ L with st := .ready } : LoopR) = L := by cases L; simp only at hr; subst hr; rfl
  have hq : QY i L K = QZ i { L with st := .busy } L K := by
    funext ex e s
    cases ex <;> simp only [QY, QZ, hL]
  rw [hq]
  generalize ({ L with st := .busy } : LoopR) = B at *
  rw [hN, he, hp, ha, hb]
  exact hh
end
end Go.Pv
