/- A logic over plain values: a region that draws its order may be told in one order. -/
import Derived.Test.YteajbghklmkoeaaPv11
namespace Go.Pv
set_option linter.unusedVariables false
set_option linter.unusedSimpArgs false
section
variable {P : Program} {A : St} {w : World} {g : G} {s : St} {N : Nat} {e e' : Env} {a : Act} {ops : Array Oper} {kd : Nat → Nat} {Q : Exit → Act → World → Prop}
theorem yb_yielded {d j : Nat} {y : Option Bool} (hv : VR w g (e d) (a.tmps.getD d undef)) (hdj : (ops[j]?).bind (·.dst) = some d) (hy : yb (e d) = some y) : yielded ops a.tmps j = y := by
  generalize e d = p at hv hy
  have fin : ∀ v, a.tmps.getD d undef = v → (match v with | .bool t => some t | _ => none) = y → yielded ops a.tmps j = y := by
    intro v hvd hm
    unfold yielded
    rw [hdj]
    simp only [Option.bind_some]
    rw [Array.getD_eq_getD_getElem?] at hvd
    cases ht : a.tmps[d]? with
    | none => rw [ht] at hvd; simp only [Option.getD_none] at hvd; subst hvd; simpa [undef] using hm
    | some u => rw [ht] at hvd; simp only [Option.getD_some] at hvd; subst hvd; rw [← hm]; cases u <;> rfl
  unfold yb at hy
  split at hy
  · cases hy
    obtain ⟨hvd, _⟩ := hv.lit_inv
    exact fin _ hvd rfl
  · cases hy
    refine fin _ rfl ?_
    generalize a.tmps.getD d undef = u at hv
    cases hv with
    | tup _ vs h1 h3 => rfl
  · cases hy
theorem stepD_sound {i : Nat} {K : Env → St → Prop} {Kp : List PanicEntry → Env → St → Prop} (h : stepD P A ops kd N i e s K Kp) (hA : A.sub s) (hH : Holds g s w) (hE : ER w g N e a) {B : Nat} (hd : DK B g w a.defers) {next : Act → World → Prop}
    (hn : ∀ (e' : Env) (s' : St) (g' : G) (a' : Act) (w' : World), LE g w g' w' → Holds g' s' w' → ER w' g' N e' a' → DK B g' w' a'.defers → A.sub s' → K e' s' → next a' w')
    (hp : ∀ (c : List PanicEntry) (s' : St) (g' : G) (w' : World), LE g w g' w' → Holds g' s' w' → Kp c e s' → Q (.panic c) a w') : wpOpR P ops Q i next a w := by
  unfold stepD at h
  unfold wpOpR
  split at h
  · exact h.elim
  · rename_i o ho
    obtain ⟨hdst, h⟩ := h
    have main : dw P A (kindOf (kd i) o.op) e s (fun v s' => K (e.put o.dst v) s') (fun c s' => Kp c e s') o.op → wpR P o a w next Q := fun h =>
      opw_sound hH hE o (dw_opw hA (fun hk => kind_read hk) h) (fun p v s' g' w' k1 k2 k3 k4 => hn _ s' g' _ w' k1 k2 ((hE.le k1.toLEv).put hdst k3) (by rw [put_defers]; exact hd.le k1) k4.1 k4.2) (fun c s' g' w' k1 k2 k3 => hp c s' g' w' k1 k2 k3)
    rw [ho]
    simp only
    cases hg : o.guard with
    | none =>
      rw [if_pos (by simp [Region.wanted, hg])]
      exact main ((gd_none hg).1 h)
    | some jw =>
      obtain ⟨j, want⟩ := jw
      obtain ⟨d, y, hdj, hed, h1, h2⟩ := (gd_some hg).1 h
      have hy : yielded ops a.tmps j = y := yb_yielded (hE.vr d) hdj hed
      by_cases hw : y = some want
      · rw [if_pos (by simp [Region.wanted, hg, hy, hw])]
        exact main (h1 hw)
      · rw [if_neg (by simp [Region.wanted, hg, hy, hw])]
        exact hn _ s g _ w (.refl _ _) hH (hE.put hdst (.tup [] #[] rfl (by simp))) (by rw [put_defers]; exact hd) hA (h2 hw)
/-- Two operations that do not touch each other's slots. -/
theorem apart_looks {x o : Oper} (h : x.apart ops o = true) (v : PV) : ∀ t ∈ o.looksAt ops, (e.put x.dst v) t = e t := by
  obtain ⟨h1, _, _⟩ := Oper.apart_spec h
  intro t ht
  cases hd : x.dst with
  | none => rfl
  | some d =>
    simp only [Env.put]
    rw [if_neg (fun he : t = d => h1 d hd (by rw [← he]; exact ht))]
theorem apart_symm {x o : Oper} (h : x.apart ops o = true) : o.apart ops x = true := by
  unfold Oper.apart at h ⊢
  cases hx : x.dst <;> cases ho : o.dst <;> simp_all
  all_goals first | exact fun e => h.1.2 e.symm | exact ⟨h.2, fun e => h.1.2 e.symm⟩
theorem apart_put {x o : Oper} (h : x.apart ops o = true) (v u : PV) : (e.put x.dst v).put o.dst u = (e.put o.dst u).put x.dst v := by
  obtain ⟨_, h2, _⟩ := Oper.apart_spec h
  exact put_comm v u h2
/-- What operation o gives, its guard heeded. -/
def valD (P : Program) (A : St) (ops : Array Oper) (k : Kind) (o : Oper) (s : St) (e : Env) (u : PV) : Prop := gd ops o e (detV P A k s e o.op u) (u = .tup [])
theorem valD_congr {k : Kind} {o : Oper} {u : PV} (h : ∀ t ∈ o.looksAt ops, e t = e' t) (hv : valD P A ops k o s e u) : valD P A ops k o s e' u := by
  unfold valD at hv ⊢
  rw [detV_congr (looks_ev h), gd_congr h] at hv
  exact hv
theorem stepD_det {i : Nat} {o : Oper} (ho : ops[i]? = some o) (hk : (kindOf (kd i) o.op).det = true) {K : Env → St → Prop} {Kp : List PanicEntry → Env → St → Prop} :
    stepD P A ops kd N i e s K Kp ↔ (∀ t, o.dst = some t → t < N) ∧ ∃ u, valD P A ops (kindOf (kd i) o.op) o s e u ∧ K (e.put o.dst u) s := by
  unfold stepD
  rw [ho]
  simp only [valD]
  cases hg : o.guard with
  | none =>
    rw [gd_none hg, dw_det hk]
    simp only [gd_none hg]
  | some jw =>
    obtain ⟨j, want⟩ := jw
    rw [gd_some hg, dw_det hk]
    simp only [gd_some hg]
    constructor
    · rintro ⟨hd, d, y, h1, h2, h3, h4⟩
      refine ⟨hd, ?_⟩
      by_cases ht : y = some want
      · obtain ⟨v, q1, q2⟩ := h3 ht
        exact ⟨v, ⟨d, y, h1, h2, fun _ => q1, fun h => absurd ht h⟩, q2⟩
      · exact ⟨.tup [], ⟨d, y, h1, h2, fun h => absurd h ht, fun _ => rfl⟩, h4 ht⟩
    · rintro ⟨hd, u, ⟨d, y, h1, h2, h3, h4⟩, hK⟩
      exact ⟨hd, d, y, h1, h2, fun ht => ⟨u, h3 ht, hK⟩, fun ht => by have := h4 ht; subst this; exact hK⟩
theorem stepD_congr {i : Nat} {o : Oper} (ho : ops[i]? = some o) {K K' : Env → St → Prop} {Kp : List PanicEntry → Env → St → Prop} (hl : ∀ t ∈ o.looksAt ops, e t = e' t)
    (hK : ∀ v s', (kindOf (kd i) o.op = .grow → s.sub s') → K (e.put o.dst v) s' → K' (e'.put o.dst v) s') (hKp : ∀ c s', Kp c e s' → Kp c e' s') (h : stepD P A ops kd N i e s K Kp) : stepD P A ops kd N i e' s K' Kp := by
  unfold stepD at h ⊢
  rw [ho] at h ⊢
  simp only at h ⊢
  refine ⟨h.1, ?_⟩
  rw [← gd_congr hl, ← dw_congr (looks_ev hl)]
  exact gd_mono h.2 (dw_mono' (fun v s' => hK v s') (fun c s' => hKp c s')) (hK _ _ (fun _ _ _ h => h))
/-- All of l1 keep off operation o. -/
def Off (ops : Array Oper) (o : Oper) (l : List Nat) : Prop := ∀ x ∈ l, ∀ ox, ops[x]? = some ox → ox.apart ops o = true
theorem step_some {i : Nat} {K : Env → St → Prop} {Kp : List PanicEntry → Env → St → Prop} (h : stepD P A ops kd N i e s K Kp) : ∃ o, ops[i]? = some o := by
  unfold stepD at h
  cases ho : ops[i]? with
  | none => rw [ho] at h; exact h.elim
  | some o => exact ⟨o, rfl⟩
variable {K : Env → St → Prop} {Kp : List PanicEntry → Env → St → Prop}
theorem bubble_det {i : Nat} {o : Oper} (ho : ops[i]? = some o) (hk : (kindOf (kd i) o.op).det = true) (l2 : List Nat) : ∀ (l1 : List Nat) (e : Env), Off ops o l1 → (∀ x ∈ l1, ∀ ox, ops[x]? = some ox → (kindOf (kd x) ox.op).det = true) →
    pwD P A ops kd N (l1 ++ i :: l2) e s K Kp → (∀ t, o.dst = some t → t < N) ∧ ∃ u, valD P A ops (kindOf (kd i) o.op) o s e u ∧ pwD P A ops kd N (l1 ++ l2) (e.put o.dst u) s K Kp
  | [], e, _, _, h => (stepD_det ho hk).1 h
  | x :: l1, e, hoff, hdet, h => by
    simp only [List.cons_append, pwD] at h
    obtain ⟨ox, hox⟩ := step_some h
    have hkx := hdet x List.mem_cons_self ox hox
    have hap := hoff x List.mem_cons_self ox hox
    obtain ⟨hdx, v, hv, h⟩ := (stepD_det hox hkx).1 h
    obtain ⟨hd, u, hu, h⟩ := bubble_det ho hk l2 l1 _ (fun y hy => hoff y (List.mem_cons_of_mem _ hy)) (fun y hy => hdet y (List.mem_cons_of_mem _ hy)) h
    refine ⟨hd, u, valD_congr (apart_looks hap v) hu, ?_⟩
    simp only [List.cons_append, pwD]
    refine (stepD_det hox hkx).2 ⟨hdx, v, valD_congr (fun t ht => (apart_looks (apart_symm hap) u t ht).symm) hv, ?_⟩
    rw [← apart_put hap v u]
    exact h
theorem valD_pure {o : Oper} {s' : St} {u : PV} (h : valD P A ops .pure o s e u) : valD P A ops .pure o s' e u := h
theorem valD_steady {o : Oper} {s' : St} {u : PV} (h : valD P A ops .steady o s e u) : valD P A ops .steady o s' e u := h
theorem valD_read {q : Nat} {o : Oper} {s' : St} {u : PV} (hs : s.sub s') (hk : kindOf q o.op = .read) (h : valD P A ops .read o s e u) : valD P A ops .read o s' e u := by
  unfold valD at h ⊢
  refine gd_mono h (fun h => ?_) (fun h => h)
  simp only [detV] at h ⊢
  rcases kind_read hk with ⟨a, b, hl⟩ | ⟨a, b, c, d, hl⟩
  · rw [hl] at h ⊢
    exact load_mono hs h
  · rw [hl] at h ⊢
    exact look_mono hs h
/-- An operation that makes one block, of its own. -/
def alc : Go.Op → Bool
  | .alloc _ => true
  | .box _ _ => true
  | _ => false
def alcV (P : Program) (e : Env) : Go.Op → TypeId → Nat → List PV → Prop
  | .alloc t, ty, n, cs => ∃ z, tzero P t = some z ∧ (ofVal z).solid = true ∧ ty = t ∧ n = (ofVal z).width ∧ cs = (ofVal z).cells
  | .box t x, ty, n, cs => (e.ev x).solid = true ∧ ty = t ∧ n = (e.ev x).width ∧ cs = (e.ev x).cells
  | _, _, _, _ => False
theorem alcV_congr {op : Go.Op} {ty : TypeId} {n : Nat} {cs : List PV} (h : ∀ x ∈ op.operands, e.ev x = e'.ev x) : alcV P e op ty n cs = alcV P e' op ty n cs := by
  cases op
  case box t x => simp only [alcV]; rw [h x (by simp [Go.Op.operands])]
  all_goals rfl
theorem sub_new {i : Nat} {b : Option Blk} (hi : s i = none) : s.sub (s.upd i b) := by
  intro j c hj
  by_cases hji : j = i
  · subst hji; rw [hi] at hj; cases hj
  · rw [St.upd_ne _ _ hji]; exact hj
theorem alc_kind {q : Nat} {op : Go.Op} (h : alc op = true) : kindOf q op = .grow := by cases op <;> first | rfl | cases h
theorem alc_dw {q : Nat} {op : Go.Op} (ha : alc op = true) {K : PV → St → Prop} {Kp : List PanicEntry → St → Prop} :
    dw P A (kindOf q op) e s K Kp op ↔ ∃ ty n cs, alcV P e op ty n cs ∧ ∀ j, s j = none → K (.pt j 0 0) (s.upd j (some (.row ty n [cs]))) := by
  rw [alc_kind ha]
  cases op <;> try (cases ha; done)
  case alloc t =>
    constructor
    · intro h
      obtain ⟨z, h1, h2, h3⟩ := okv_ex h
      exact ⟨_, _, _, ⟨z, h1, h2, rfl, rfl, rfl⟩, fun j hj => (h3 j hj).2⟩
    · rintro ⟨_, _, _, ⟨z, h1, h2, rfl, rfl, rfl⟩, h⟩
      exact ex_okv h1 ⟨h2, fun j hj => ⟨sub_new hj, h j hj⟩⟩
  case box t x =>
    constructor
    · rintro ⟨h1, h2⟩
      exact ⟨_, _, _, ⟨h1, rfl, rfl, rfl⟩, fun j hj => (h2 j hj).2⟩
    · rintro ⟨_, _, _, ⟨h1, rfl, rfl, rfl⟩, h⟩
      exact ⟨h1, fun j hj => ⟨sub_new hj, h j hj⟩⟩
def outA (P : Program) (ops : Array Oper) (o : Oper) (e : Env) (out : Option (TypeId × Nat × List PV)) : Prop :=
  gd ops o e (∃ ty n cs, out = some (ty, n, cs) ∧ alcV P e o.op ty n cs) (out = none)
theorem outA_congr {o : Oper} {out : Option (TypeId × Nat × List PV)} (h : ∀ t ∈ o.looksAt ops, e t = e' t) (ho : outA P ops o e out) : outA P ops o e' out := by
  unfold outA at ho ⊢
  rw [← gd_congr h]
  refine gd_mono ho ?_ (fun h => h)
  rintro ⟨ty, n, cs, h1, h2⟩
  exact ⟨ty, n, cs, h1, by rw [← alcV_congr (looks_ev h)]; exact h2⟩
def afterA (K : Env → St → Prop) (d : Option Tmp) (e : Env) (s : St) : Option (TypeId × Nat × List PV) → Prop
  | none => K (e.put d (.tup [])) s
  | some (ty, n, cs) => ∀ j, s j = none → K (e.put d (.pt j 0 0)) (s.upd j (some (.row ty n [cs])))
theorem stepD_alc {i : Nat} {o : Oper} (ho : ops[i]? = some o) (ha : alc o.op = true) {K : Env → St → Prop} {Kp : List PanicEntry → Env → St → Prop} :
    stepD P A ops kd N i e s K Kp ↔ (∀ t, o.dst = some t → t < N) ∧ ∃ out, outA P ops o e out ∧ afterA K o.dst e s out := by
  unfold stepD
  rw [ho]
  simp only [outA]
  cases hg : o.guard with
  | none =>
    rw [gd_none hg, alc_dw ha]
    simp only [gd_none hg]
    constructor
    · rintro ⟨h1, ty, n, cs, h2, h3⟩
      exact ⟨h1, some (ty, n, cs), ⟨ty, n, cs, rfl, h2⟩, h3⟩
    · rintro ⟨h1, out, ⟨ty, n, cs, rfl, h2⟩, h3⟩
      exact ⟨h1, ty, n, cs, h2, h3⟩
  | some jw =>
    obtain ⟨j, want⟩ := jw
    rw [gd_some hg, alc_dw ha]
    simp only [gd_some hg]
    constructor
    · rintro ⟨h1, d, y, h2, h3, h4, h5⟩
      by_cases ht : y = some want
      · obtain ⟨ty, n, cs, q1, q2⟩ := h4 ht
        exact ⟨h1, some (ty, n, cs), ⟨d, y, h2, h3, fun _ => ⟨ty, n, cs, rfl, q1⟩, fun h => absurd ht h⟩, q2⟩
      · exact ⟨h1, none, ⟨d, y, h2, h3, fun h => absurd h ht, fun _ => rfl⟩, h5 ht⟩
    · rintro ⟨h1, out, ⟨d, y, h2, h3, h4, h5⟩, h6⟩
      refine ⟨h1, d, y, h2, h3, fun ht => ?_, fun ht => ?_⟩
      · obtain ⟨ty, n, cs, rfl, q2⟩ := h4 ht
        exact ⟨ty, n, cs, q2, h6⟩
      · have := h5 ht
        subst this
        exact h6
theorem swap_alc {x i : Nat} {ox o : Oper} (hox : ops[x]? = some ox) (ho : ops[i]? = some o) (hx : alc ox.op = true) (hi : alc o.op = true) (hap : ox.apart ops o = true) {K : Env → St → Prop} {Kp : List PanicEntry → Env → St → Prop}
    (hfr : ∃ j, s j = none) (h : stepD P A ops kd N x e s (fun e s => stepD P A ops kd N i e s K Kp) Kp) : stepD P A ops kd N i e s (fun e s => stepD P A ops kd N x e s K Kp) Kp := by
  obtain ⟨dx, outx, ox1, ox2⟩ := (stepD_alc hox hx).1 h
  cases outx with
  | none =>
    obtain ⟨di, outi, oi1, oi2⟩ := (stepD_alc ho hi).1 ox2
    refine (stepD_alc ho hi).2 ⟨di, outi, outA_congr (apart_looks hap _) oi1, ?_⟩
    cases outi with
    | none =>
      refine (stepD_alc hox hx).2 ⟨dx, none, outA_congr (fun t ht => (apart_looks (apart_symm hap) _ t ht).symm) ox1, ?_⟩
      simp only [afterA] at oi2 ⊢
      rw [← apart_put hap]; exact oi2
    | some q =>
      obtain ⟨ty, n, cs⟩ := q
      intro j hj
      refine (stepD_alc hox hx).2 ⟨dx, none, outA_congr (fun t ht => (apart_looks (apart_symm hap) _ t ht).symm) ox1, ?_⟩
      have := oi2 j hj
      simp only [afterA]
      rw [← apart_put hap]; exact this
  | some p =>
    obtain ⟨tyx, nx, csx⟩ := p
    -- what i gives does not hang on the block
    have key : (∀ t, o.dst = some t → t < N) ∧ ∃ outi, outA P ops o e outi ∧ ∀ j, s j = none → afterA K o.dst (e.put ox.dst (.pt j 0 0)) (s.upd j (some (.row tyx nx [csx]))) outi := by
      have all : ∀ j, s j = none → (∀ t, o.dst = some t → t < N) ∧ ∃ outi, outA P ops o e outi ∧ afterA K o.dst (e.put ox.dst (.pt j 0 0)) (s.upd j (some (.row tyx nx [csx]))) outi := by
        intro j hj
        obtain ⟨di, outi, oi1, oi2⟩ := (stepD_alc ho hi).1 (ox2 j hj)
        exact ⟨di, outi, outA_congr (apart_looks hap _) oi1, oi2⟩
      by_cases hex : ∃ j, s j = none
      · obtain ⟨j, hj⟩ := hex
        obtain ⟨di, outi, oi1, _⟩ := all j hj
        refine ⟨di, outi, oi1, fun k hk => ?_⟩
        obtain ⟨_, outk, ok1, ok2⟩ := all k hk
        have : outk = outi := by
          unfold outA at oi1 ok1
          cases hg : o.guard with
          | none =>
            rw [gd_none hg] at oi1 ok1
            obtain ⟨_, _, _, rfl, q1⟩ := oi1
            obtain ⟨_, _, _, rfl, q2⟩ := ok1
            cases hop : o.op <;> rw [hop] at q1 q2 hi <;> try (cases hi; done)
            · obtain ⟨z, a1, _, rfl, rfl, rfl⟩ := q1
              obtain ⟨z', b1, _, rfl, rfl, rfl⟩ := q2
              rw [a1] at b1; cases b1; rfl
            · obtain ⟨_, rfl, rfl, rfl⟩ := q1
              obtain ⟨_, rfl, rfl, rfl⟩ := q2
              rfl
          | some jw =>
            obtain ⟨j, want⟩ := jw
            obtain ⟨d, y, g1, g2, g3, g4⟩ := (gd_some hg).1 oi1
            obtain ⟨d', y', g1', g2', g3', g4'⟩ := (gd_some hg).1 ok1
            rw [g1] at g1'; cases g1'
            rw [g2] at g2'; cases g2'
            by_cases ht : y = some want
            · obtain ⟨_, _, _, rfl, q1⟩ := g3 ht
              obtain ⟨_, _, _, rfl, q2⟩ := g3' ht
              cases hop : o.op <;> rw [hop] at q1 q2 hi <;> try (cases hi; done)
              · obtain ⟨z, a1, _, rfl, rfl, rfl⟩ := q1
                obtain ⟨z', b1, _, rfl, rfl, rfl⟩ := q2
                rw [a1] at b1; cases b1; rfl
              · obtain ⟨_, rfl, rfl, rfl⟩ := q1
                obtain ⟨_, rfl, rfl, rfl⟩ := q2
                rfl
            · rw [g4 ht, g4' ht]
        rw [← this]; exact ok2
      · exact absurd hfr hex
    obtain ⟨di, outi, oi1, oi2⟩ := key
    refine (stepD_alc ho hi).2 ⟨di, outi, oi1, ?_⟩
    cases outi with
    | none =>
      refine (stepD_alc hox hx).2 ⟨dx, some (tyx, nx, csx), outA_congr (fun t ht => (apart_looks (apart_symm hap) _ t ht).symm) ox1, fun j hj => ?_⟩
      have := oi2 j hj
      simp only [afterA] at this
      rw [← apart_put hap]; exact this
    | some q =>
      obtain ⟨ty, n, cs⟩ := q
      intro k hk
      refine (stepD_alc hox hx).2 ⟨dx, some (tyx, nx, csx), outA_congr (fun t ht => (apart_looks (apart_symm hap) _ t ht).symm) ox1, fun j hj => ?_⟩
      have hjk : j ≠ k := by intro e; subst e; rw [St.upd_same] at hj; cases hj
      rw [St.upd_ne _ _ hjk] at hj
      have := oi2 j hj k (by rw [St.upd_ne _ _ (Ne.symm hjk)]; exact hk)
      rw [← apart_put hap, ← St.upd_comm s _ _ hjk]; exact this
theorem bubble_eff (hKp : ∀ c e e' s, Kp c e s → Kp c e' s) {i : Nat} {o : Oper} (ho : ops[i]? = some o) (l2 : List Nat) : ∀ (l1 : List Nat) (e : Env) (s : St), (∃ n, ∀ i, n ≤ i → s i = none) → Off ops o l1 →
    (∀ x ∈ l1, ∀ ox, ops[x]? = some ox → (kindOf (kd x) ox.op = .pure ∨ kindOf (kd x) ox.op = .steady) ∨ (kindOf (kd x) ox.op = .read ∧ kindOf (kd i) o.op = .grow) ∨ (alc ox.op = true ∧ alc o.op = true)) →
    pwD P A ops kd N (l1 ++ i :: l2) e s K Kp → stepD P A ops kd N i e s (fun e s => pwD P A ops kd N (l1 ++ l2) e s K Kp) Kp
  | [], e, s, _, _, _, h => h
  | x :: l1, e, s, hF, hoff, hpure, h => by
    simp only [List.cons_append, pwD] at h
    obtain ⟨ox, hox⟩ := step_some h
    have hap := hoff x List.mem_cons_self ox hox
    have ih := fun e s hF => bubble_eff hKp ho l2 l1 e s hF (fun y hy => hoff y (List.mem_cons_of_mem _ hy)) (fun y hy => hpure y (List.mem_cons_of_mem _ hy))
    have main : ((kindOf (kd x) ox.op = .pure ∨ kindOf (kd x) ox.op = .steady) ∨ (kindOf (kd x) ox.op = .read ∧ kindOf (kd i) o.op = .grow)) → stepD P A ops kd N i e s (fun e s => pwD P A ops kd N (x :: l1 ++ l2) e s K Kp) Kp := fun hkx => by
      have hdet : (kindOf (kd x) ox.op).det = true := by rcases hkx with (h | h) | ⟨h, _⟩ <;> rw [h] <;> rfl
      obtain ⟨hdx, v, hv, h⟩ := (stepD_det hox hdet).1 h
      have h2 := ih _ _ hF h
      refine stepD_congr ho (apart_looks hap v) (fun u s' hsub hK => ?_) (fun c s' hc => hKp _ _ _ _ hc) h2
      simp only [List.cons_append, pwD]
      refine (stepD_det hox hdet).2 ⟨hdx, v, ?_, ?_⟩
      · have hv' := valD_congr (fun t ht => (apart_looks (e := e) (apart_symm hap) u t ht).symm) hv
        rcases hkx with (hk | hk) | ⟨hk, hg⟩
        · rw [hk] at hv' ⊢
          exact valD_pure hv'
        · rw [hk] at hv' ⊢
          exact valD_steady hv'
        · rw [hk] at hv' ⊢
          exact valD_read (hsub hg) hk hv'
      · rw [← apart_put hap v u]
        exact hK
    rcases hpure x List.mem_cons_self ox hox with hk | hk | ⟨hx, hi⟩
    · exact main (.inl hk)
    · exact main (.inr hk)
    · obtain ⟨n, hn⟩ := hF
      refine swap_alc hox ho hx hi hap ⟨n, hn n (Nat.le_refl _)⟩ ?_
      obtain ⟨dx, out, o1, o2⟩ := (stepD_alc hox hx).1 h
      refine (stepD_alc hox hx).2 ⟨dx, out, o1, ?_⟩
      cases out with
      | none => exact ih _ _ ⟨n, hn⟩ o2
      | some q =>
        obtain ⟨ty, m, cs⟩ := q
        intro j hj
        refine ih _ _ ⟨max n (j + 1), fun i hi => ?_⟩ (o2 j hj)
        rw [St.upd_ne _ _ (by omega)]
        exact hn i (by omega)
/-! ### The order that is told -/
def deps (ops : Array Oper) (i : Nat) : List Nat := match ops[i]? with
  | some o => (o.after.toList.filter (Region.binds .any)).map (·.on)
  | none => []
def ancs (ops : Array Oper) : List (List Nat) := (List.range ops.size).foldl (fun acc i => acc ++ [(deps ops i ++ (deps ops i).flatMap fun y => acc.getD y []).eraseDups]) []
/-- x may come behind i though it is told before it. -/
def swp (ops : Array Oper) (kd : Nat → Nat) (x i : Nat) : Bool := match ops[x]?, ops[i]? with
  | some ox, some oi => ox.apart ops oi && (decide (kindOf (kd x) ox.op = .pure) || decide (kindOf (kd x) ox.op = .steady) || ((kindOf (kd x) ox.op).det && (kindOf (kd i) oi.op).det) || (decide (kindOf (kd x) ox.op = .read) && decide (kindOf (kd i) oi.op = .grow)) || (alc ox.op && alc oi.op))
  | _, _ => false
/-- An order in which what has no effect comes as early as it can. -/
def planGo (ops : Array Oper) (kd : Nat → Nat) : Nat → List Nat → List Nat
  | 0, _ => []
  | n + 1, done =>
    let rs := (List.range ops.size).filter fun i => !done.contains i && (deps ops i).all fun y => done.contains y
    match (rs.find? fun i => (ops[i]?).any fun o => (kindOf (kd i) o.op).det) <|> rs.head? with
    | some i => i :: planGo ops kd n (i :: done)
    | none => []
def plan (ops : Array Oper) (kd : Nat → Nat) : List Nat := planGo ops kd ops.size []
def chk (ops : Array Oper) (kd : Nat → Nat) (p : List Nat) (A : List (List Nat)) : Bool :=
  decide (p.length = ops.size) && (List.range ops.size).all (fun i => p.contains i) && p.all (fun i => decide (i < ops.size)) && decide p.Nodup && p.all (fun x => (deps ops x).all fun y => decide (y < ops.size) && decide (y ≠ x)) &&
  decide (p.Pairwise fun x i => i ∉ deps ops x) && p.all (fun i => (A.getD i []).all fun x => (deps ops i).contains x || (deps ops i).any fun y => (A.getD y []).contains x) &&
  decide (p.Pairwise fun x i => (A.getD i []).contains x = true ∨ swp ops kd x i = true)
end
end Go.Pv
