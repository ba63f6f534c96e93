/- A logic over plain values: a piece of code computes what it needs. -/
import Derived.Test.YteajbghklmkoeaaPv8
namespace Go.Pv
set_option linter.unusedVariables false
set_option linter.unusedSimpArgs false
/-- What a call of a value needs. -/
def callW (P : Program) (s : St) (f : PV) (args : List PV) (K : PV → St → Prop) (Kp : List PanicEntry → St → Prop) : Prop := match f with
  | .fn f fs cs => PCalls P f (fs ++ args ++ cs) s fun r s' => match r with
    | .ret p => K p s'
    | .pan c => Kp c s'
  | _ => False
def storeW (P : Program) (s : St) (t : TypeId) (p x : PV) (K : St → Prop) : Prop := match p with
  | .pt i j f => (match s i with
    | some (.row ty sz els) => okv (els[j]?) fun cs => tsz P t = some x.width ∧ x.solid = true ∧ f + x.width ≤ cs.length ∧ K (s.upd i (some (.row ty sz (els.set j (spl cs f x.cells)))))
    | none => False)
  | _ => False
theorem storeW_ex {P : Program} {s : St} {t : TypeId} {p x : PV} {K : St → Prop} (h : storeW P s t p x K) : ∃ i j f ty sz els cs, p = .pt i j f ∧ s i = some (.row ty sz els) ∧ els[j]? = some cs ∧ tsz P t = some x.width ∧ x.solid = true ∧ f + x.width ≤ cs.length ∧ K (s.upd i (some (.row ty sz (els.set j (spl cs f x.cells))))) := by
  unfold storeW at h
  split at h
  · rename_i i j f
    split at h
    · rename_i ty sz els hs
      obtain ⟨cs, h1, h2⟩ := okv_ex h
      exact ⟨i, j, f, ty, sz, els, cs, rfl, hs, h1, h2⟩
    · exact h.elim
  · exact h.elim
theorem ex_storeW {P : Program} {s : St} {t : TypeId} {x : PV} {K : St → Prop} {i j f : Nat} {ty : TypeId} {sz : Nat} {els : List (List PV)} {cs : List PV} (h1 : s i = some (.row ty sz els)) (h2 : els[j]? = some cs) (h3 : tsz P t = some x.width ∧ x.solid = true ∧ f + x.width ≤ cs.length ∧ K (s.upd i (some (.row ty sz (els.set j (spl cs f x.cells)))))) : storeW P s t (.pt i j f) x K := by
  unfold storeW
  simp only [h1]
  exact ex_okv h2 h3
/-- A slice against nil. -/
def eqNilW (op : BinOp) (k : VK) (xs : List PV) (K : PV → Prop) : Prop := match op with
  | .eql => ∀ t : Bool, (k = .nil → t = true) → (xs ≠ [] → t = false) → K (.lit (.bool t))
  | .neq => ∀ t : Bool, (k = .nil → t = true) → (xs ≠ [] → t = false) → K (.lit (.bool !t))
  | _ => False
def binW (P : Program) (op : BinOp) (t : TypeId) (x y : PV) (K : PV → Prop) : Prop := match x, y with
  | .vec k xs, .vec .nil [] => (sliceT P t).isSome = true ∧ eqNilW op k xs K
  | x, y => okv (bin P op t x y) K
def opw (P : Program) (e : Env) (s : St) (K : PV → St → Prop) (Kp : List PanicEntry → St → Prop) (op : Go.Op) : Prop := match op with
  | .alloc t => okv (tzero P t) fun z => (ofVal z).solid = true ∧ ∀ i, s i = none → K (.pt i 0 0) (s.upd i (some (.row t (ofVal z).width [(ofVal z).cells])))
  | .box t x => (e.ev x).solid = true ∧ ∀ i, s i = none → K (.pt i 0 0) (s.upd i (some (.row t (e.ev x).width [(e.ev x).cells])))
  | .store t a x => storeW P s t (e.ev a) (e.ev x) (K .junk)
  | .build t parts => okv (bld P e t parts.toList) fun v => K v s
  | .buildSlice t len parts => okv (mkSlice P e t len parts.toList) fun v => K v s
  | .pick c a b => (match e.ev c with
    | .lit (.bool t) => (t = true → K (e.ev a) s) ∧ (t = false → K (e.ev b) s)
    | _ => False)
  | .call c => (match c.callee with
    | .builtin .append => (match c.args.toList, c.argTypes.toList with
      | [x, y], [t, t2] => appW P s t t2 (e.ev x) (e.ev y) K
      | _, _ => False)
    | .value f => callW P s (e.ev f) (c.args.toList.map e.ev) K Kp
    | _ => okv (qcall P e c) fun v => K v s)
  | .binOp op t x y _ => binW P op t (e.ev x) (e.ev y) fun v => K v s
  | op => okv (qop P e s op) fun v => K v s
section
variable {P : Program} {w : World} {g : G} {s : St} {N : Nat} {e : Env} {a : Act}
theorem opw_sound (hH : Holds g s w) (hE : ER w g N e a) (o : Oper) {K : PV → St → Prop} {Kp : List PanicEntry → St → Prop} (h : opw P e s K Kp o.op) {next : Act → World → Prop} {Q : Exit → Act → World → Prop}
    (hn : ∀ (p : PV) (v : Value) (s' : St) (g' : G) (w' : World), LE g w g' w' → Holds g' s' w' → VR w' g' p v → K p s' → next (a.put o.dst v) w')
    (hp : ∀ (c : List PanicEntry) (s' : St) (g' : G) (w' : World), LE g w g' w' → Holds g' s' w' → Kp c s' → Q (.panic c) a w') : o.wp P a w next Q := by
  have quiet : (∃ v, qop P e s o.op = some v ∧ K v s) → o.wp P a w next Q := by
    rintro ⟨v, hv, hK⟩
    obtain ⟨u, hu, hr⟩ := qop_sound (P := P) hH hE o hv
    unfold Oper.wp
    rw [hu]
    exact hn v u s g w (.refl _ _) hH hr hK
  obtain ⟨dst, op, ty, pos, after, guard⟩ := o
  simp only at h quiet hn
  unfold opw at h
  split at h
  · rename_i t
    obtain ⟨z, hz, hso, hK⟩ := okv_ex h
    obtain ⟨w', g', h1, h2, h3, h4⟩ := box_sound (P := P) hH (VR.ofVal w g z) hso t
    have : (execOp a.eval ⟨dst, .alloc t, ty, pos, after, guard⟩).run P w = .ok (.value (.pointer (some ⟨w.heap.size, 0, none⟩))) w' := by
      simp only [execOp, Instr.alloc, Sem.run_bind, run_zeroValue hz, Result.andThen_ok, h1, Sem.run_pure]
    unfold Oper.wp
    rw [this]
    exact hn _ _ _ g' w' h2 h3 h4 (hK g.n (hH.fresh _ (Nat.le_refl _)))
  · rename_i t x
    obtain ⟨hso, hK⟩ := h
    obtain ⟨w', g', h1, h2, h3, h4⟩ := box_sound (P := P) hH (hE.ev x) hso t
    have : (execOp a.eval ⟨dst, .box t x, ty, pos, after, guard⟩).run P w = .ok (.value (.pointer (some ⟨w.heap.size, 0, none⟩))) w' := by
      simp only [execOp, Instr.box, Sem.run_bind, Result.andThen_ok, h1, Sem.run_pure]
    unfold Oper.wp
    rw [this]
    exact hn _ _ _ g' w' h2 h3 h4 (hK g.n (hH.fresh _ (Nat.le_refl _)))
  · rename_i t p x
    have hpv := hE.ev p
    obtain ⟨i, j, f, ty', sz, els, cs, hpe, h1, h2, h3, h4, h5, hK⟩ := storeW_ex h
    rw [hpe] at hpv
    obtain ⟨w', q1, q2, q3⟩ := store_sound (P := P) hH hpv (hE.ev x) h4 h3 h1 h2 h5
    have : (execOp a.eval ⟨dst, .store t p x, ty, pos, after, guard⟩).run P w = .ok .skip w' := by
      simp only [execOp, Sem.run_bind, q1, Result.andThen_ok, Sem.run_pure]
    unfold Oper.wp
    rw [this]
    exact hn .junk undef _ g w' q2 q3 (.junk _) hK
  · rename_i t parts
    obtain ⟨v, hv, hK⟩ := okv_ex h
    obtain ⟨u, hu, hr⟩ := bld_sound (P := P) hE hv
    have : (execOp a.eval ⟨dst, .build t parts, ty, pos, after, guard⟩).run P w = .ok (.value u) w := by
      simp only [execOp, Sem.run_bind, hu, Result.andThen_ok, Sem.run_pure]
    unfold Oper.wp
    rw [this]
    exact hn v u s g w (.refl _ _) hH hr hK
  · rename_i t len parts
    obtain ⟨v, hv, hK⟩ := okv_ex h
    obtain ⟨u, g', w', hu, h1, h2, h3⟩ := mkSlice_sound (P := P) hH hE hv
    have : (execOp a.eval ⟨dst, .buildSlice t len parts, ty, pos, after, guard⟩).run P w = .ok (.value u) w' := by
      simp only [execOp, Sem.run_bind, hu, Result.andThen_ok, Sem.run_pure]
    unfold Oper.wp
    rw [this]
    exact hn v u s g' w' h1 h2 h3 hK
  · rename_i c x y
    obtain ⟨t, hc, ht, hf⟩ : ∃ t, e.ev c = .lit (.bool t) ∧ (t = true → K (e.ev x) s) ∧ (t = false → K (e.ev y) s) := by
      split at h
      · exact ⟨_, ‹_›, h⟩
      · exact h.elim
    have hv := hE.ev c
    rw [hc] at hv
    obtain ⟨hcv, _⟩ := hv.lit_inv
    have : (execOp a.eval ⟨dst, .pick c x y, ty, pos, after, guard⟩).run P w = .ok (.value (if t then a.eval x else a.eval y)) w := by
      simp only [execOp, Sem.run_bind, hcv, asBool, Sem.run_pure, Result.andThen_ok]
    unfold Oper.wp
    rw [this]
    cases t with
    | true => exact hn _ _ s g w (.refl _ _) hH (hE.ev x) (ht rfl)
    | false => exact hn _ _ s g w (.refl _ _) hH (hE.ev y) (hf rfl)
  · rename_i c
    obtain ⟨cal, ⟨args⟩, ⟨ats⟩⟩ := c
    simp only at h
    split at h
    · split at h
      · rename_i x y t t2
        obtain ⟨q, r, s', g', w', h1, h2, h3, h4, h5⟩ := append_sound (P := P) (ty := ty) hH (hE.ev x) (hE.ev y) h
        have : (execOp a.eval ⟨dst, .call ⟨.builtin .append, ⟨[x, y]⟩, ⟨[t, t2]⟩⟩, ty, pos, after, guard⟩).run P w = .ok (.value q) w' := by
          simp only [execOp, resolve, invoke, builtin, Sem.run_bind, Sem.run_pure, Result.andThen_ok, List.map_toArray, List.map_cons, List.map_nil, h1]
        unfold Oper.wp
        rw [this]
        exact hn r q s' g' w' h2 h3 h4 h5
      · exact h.elim
    · rename_i f
      have hfv := hE.ev f
      generalize hpe : e.ev f = ff at h hfv
      unfold callW at h
      split at h
      · rename_i fid fs cs
        obtain ⟨hent, h⟩ := h
        generalize hfe : a.eval f = fv at hfv
        cases hfv with
        | fn _ _ _ fvs cvs h1 h2 h3 h4 =>
          obtain ⟨m1, m2⟩ := args_map hE ⟨args⟩
          have hrun : (execOp a.eval ⟨dst, .call ⟨.value f, ⟨args⟩, ⟨ats⟩⟩, ty, pos, after, guard⟩).run P w = .ok (.enter fid (fvs ++ (List.map a.eval args).toArray ++ cvs)) w := by
            simp only [execOp, resolve, hfe, Deferred.ofValue, invoke, Sem.run_bind, Sem.run_pure, Result.andThen_ok, List.map_toArray, run_enters hent]
          unfold Oper.wp
          rw [hrun]
          refine (h g w _ hH ⟨by simp [h1, h2], fun i p v hpi hvi => ?_⟩).mono ?_
          · simp only [List.map_toArray] at m1 m2
            by_cases hi1 : i < fs.length
            · rw [List.append_assoc, List.getElem?_append_left hi1] at hpi
              rw [Array.append_assoc, Array.getElem?_append_left (by omega)] at hvi
              exact h3 i p v hpi hvi
            · by_cases hi2 : i < fs.length + args.length
              · rw [List.append_assoc, List.getElem?_append_right (by omega), List.getElem?_append_left (by simp; omega)] at hpi
                rw [Array.append_assoc, Array.getElem?_append_right (by omega), Array.getElem?_append_left (by simp; omega), h1] at hvi
                exact m2 _ p v hpi hvi
              · rw [List.getElem?_append_right (by simp; omega)] at hpi
                rw [Array.getElem?_append_right (by simp; omega)] at hvi
                simp only [List.length_append, List.length_map, Array.size_append, List.size_toArray, h1] at hpi hvi
                exact h4 _ p v hpi hvi
          · rintro ex w' ⟨res, s', g', k1, k2, k3, k4⟩
            cases k3 with
            | ret p v hv => exact hn p v s' g' w' k1 k2 hv k4
            | pan c => exact hp c s' g' w' k1 k2 k4
      · exact h.elim
    · exact quiet (okv_ex h)
  · rename_i op t x y t2
    unfold binW at h
    split at h
    · rename_i k xs hx hy
      obtain ⟨hsl, h⟩ := h
      obtain ⟨el, hel⟩ := Option.isSome_iff_exists.1 hsl
      have h1 := hE.ev x
      have h2 := hE.ev y
      rw [hx] at h1
      rw [hy] at h2
      generalize hvx : a.eval x = vx at h1
      generalize hvy : a.eval y = vy at h2
      cases h1 with
      | vec _ _ A cap sz f hc hk hnn h0 hs hm hr =>
        cases h2 with
        | vec _ _ A2 cap2 sz2 f2 hc2 hk2 hnn2 h02 hs2 hm2 hr2 =>
          obtain ⟨rfl, _⟩ := hnn2 rfl
          have hcap2 := h02 rfl
          subst hcap2
          replace hvy : a.eval y = .slice none 0 0 := hvy
          have hq : ∀ (d : Nat) (w : World), (Op.equalIn (d + 1) t (.slice A xs.length cap) (.slice none 0 0)).run P w = .ok A.isNone w := fun d w => by
            cases A <;> simp [Op.equalIn, sliceT_run hel]
          have hq' : ∀ w : World, (Op.equal t (.slice A xs.length cap) (.slice none 0 0)).run P w = .ok A.isNone w := fun w => hq 9999 w
          have p1 : k = .nil → A.isNone = true := fun hk => by rw [(hnn hk).1]; rfl
          have p2 : xs ≠ [] → A.isNone = false := fun hne => by
            cases A with
            | none => exact absurd (List.eq_nil_of_length_eq_zero (by have := h0 rfl; omega)) hne
            | some _ => rfl
          unfold eqNilW at h
          split at h
          · have hr : (execOp a.eval ⟨dst, .binOp .eql t x y t2, ty, pos, after, guard⟩).run P w = .ok (.value (.bool A.isNone)) w := by
              simp only [execOp, hvx, hvy, eqGuard, binOp, Sem.run_bind]
              simp [hq']
            unfold Oper.wp
            rw [hr]
            exact hn _ _ s g w (.refl _ _) hH (.lit _ rfl) (h _ p1 p2)
          · have hr : (execOp a.eval ⟨dst, .binOp .neq t x y t2, ty, pos, after, guard⟩).run P w = .ok (.value (.bool !A.isNone)) w := by
              simp only [execOp, hvx, hvy, eqGuard, binOp, Sem.run_bind]
              simp [hq']
            unfold Oper.wp
            rw [hr]
            exact hn _ _ s g w (.refl _ _) hH (.lit _ rfl) (h _ p1 p2)
          · exact h.elim
    · exact quiet (okv_ex h)
  · exact quiet (okv_ex h)
/-- What the operations of a region need, in their order. -/
def pws (P : Program) (dst : Nat → Option Tmp) (N : Nat) : List Oper → Env → St → (Env → St → Prop) → (List PanicEntry → Env → St → Prop) → Prop
  | [], e, s, K, _ => K e s
  | o :: os, e, s, K, Kp => (∀ t, o.dst = some t → t < N) ∧ (match o.guard with
    | none => opw P e s (fun v s' => pws P dst N os (e.put o.dst v) s' K Kp) (fun c s' => Kp c e s') o.op
    | some (j, want) => okv (dst j) fun d => (match e d with
      | .lit (.bool t) => (t = want → opw P e s (fun v s' => pws P dst N os (e.put o.dst v) s' K Kp) (fun c s' => Kp c e s') o.op) ∧ (t = !want → pws P dst N os (e.put o.dst (.tup [])) s K Kp)
      | .tup [] => pws P dst N os (e.put o.dst (.tup [])) s K Kp
      | _ => False))
theorem put_defers (a : Act) (d : Option Tmp) (v : Value) : (a.put d v).defers = a.defers := by cases d <;> rfl
theorem pws_sound {ops : Array Oper} (g0 : G) (w0 : World) {Q : Exit → Env → St → Prop} : ∀ (l : List Oper) (e : Env) (s : St) (g : G) (a : Act) (w : World), LE g0 w0 g w → Holds g s w → ER w g N e a → a.defers = [] →
    pws P (fun j => (ops[j]?).bind (·.dst)) N l e s (Q .normal) (fun c e s => Q (.panic c) e s) → wpList P ops (PQ N g0 w0 Q) l a w
  | [], e, s, g, a, w, hle, hH, hE, hd, h => wpList_nil ⟨e, s, g, hle, hH, hE, hd, h⟩
  | o :: os, e, s, g, a, w, hle, hH, hE, hd, h => by
    obtain ⟨hdst, h⟩ := h
    have main : opw P e s (fun v s' => pws P (fun j => (ops[j]?).bind (·.dst)) N os (e.put o.dst v) s' (Q .normal) (fun c e s => Q (.panic c) e s)) (fun c s' => Q (.panic c) e s') o.op → o.wp P a w (wpList P ops (PQ N g0 w0 Q) os) (PQ N g0 w0 Q) := fun h =>
      opw_sound hH hE o h (fun p v s' g' w' k1 k2 k3 k4 => pws_sound g0 w0 os _ s' g' _ w' (hle.trans k1) k2 ((hE.le k1.toLEv).put hdst k3) (by rw [put_defers]; exact hd) k4)
        (fun c s' g' w' k1 k2 k3 => ⟨e, s', g', hle.trans k1, k2, hE.le k1.toLEv, hd, k3⟩)
    unfold wpList
    split at h
    · rename_i hg
      rw [if_pos (by simp [Region.wanted, hg])]
      exact .inl (main h)
    · rename_i j want hg
      obtain ⟨d, hdj, h⟩ := okv_ex h
      have hu : VR w g (.tup []) undef := .tup [] #[] rfl (by simp)
      split at h
      case h_3 => exact h.elim
      case h_2 hed =>
        have hv := hE.vr d
        rw [hed] at hv
        have hvd : a.tmps.getD d undef = .tuple #[] := by
          generalize a.tmps.getD d undef = u at hv
          cases hv with
          | tup _ vs h1 h3 =>
            have : vs = #[] := Array.eq_empty_of_size_eq_zero (by simpa using h1)
            rw [this]
        have hy : yielded ops a.tmps j = none := by
          unfold yielded
          have hdj' : (ops[j]?).bind (·.dst) = some d := hdj
          rw [hdj']
          simp only [Option.bind_some]
          rw [Array.getD_eq_getD_getElem?] at hvd
          cases ht : a.tmps[d]? with
          | none => rfl
          | some v => rw [ht] at hvd; cases hvd; rfl
        rw [if_neg (by simp [Region.wanted, hg, hy])]
        exact pws_sound g0 w0 os _ s g _ w hle hH (hE.put hdst hu) (by rw [put_defers]; exact hd) h
      rename_i t hed
      obtain ⟨h1, h2⟩ := h
      have hv := hE.vr d
      rw [hed] at hv
      obtain ⟨hvd, _⟩ := hv.lit_inv
      have hy : yielded ops a.tmps j = some t := by
        unfold yielded
        have hdj' : (ops[j]?).bind (·.dst) = some d := hdj
        rw [hdj']
        simp only [Option.bind_some]
        rw [Array.getD_eq_getD_getElem?] at hvd
        cases ht : a.tmps[d]? with
        | none => rw [ht] at hvd; cases hvd
        | some v => rw [ht] at hvd; cases hvd; rfl
      by_cases hw : t = want
      · rw [if_pos (by simp [Region.wanted, hg, hy, hw])]
        exact .inl (main (h1 hw))
      · rw [if_neg (by simp [Region.wanted, hg, hy, hw])]
        exact pws_sound g0 w0 os _ s g _ w hle hH (hE.put hdst hu) (by rw [put_defers]; exact hd) (h2 (by cases t <;> cases want <;> simp_all))
/-- What a piece of code needs; loops, and regions that draw their order, are left to be told. -/
def pwC (P : Program) (N : Nat) : Code → Env → St → (Exit → Env → St → Prop) → Prop
  | .skip, e, s, Q => Q .normal e s
  | .region _ ops false, e, s, Q => pws P (fun j => (ops[j]?).bind (·.dst)) N ops.toList e s (Q .normal) (fun c e s => Q (.panic c) e s)
  | .seq x y, e, s, Q => pwC P N x e s (thenQ (fun e s => pwC P N y e s Q) Q)
  | .cond c x y, e, s, Q => (match e.ev c with
    | .lit (.bool t) => (t = true → pwC P N x e s Q) ∧ (t = false → pwC P N y e s Q)
    | _ => False)
  | .block id c, e, s, Q => pwC P N c e s (inB id Q)
  | .exit id, e, s, Q => Q (.exit id) e s
  | .ret, e, s, Q => Q .ret e s
  | c, e, s, Q => PW P N c e s Q
theorem PW.region {id : Nat} {ops : Array Oper} {Q : Exit → Env → St → Prop} (h : pws P (fun j => (ops[j]?).bind (·.dst)) N ops.toList e s (Q .normal) (fun c e s => Q (.panic c) e s)) : PW P N (.region id ops false) e s Q :=
  fun g a w hH hE hd => wp_region_list (pws_sound g w ops.toList e s g a w (.refl _ _) hH hE hd h)
theorem pwC_sound : ∀ (c : Code) (e : Env) (s : St) (Q : Exit → Env → St → Prop), pwC P N c e s Q → PW P N c e s Q
  | .skip, e, s, Q, h => PW.skip h
  | .region _ ops false, e, s, Q, h => PW.region h
  | .region _ ops true, e, s, Q, h => h
  | .seq x y, e, s, Q, h => PW.seq (PW.mono (pwC_sound x e s _ h) fun ex e s hq => by
      cases ex <;> first | exact pwC_sound y e s Q hq | exact hq)
  | .cond c x y, e, s, Q, h => by
    unfold pwC at h
    split at h
    · exact PW.cond ‹_› (fun ht => pwC_sound x e s Q (h.1 ht)) (fun ht => pwC_sound y e s Q (h.2 ht))
    · exact h.elim
  | .block id c, e, s, Q, h => PW.block (pwC_sound c e s _ h)
  | .exit id, e, s, Q, h => PW.exit h
  | .ret, e, s, Q, h => PW.ret h
  | .loop c, e, s, Q, h => h
  | .rangeFunc _ _ _ _, e, s, Q, h => h
  | .scope c, e, s, Q, h => h
  | .label _, e, s, Q, h => h
  | .goto _, e, s, Q, h => h
  | .refuse _, e, s, Q, h => h
end
end Go.Pv
