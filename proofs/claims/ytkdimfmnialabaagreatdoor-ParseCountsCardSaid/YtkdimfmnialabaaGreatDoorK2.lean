/- Several texts, one behind the other. -/
import Derived.Test.YtkdimfmnialabaaGreatDoorK1
/- A symbolic walk: methods of an object. -/
namespace Go.Pv
set_option linter.unusedVariables false
set_option linter.unusedSimpArgs false
section
variable {P : Program} {T : TI} {s : St}
theorem SRel.one {i ty sz : Nat} {cs : List PV} (hs : s i = some (.row ty sz [cs])) : SRel [i] (fun _ => i) [some (.cel ty sz (cs.map .pv))] (s.upd i none) s := by
  have get : ∀ (k : Nat) (l : Loc), ([some (.cel ty sz (cs.map .pv))] : SS)[k]? = some (some l) → k = 0 ∧ l = .cel ty sz (cs.map .pv) := fun k l h => by
    cases k with
    | zero => cases h; exact ⟨rfl, rfl⟩
    | succ k => simp at h
  refine ⟨fun j c hj => ?_, fun k j hk => ?_, fun k l hk hl => St.upd_same _ _ _, fun k k' l l' hk hk' _ _ _ => by rw [(get k l hk).1, (get k' l' hk').1], fun k l hk => ?_⟩
  · by_cases h : j = i
    · subst h; rw [St.upd_same] at hj; cases hj
    · rwa [St.upd_ne _ _ h] at hj
  · cases k with
    | zero => cases hk; exact ⟨by simp, rfl⟩
    | succ k => simp at hk
  · obtain ⟨rfl, rfl⟩ := get k l hk
    exact ⟨cs, pv_cells, hs⟩
theorem SRel.none : SRel [] (fun _ => 0) [] s s := ⟨sub_refl, fun k j hk => by simp at hk, fun k l hk => by simp at hk, fun k k' l l' hk => by simp at hk, fun k l hk => by simp at hk⟩
theorem pvs_all {σ : Nat → Nat} {st : SS} (ps : List PV) : All2 (SVR σ st) (pvs ps) ps := by
  have := All2.maps (R := SVR σ st) (f := fun p => SV.av (.pv p)) (g := id) (fun c => Or.inr rfl) ps
  simpa using this
/-- A method of an object, told. -/
theorem PCalls.obj {f : FuncId} {fn : Func} {c : Code} {D : Ord} {i ty sz : Nat} {cs xs : List PV} {R : Res → St → Prop} (hT : TIok P T) (hs : s i = some (.row ty sz [cs])) (hf : P.funcs[f]? = some fn) (hb : fn.body = some c)
    (hn : ((fn.name != "runtime.NumGoroutine") && Nat.ble (xs.length + 1) fn.ntmps && dOk fn.ntmps c && dOkD D) = true)
    (h : Pv.sx P T fn.ntmps [i] D c (argE 0 (.av (.cell 0 0) :: pvs xs)) [some (.cel ty sz (cs.map .pv))] (s.upd i none) (endQ T [i] fn.results.toList R)) : PCalls P f (.pt i 0 0 :: xs) s R :=
  PCalls.sx hT (SRel.one hs) (.cons (show SVR _ _ (.av (.cell 0 0)) (.pt i 0 0) from (⟨by simp, rfl⟩ : _ ∧ _)) (pvs_all xs)) hf hb hn h
theorem PCalls.objO {f : FuncId} {fn : Func} {c : Code} {D : Ord} {i ty sz : Nat} {cs xs : List PV} {R : Res → St → Prop} {t : Tmp} (hT : TIok P T) (hs : s i = some (.row ty sz [cs])) (hf : P.funcs[f]? = some fn) (hb : fn.body = some c)
    (hn : ((fn.name != "runtime.NumGoroutine") && Nat.ble (xs.length + 1) fn.ntmps && dOk fn.ntmps c && dOkD D) = true) (hres : fn.results.toList = [.tmp t])
    (h : Pv.sx P T fn.ntmps [i] D c (argE 0 (.av (.cell 0 0) :: pvs xs)) [some (.cel ty sz (cs.map .pv))] (s.upd i none) (endO T [i] t R)) : PCalls P f (.pt i 0 0 :: xs) s R :=
  PCalls.sxO hT (SRel.one hs) (.cons (show SVR _ _ (.av (.cell 0 0)) (.pt i 0 0) from (⟨by simp, rfl⟩ : _ ∧ _)) (pvs_all xs)) hf hb hn hres h
/-- A function of plain values, told. -/
theorem PCalls.fun {f : FuncId} {fn : Func} {c : Code} {D : Ord} {xs : List PV} {R : Res → St → Prop} (hT : TIok P T) (hf : P.funcs[f]? = some fn) (hb : fn.body = some c)
    (hn : ((fn.name != "runtime.NumGoroutine") && Nat.ble xs.length fn.ntmps && dOk fn.ntmps c && dOkD D) = true) (h : Pv.sx P T fn.ntmps [] D c (argE 0 (pvs xs)) [] s (endQ T [] fn.results.toList R)) : PCalls P f xs s R :=
  PCalls.sx hT SRel.none (pvs_all xs) hf hb hn h
theorem PCalls.funO {f : FuncId} {fn : Func} {c : Code} {D : Ord} {xs : List PV} {R : Res → St → Prop} {t : Tmp} (hT : TIok P T) (hf : P.funcs[f]? = some fn) (hb : fn.body = some c)
    (hn : ((fn.name != "runtime.NumGoroutine") && Nat.ble xs.length fn.ntmps && dOk fn.ntmps c && dOkD D) = true) (hres : fn.results.toList = [.tmp t]) (h : Pv.sx P T fn.ntmps [] D c (argE 0 (pvs xs)) [] s (endO T [] t R)) : PCalls P f xs s R :=
  PCalls.sxO hT SRel.none (pvs_all xs) hf hb hn hres h
end
end Go.Pv

/- A symbolic walk: slices of one's own become plain lists where a piece of code ends. -/
namespace Go.Pv
set_option linter.unusedVariables false
set_option linter.unusedSimpArgs false
def fzV (k : Nat) (xs : List PV) : SV → SV
  | .av (.own j) => bif Nat.beq j k then .av (.pv (.vec .any xs)) else .av (.own j)
  | v => v
def fzE (k : Nat) (xs : List PV) : SE → SE
  | [] => []
  | (t, v) :: r => (t, fzV k xs v) :: fzE k xs r
/-- One slice of one's own may be taken for a list where the piece ends. -/
def FzQ (Q : Exit → SE → SS → St → Prop) : Exit → SE → SS → St → Prop := fun x env st b =>
  Q x env st b ∨ ∃ (k : Nat) (xs : List PV) (ty sz : Nat) (els : List (List PV)), st[k]? = some (some (.lst ty sz els)) ∧ xs.map PV.cells = els ∧ Q x (fzE k xs env) (st.set k none) b
def FzN : Nat → (Exit → SE → SS → St → Prop) → Exit → SE → SS → St → Prop
  | 0, Q => Q
  | n + 1, Q => FzQ (FzN n Q)
theorem fzE_lk {k : Nat} {xs : List PV} : ∀ {env : SE} {t : Nat} {v : SV}, lk (fzE k xs env) t = some v → ∃ u, lk env t = some u ∧ v = fzV k xs u
  | [], t, v, h => by cases h
  | (a, u) :: r, t, v, h => by
    simp only [fzE, lk] at h ⊢
    cases hb : Nat.beq a t with
    | true => rw [hb] at h; cases h; exact ⟨u, rfl, rfl⟩
    | false => rw [hb] at h; exact fzE_lk h
section
variable {P : Program} {T : TI} {imp : List Nat} {σ : Nat → Nat} {st : SS} {b s : St} {env : SE} {e : Env} {N : Nat}
theorem PW.convQ {c : Code} {Q Q' : Exit → Env → St → Prop} (h : PW P N c e s Q) (hq : ∀ x e s, Q x e s → ∃ e' s', Q' x e' s' ∧ ∀ (g : G) (w : World), Holds g s w → ∃ g', LE g w g' w ∧ Holds g' s' w ∧ ∀ t v, VR w g (e t) v → VR w g' (e' t) v) : PW P N c e s Q' := by
  intro r B g a w hr hH hE hd
  refine wpIn_mono (h r B g a w hr hH hE hd) fun ex a' w' ⟨e', s', g', h1, h2, h3, h4, h5⟩ => ?_
  obtain ⟨e2, s2, q1, q2⟩ := hq _ _ _ h5
  obtain ⟨g2, l2, H2, V2⟩ := q2 g' w' h2
  exact ⟨e2, s2, g2, h1.trans l2, H2, ⟨h3.size, fun t => V2 t _ (h3.vr t)⟩, h4.le l2, q1⟩
theorem fz_step {x : Exit} {Q : Exit → SE → SS → St → Prop} {k ty sz : Nat} {xs : List PV} {els : List (List PV)} (hR : SRel imp σ st b s) (hE : ERel σ st env e) (hst : st[k]? = some (some (.lst ty sz els))) (hx : xs.map PV.cells = els) :
    ∃ e' s', SRel imp σ (st.set k none) b s' ∧ ERel σ (st.set k none) (fzE k xs env) e' ∧ ∀ (g : G) (w : World), Holds g s w → ∃ g', LE g w g' w ∧ Holds g' s' w ∧ ∀ t v, VR w g (e t) v → VR w g' (e' t) v := by
  let own : Nat → Bool := fun t => match lk env t with
    | some (.av (.own j)) => Nat.beq j k
    | _ => false
  let e' : Env := fun t => bif own t then .vec .any xs else e t
  have hown : ∀ t, own t = true → e t = ownPV (σ k) sz els := fun t ht => by
    simp only [own] at ht
    split at ht
    · rename_i j hj
      have := Nat.eq_of_beq_eq_true ht
      subst this
      exact (hE t _ hj).2 _ _ _ hst
    · cases ht
  have rel : SExt σ st σ (st.set k none) → ERel σ (st.set k none) (fzE k xs env) e' := fun hX t v hl => by
    obtain ⟨u, h1, rfl⟩ := fzE_lk hl
    have h2 := SVR.ext hX (hE t u h1)
    show SVR σ _ (fzV k xs u) (bif own t then .vec .any xs else e t)
    by_cases ho : own t = true
    · rw [ho]
      simp only [own] at ho
      rw [h1] at ho
      split at ho
      · rename_i j hj
        cases hj
        simp only [fzV, ho]
        exact Or.inr rfl
      · cases ho
    · have ho' : own t = false := by simpa using ho
      rw [ho']
      have : fzV k xs u = u := by
        unfold fzV
        split
        · rename_i j
          simp only [own] at ho'
          rw [h1] at ho'
          simp only at ho'
          rw [ho']
          rfl
        · rfl
      rw [this]
      exact h2
  cases els with
  | nil =>
    have hx0 : xs = [] := by simpa using hx
    subst hx0
    obtain ⟨d1, d2⟩ := hR.drop k
    refine ⟨e', s, d2, rel d1, fun g w hH => ⟨g, .refl _ _, hH, fun t v hv => ?_⟩⟩
    show VR w g (bif own t then .vec .any [] else e t) v
    by_cases ho : own t = true
    · rw [ho]
      rw [hown t ho] at hv
      exact VR.wk (Wk.any .nil []) hv
    · have ho' : own t = false := by simpa using ho
      rw [ho']
      exact hv
  | cons c els =>
    obtain ⟨d1, d2⟩ := hR.kill hst rfl
    have hs : s (σ k) = some (.row ty sz (c :: els)) := hR.loc k _ hst
    refine ⟨e', _, d2, rel d1, fun g w hH => ?_⟩
    have hne : s (σ k) ≠ none := by rw [hs]; simp
    have hsub : (s.upd (σ k) none).sub s := by
      intro j b hj
      by_cases h : j = σ k
      · subst h; rw [St.upd_same] at hj; cases hj
      · rwa [St.upd_ne _ _ h] at hj
    have hlt := (hH.blk _ _ hs).lt
    have hle := LEv.freeze (g := g) (w := w) (g.mu (σ k)).blk
    have hZ : (g.freeze (g.mu (σ k)).blk).Z (g.mu (σ k)).blk := .inr rfl
    refine ⟨g.freeze (g.mu (σ k)).blk, LE.freeze _, (hH.sub hsub).freeze hlt (fun j hj hb => ?_), fun t v hv => ?_⟩
    · by_cases h : j = σ k
      · subst h; rw [St.upd_same] at hj; exact hj rfl
      · rw [St.upd_ne _ _ h] at hj; exact h (hH.inj j _ hj hne hb)
    · show VR w _ (bif own t then .vec .any xs else e t) v
      by_cases ho : own t = true
      · rw [ho]
        rw [hown t ho] at hv
        have hxl : xs.length = (c :: els).length := by rw [← hx]; simp
        have := fz1_vr hH hs hx hle hZ (p := .sl (σ k) sz 0 (c :: els).length) (fun a b c d he _ => by cases he; omega) hv
        have he : fz1 (σ k) xs (.sl (σ k) sz 0 (c :: els).length) = .vec .any xs := by simp [fz1]; rw [List.take_of_length_le (by simp at hxl; omega)]
        rw [he] at this
        exact this
      · have ho' : own t = false := by simpa using ho
        rw [ho']
        exact hv.le hle
theorem sw_fz {c : Code} {Q : Exit → SE → SS → St → Prop} (h : SW P N imp c env st b (FzQ Q)) : SW P N imp c env st b Q := by
  intro σ s e hR hE
  refine PW.convQ (h σ s e hR hE) ?_
  intro x e s hq
  have idc : ∀ {Q' : Exit → Env → St → Prop}, Q' x e s → ∃ e' s', Q' x e' s' ∧ ∀ (g : G) (w : World), Holds g s w → ∃ g', LE g w g' w ∧ Holds g' s' w ∧ ∀ t v, VR w g (e t) v → VR w g' (e' t) v := fun h => ⟨e, s, h, fun g w hH => ⟨g, .refl _ _, hH, fun t v hv => hv⟩⟩
  have main : (∃ σ st b env, SRel imp σ st b s ∧ ERel σ st env e ∧ FzQ Q x env st b) → (∀ c, x ≠ .panic c) → ∃ e' s', LiftQ imp Q x e' s' ∧ ∀ (g : G) (w : World), Holds g s w → ∃ g', LE g w g' w ∧ Holds g' s' w ∧ ∀ t v, VR w g (e t) v → VR w g' (e' t) v := by
    rintro ⟨σ, st, b, env, k1, k2, k3 | ⟨k, xs, ty, sz, els, h1, h2, k3⟩⟩ hx
    · exact idc (liftQ_of hx ⟨σ, st, b, env, k1, k2, k3⟩)
    · obtain ⟨e', s', q1, q2, q3⟩ := fz_step (x := x) (Q := Q) k1 k2 h1 h2
      exact ⟨e', s', liftQ_of hx ⟨σ, _, b, _, q1, q2, k3⟩, q3⟩
  cases x with
  | panic c =>
    obtain ⟨σ, st, b, k1, k3 | ⟨k, xs, ty, sz, els, h1, h2, k3⟩⟩ := hq
    · exact idc ⟨σ, st, b, k1, k3⟩
    · obtain ⟨e', s', q1, q2, q3⟩ := fz_step (env := []) (e := e) (x := .panic c) (Q := Q) k1 (fun t v hl => by cases hl) h1 h2
      exact ⟨e', s', ⟨σ, _, b, q1, k3⟩, q3⟩
  | normal => exact main hq (by simp)
  | exit i => exact main hq (by simp)
  | goto l => exact main hq (by simp)
  | ret => exact main hq (by simp)
  | outgrown => exact main hq (by simp)
theorem sw_fzN : ∀ (n : Nat) {c : Code} {Q : Exit → SE → SS → St → Prop}, SW P N imp c env st b (FzN n Q) → SW P N imp c env st b Q
  | 0, c, Q, h => h
  | n + 1, c, Q, h => sw_fzN n (sw_fz h)
/-- A function that hands out up to n slices of its own as plain lists. -/
theorem PCalls.sxF (n : Nat) {f : FuncId} {fn : Func} {c : Code} {D : Ord} {args : List PV} {vs : List SV} {R : Res → St → Prop} (hT : TIok P T) (hR : SRel imp σ st b s) (hA : All2 (SVR σ st) vs args) (hf : P.funcs[f]? = some fn) (hb : fn.body = some c)
    (hn : ((fn.name != "runtime.NumGoroutine") && Nat.ble args.length fn.ntmps && dOk fn.ntmps c && dOkD D) = true) (h : Pv.sx P T fn.ntmps imp D c (argE 0 vs) st b (FzN n (endQ T imp fn.results.toList R))) : PCalls P f args s R := by
  simp only [Bool.and_eq_true, Nat.ble_eq] at hn
  obtain ⟨⟨⟨h1, h2⟩, h3⟩, h4⟩ := hn
  refine PCalls.of hf hb h1 h2 ((sw_fzN n (sx_sound hT h4 c h3 _ _ _ _ h) σ s _ hR (argE_rel hA)).mono ?_)
  intro x e s hq
  have fin : (∃ σ st b env, SRel imp σ st b s ∧ ERel σ st env e ∧ resS T env st fn.results.toList fun ps => okS (outS b imp st) fun s => R (.ret (one ps)) s) → ∃ ps, resP P e s fn.results.toList = some ps ∧ ∃ s', s'.sub s ∧ R (.ret (one ps)) s' := by
    rintro ⟨σ, st, b, env, k1, k2, k3⟩
    obtain ⟨ps, k4, k5⟩ := resS_ok hT k1 k2 _ _ k3
    obtain ⟨s', k6, k7⟩ := okS_ex k5
    exact ⟨ps, k4, s', k1.out k6, k7⟩
  cases x with
  | normal => exact fin hq
  | ret => exact fin hq
  | panic c =>
    obtain ⟨σ, st, b, k1, k3⟩ := hq
    obtain ⟨s', k6, k7⟩ := okS_ex k3
    exact ⟨s', k1.out k6, k7⟩
  | exit i => obtain ⟨_, _, _, _, _, _, k⟩ := hq; exact k.elim
  | goto l => obtain ⟨_, _, _, _, _, _, k⟩ := hq; exact k.elim
  | outgrown => obtain ⟨_, _, _, _, _, _, k⟩ := hq; exact k.elim
theorem PCalls.funF (n : Nat) {f : FuncId} {fn : Func} {c : Code} {D : Ord} {xs : List PV} {R : Res → St → Prop} (hT : TIok P T) (hf : P.funcs[f]? = some fn) (hb : fn.body = some c)
    (hn : ((fn.name != "runtime.NumGoroutine") && Nat.ble xs.length fn.ntmps && dOk fn.ntmps c && dOkD D) = true) (h : Pv.sx P T fn.ntmps [] D c (argE 0 (pvs xs)) [] s (FzN n (endQ T [] fn.results.toList R))) : PCalls P f xs s R :=
  PCalls.sxF n hT SRel.none (pvs_all xs) hf hb hn h
end
end Go.Pv

/- A symbolic walk: what may be done between the lines. -/
namespace Go.Pv
set_option linter.unusedVariables false
set_option linter.unusedSimpArgs false
def Cv (s : St) (e : Env) (s' : St) (e' : Env) : Prop := ∀ (g : G) (w : World), Holds g s w → ∃ g', LE g w g' w ∧ Holds g' s' w ∧ ∀ t v, VR w g (e t) v → VR w g' (e' t) v
theorem Cv.refl {s : St} {e : Env} : Cv s e s e := fun g w hH => ⟨g, .refl _ _, hH, fun t v hv => hv⟩
theorem Cv.trans {s s1 s2 : St} {e e1 e2 : Env} (h : Cv s e s1 e1) (h' : Cv s1 e1 s2 e2) : Cv s e s2 e2 := fun g w hH => by
  obtain ⟨g1, l1, H1, v1⟩ := h g w hH
  obtain ⟨g2, l2, H2, v2⟩ := h' g1 w H1
  exact ⟨g2, l1.trans l2, H2, fun t v hv => v2 t v (v1 t v hv)⟩
/-- What holds after ghost steps. -/
def Gh (imp : List Nat) (K : SE → SS → St → Prop) (env : SE) (st : SS) (b : St) : Prop := ∀ σ s e, SRel imp σ st b s → ERel σ st env e → ∃ σ' s' e' env' st' b', SRel imp σ' st' b' s' ∧ ERel σ' st' env' e' ∧ Cv s e s' e' ∧ K env' st' b'
section
variable {P : Program} {T : TI} {imp : List Nat} {σ : Nat → Nat} {st : SS} {b b' s : St} {env : SE} {e : Env} {N : Nat} {K K' : SE → SS → St → Prop}
theorem SRel.less (h : SRel imp σ st b s) (hb : b'.sub b) : SRel imp σ st b' s := by
  refine ⟨fun j c hj => h.sub j c (hb j c hj), h.imp, fun k l hk hl => ?_, h.inj, h.loc⟩
  have hf : b (σ k) = Option.none := h.fr k l hk hl
  show b' (σ k) = Option.none
  rcases hq : b' (σ k) with _ | x
  · rfl
  · rw [hb _ _ hq] at hf; cases hf
theorem Gh.ret (h : K env st b) : Gh imp K env st b := fun σ s e hR hE => ⟨σ, s, e, env, st, b, hR, hE, .refl, h⟩
theorem Gh.view (sel keep : List Nat) (hv : okView imp sel = true) (h : Gh imp K (sview sel keep env) (sstore sel st) b) : Gh imp K env st b := fun σ s e hR hE => h _ s e (view_rel hv hR) (view_env hE)
theorem Gh.sub (hb : b'.sub b) (h : Gh imp K env st b') : Gh imp K env st b := fun σ s e hR hE => h σ s e (hR.less hb) hE
/-- .. in the frame. -/
def fzO (i sz n : Nat) (xs : List PV) : SV → SV
  | .av (.pv (.sl j z o l)) => bif Nat.beq j i && Nat.beq z sz && Nat.beq o 0 && Nat.beq l n then .av (.pv (.vec .any xs)) else .av (.pv (.sl j z o l))
  | v => v
theorem fzO_map {i sz n : Nat} {xs : List PV} : ∀ {env : SE} {t : Nat} {v : SV}, lk (env.map fun p => (p.1, fzO i sz n xs p.2)) t = some v → ∃ u, lk env t = some u ∧ v = fzO i sz n xs u
  | [], t, v, h => by cases h
  | (a, u) :: r, t, v, h => by
    simp only [List.map_cons, lk] at h ⊢
    cases hb : Nat.beq a t with
    | true => rw [hb] at h; cases h; exact ⟨u, rfl, rfl⟩
    | false => rw [hb] at h; exact fzO_map h
theorem Gh.fzOut {i ty sz : Nat} {els : List (List PV)} {xs : List PV} (hi : b i = some (.row ty sz els)) (hx : xs.map PV.cells = els) (h : Gh imp K (env.map fun p => (p.1, fzO i sz els.length xs p.2)) st (b.upd i none)) : Gh imp K env st b := fun σ s e hR hE => by
  have h1 := hR.outDrop (i := i) (by rw [hi]; simp)
  let e' : Env := fun t => match lk env t with
    | some (.av (.pv (.sl j z o l))) => bif Nat.beq j i && Nat.beq z sz && Nat.beq o 0 && Nat.beq l els.length then .vec .any xs else e t
    | _ => e t
  have hE' : ERel σ st (env.map fun p => (p.1, fzO i sz els.length xs p.2)) e' := fun t v hl => by
    obtain ⟨u, q1, rfl⟩ := fzO_map hl
    have hu := hE t u q1
    simp only [e']
    rw [q1]
    unfold fzO
    split
    · rename_i j z o l
      simp only
      cases hb : (Nat.beq j i && Nat.beq z sz && Nat.beq o 0 && Nat.beq l els.length) with
      | true => exact Or.inr rfl
      | false => exact hu
    · rename_i v hn
      split
      · rename_i j z o l hq
        cases hq
        exact absurd rfl (hn j z o l)
      · exact hu
  obtain ⟨σ2, s2, e2, env2, st2, b2, r1, r2, r3, r4⟩ := h σ _ e' h1 hE'
  refine ⟨σ2, s2, e2, env2, st2, b2, r1, r2, Cv.trans (fun g w hH => ?_) r3, r4⟩
  have hs := hR.sub i _ hi
  have hsn : s i ≠ none := by rw [hs]; simp
  have hsub : (s.upd i none).sub s := by
    intro j c hj
    by_cases h : j = i
    · subst h; rw [St.upd_same] at hj; cases hj
    · rwa [St.upd_ne _ _ h] at hj
  have hlt := (hH.blk _ _ hs).lt
  have hle := LEv.freeze (g := g) (w := w) (g.mu i).blk
  have hZ : (g.freeze (g.mu i).blk).Z (g.mu i).blk := .inr rfl
  have H1 : Holds (g.freeze (g.mu i).blk) (s.upd i none) w := (hH.sub hsub).freeze hlt (fun j hj hb => by
    by_cases h : j = i
    · subst h; rw [St.upd_same] at hj; exact hj rfl
    · rw [St.upd_ne _ _ h] at hj; exact h (hH.inj j i hj hsn hb))
  refine ⟨_, LE.freeze _, H1, fun t v hv => ?_⟩
  simp only [e']
  split
  · rename_i j z o l hq
    cases hb : (Nat.beq j i && Nat.beq z sz && Nat.beq o 0 && Nat.beq l els.length) with
    | true =>
      simp only [Bool.and_eq_true, Nat.beq_eq] at hb
      obtain ⟨⟨⟨rfl, rfl⟩, rfl⟩, rfl⟩ := hb
      have hp : e t = .sl j z 0 els.length := pvS (hE t _ hq) rfl
      rw [hp] at hv
      have hxl : xs.length = els.length := by rw [← hx]; simp
      have := fz1_vr hH hs hx hle hZ (p := .sl j z 0 els.length) (fun a b c d he _ => by cases he; omega) hv
      have he : fz1 j xs (.sl j z 0 els.length) = .vec .any xs := by simp [fz1]; rw [List.take_of_length_le (by omega)]
      rw [he] at this
      exact this
    | false => exact hv.le hle
  · exact hv.le hle
def GhQ (imp : List Nat) (Q : Exit → SE → SS → St → Prop) : Exit → SE → SS → St → Prop
  | .panic c, e, st, b => Q (.panic c) e st b
  | x, e, st, b => Gh imp (Q x) e st b
theorem gh_post {x : Exit} {Q : Exit → SE → SS → St → Prop} (hq : LiftQ imp (GhQ imp Q) x e s) : ∃ e' s', LiftQ imp Q x e' s' ∧ Cv s e s' e' := by
  have main : (∃ σ st b env, SRel imp σ st b s ∧ ERel σ st env e ∧ Gh imp (Q x) env st b) → (∀ c, x ≠ .panic c) → ∃ e' s', LiftQ imp Q x e' s' ∧ Cv s e s' e' := by
    rintro ⟨σ, st, b, env, k1, k2, k3⟩ hx
    obtain ⟨σ', s', e', env', st', b', h1, h2, h3, h4⟩ := k3 σ s e k1 k2
    exact ⟨e', s', liftQ_of hx ⟨σ', st', b', env', h1, h2, h4⟩, h3⟩
  cases x with
  | panic c => exact ⟨e, s, hq, .refl⟩
  | normal => exact main hq (by simp)
  | exit i => exact main hq (by simp)
  | goto l => exact main hq (by simp)
  | ret => exact main hq (by simp)
  | outgrown => exact main hq (by simp)
theorem sw_gh {c : Code} {Q : Exit → SE → SS → St → Prop} (h : SW P N imp c env st b (GhQ imp Q)) : SW P N imp c env st b Q := fun σ s e hR hE => PW.convQ (h σ s e hR hE) fun x e s hq => gh_post hq
/-- A function, with ghost steps at its end. -/
theorem PCalls.sxG {f : FuncId} {fn : Func} {c : Code} {D : Ord} {args : List PV} {vs : List SV} {R : Res → St → Prop} (hT : TIok P T) (hR : SRel imp σ st b s) (hA : All2 (SVR σ st) vs args) (hf : P.funcs[f]? = some fn) (hb : fn.body = some c)
    (hn : ((fn.name != "runtime.NumGoroutine") && Nat.ble args.length fn.ntmps && dOk fn.ntmps c && dOkD D) = true) (h : Pv.sx P T fn.ntmps imp D c (argE 0 vs) st b (GhQ imp (endQ T imp fn.results.toList R))) : PCalls P f args s R := by
  simp only [Bool.and_eq_true, Nat.ble_eq] at hn
  obtain ⟨⟨⟨h1, h2⟩, h3⟩, h4⟩ := hn
  refine PCalls.of hf hb h1 h2 ((sw_gh (sx_sound hT h4 c h3 _ _ _ _ h) σ s _ hR (argE_rel hA)).mono ?_)
  intro x e s hq
  have fin : (∃ σ st b env, SRel imp σ st b s ∧ ERel σ st env e ∧ resS T env st fn.results.toList fun ps => okS (outS b imp st) fun s => R (.ret (one ps)) s) → ∃ ps, resP P e s fn.results.toList = some ps ∧ ∃ s', s'.sub s ∧ R (.ret (one ps)) s' := by
    rintro ⟨σ, st, b, env, k1, k2, k3⟩
    obtain ⟨ps, k4, k5⟩ := resS_ok hT k1 k2 _ _ k3
    obtain ⟨s', k6, k7⟩ := okS_ex k5
    exact ⟨ps, k4, s', k1.out k6, k7⟩
  cases x with
  | normal => exact fin hq
  | ret => exact fin hq
  | panic c =>
    obtain ⟨σ, st, b, k1, k3⟩ := hq
    obtain ⟨s', k6, k7⟩ := okS_ex k3
    exact ⟨s', k1.out k6, k7⟩
  | exit i => obtain ⟨_, _, _, _, _, _, k⟩ := hq; exact k.elim
  | goto l => obtain ⟨_, _, _, _, _, _, k⟩ := hq; exact k.elim
  | outgrown => obtain ⟨_, _, _, _, _, _, k⟩ := hq; exact k.elim
theorem PCalls.funG {f : FuncId} {fn : Func} {c : Code} {D : Ord} {xs : List PV} {R : Res → St → Prop} (hT : TIok P T) (hf : P.funcs[f]? = some fn) (hb : fn.body = some c)
    (hn : ((fn.name != "runtime.NumGoroutine") && Nat.ble xs.length fn.ntmps && dOk fn.ntmps c && dOkD D) = true) (h : Pv.sx P T fn.ntmps [] D c (argE 0 (pvs xs)) [] s (GhQ [] (endQ T [] fn.results.toList R))) : PCalls P f xs s R :=
  PCalls.sxG hT SRel.none (pvs_all xs) hf hb hn h
end
/-- The types' table, appends to some types of slices told as blocks of the outer state. -/
def TI.outer (T : TI) (l : List Nat) : TI := { T with out := l }
end Go.Pv

/- A symbolic walk: a cell of one's own is handed out; calls that make blocks. -/
namespace Go.Pv
set_option linter.unusedVariables false
set_option linter.unusedSimpArgs false
def ouA (k i : Nat) : AV → AV
  | .cell j f => bif Nat.beq j k then .pv (.pt i 0 f) else .cell j f
  | a => a
def ouV (k i : Nat) : SV → SV
  | .av a => .av (ouA k i a)
  | v => v
def ouE (k i : Nat) : SE → SE
  | [] => []
  | (t, v) :: r => (t, ouV k i v) :: ouE k i r
theorem ouE_lk {k i : Nat} : ∀ {env : SE} {t : Nat} {v : SV}, lk (ouE k i env) t = some v → ∃ u, lk env t = some u ∧ v = ouV k i u
  | [], t, v, h => by cases h
  | (a, u) :: r, t, v, h => by
    simp only [ouE, lk] at h ⊢
    cases hb : Nat.beq a t with
    | true => rw [hb] at h; cases h; exact ⟨u, rfl, rfl⟩
    | false => rw [hb] at h; exact ouE_lk h
section
variable {P : Program} {T : TI} {imp : List Nat} {σ : Nat → Nat} {st : SS} {b b' s : St} {env : SE} {e : Env} {N : Nat} {K : SE → SS → St → Prop}
/-- A cell of one's own becomes a block of the outer state. -/
theorem Gh.cellOut {k ty sz : Nat} {ps : List PV} (hl : ps.all PV.live = true) (hst : st[k]? = some (some (.cel ty sz (ps.map .pv)))) (h : ∀ i, b i = none → Gh imp K (ouE k i env) (st.set k none) (b.upd i (some (.row ty sz [ps])))) : Gh imp K env st b := fun σ s e hR hE => by
  have hf : b (σ k) = none := hR.fr k _ hst rfl
  obtain ⟨qs, q1, q2⟩ := hR.loc k _ hst
  have hq := avs_live hl q1
  subst hq
  obtain ⟨d1, d2⟩ := hR.kill hst rfl
  have hkl : k < st.length := (List.getElem?_eq_some_iff.1 hst).1
  have hX : SExt σ st σ (st.set k none) := d1
  refine h (σ k) hf σ s e ?_ (fun t v hv => ?_)
  · have := d2.outNew (i := σ k) (x := .row ty sz [qs]) (St.upd_same _ _ _)
    rw [St.upd_upd, St.upd_self q2] at this
    exact this
  · obtain ⟨u, h1, rfl⟩ := ouE_lk hv
    have hu := SVR.ext hX (hE t u h1)
    cases u with
    | av a =>
      cases a with
      | cell j f =>
        simp only [ouV, ouA]
        cases hb : Nat.beq j k with
        | true =>
          have := Nat.eq_of_beq_eq_true hb
          subst this
          exact Or.inr (hE t _ h1).2
        | false => exact hu
      | pv p => exact hu
      | own j => exact hu
    | ag cs => exact hu
    | fnc f a c => exact hu
end
section
variable {P : Program} {imp : List Nat} {f : FuncId} {args : List SV} {ps : List PV} {st : SS} {b : St} {K : SV → SS → St → Prop} {Kp : List PanicEntry → SS → St → Prop}
/-- A call that makes two blocks. -/
theorem sc_new2 {R : PV → Nat → Nat → Blk → Blk → Prop} (ha : args = pvs ps) (hl : ps.all PV.live = true)
    (h : ∀ s, b.sub s → PCalls P f ps s fun r s' => ∃ v i j x y, r = .ret v ∧ s i = none ∧ (s.upd i (some x)) j = none ∧ s' = (s.upd i (some x)).upd j (some y) ∧ R v i j x y) (hK : ∀ v i j x y, b i = none → (b.upd i (some x)) j = none → R v i j x y → K (.av (.pv v)) st ((b.upd i (some x)).upd j (some y))) : SC P imp f args st b K Kp := by
  intro σ s qs hR hA
  subst ha
  rw [pvs_rel hl hA]
  refine (h s hR.sub).mono ?_
  rintro _ s' ⟨v, i, j, x, y, rfl, h1, h2, rfl, hr⟩
  have r1 := hR.outNew (i := i) (x := x) h1
  have r2 := r1.outNew (i := j) (x := y) h2
  exact ⟨σ, st, _, .av (.pv v), .refl, r2, Or.inr rfl, hK v i j x y (hR.sub.fresh h1) (r1.sub.fresh h2) hr⟩
end
end Go.Pv

/- Two parts of a state; a tree's nodes with their paths, in the order of a walk. -/
namespace Go.Pv
set_option linter.unusedVariables false
set_option linter.unusedSimpArgs false
/-- One part, and another one beside it. -/
def join (b o : St) : St := fun i => match b i with
  | some x => some x
  | none => o i
def Disj (b o : St) : Prop := ∀ i, b i ≠ none → o i = none
theorem OwnL.upd {ty : TypeId} {sz k : Nat} {b o : St} {els : List (List PV)} {v : PV} {x : Option Blk} (h : OwnL ty sz b els v o) (hk : o k = none ∨ b k ≠ none) : OwnL ty sz (b.upd k x) els v (o.upd k x) := by
  rcases h with ⟨h1, h2, rfl⟩ | ⟨h0, j, hj, rfl, rfl⟩
  · exact .inl ⟨h1, h2, rfl⟩
  · have hjk : j ≠ k := by
      rintro rfl
      rcases hk with hk | hk
      · rw [St.upd_same] at hk; cases hk
      · exact hk hj
    refine .inr ⟨h0, j, ?_, rfl, St.upd_comm _ _ _ hjk⟩
    unfold Fresh
    rw [St.upd_ne _ _ hjk]
    exact hj
/-- The nodes of a tree with their paths, in preorder. -/
def walkN : Nd → List Int → List (List Int × Nd)
  | ⟨op, s, n, fr, to, l⟩, p => (p, ⟨op, s, n, fr, to, l⟩) :: (l.attach.zipIdx.flatMap fun ⟨⟨y, _⟩, i⟩ => walkN y (p ++ [(i : Int)]))
def walkL (p : List Int) (l : List (Nd × Nat)) : List (List Int × Nd) := l.flatMap fun yi => walkN yi.1 (p ++ [(yi.2 : Int)])
end Go.Pv
