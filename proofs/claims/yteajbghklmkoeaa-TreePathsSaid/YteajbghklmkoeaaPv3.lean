/- A logic over plain values: the operations that only read do what is said. -/
import Derived.Test.YteajbghklmkoeaaPv2
import Derived.Lib.UnsafeStr
import Derived.Lib.Builder
namespace Go.Pv
set_option linter.unusedVariables false
set_option linter.unusedSimpArgs false
theorem ba_eq (a b : ByteArray) : (a.toList == b.toList) = decide (a = b) := by
  rw [Bool.eq_iff_iff, beq_iff_eq, decide_eq_true_iff, ByteArray.toList_eq, ByteArray.toList_eq]
  exact ⟨fun h => ByteArray.ext (Array.toList_inj.mp h), fun h => by rw [h]⟩
theorem int_beq (a b : Int) : (a == b) = decide (a = b) := by rw [Bool.eq_iff_iff]; simp
section
variable {P : Program} {w : World} {g : G} {s : St} {N : Nat} {e : Env} {a : Act}
theorem VR.ep_drop {cs : List PV} {ad : Addr} (h : VR w g (.ep cs) (.pointer (some ad))) (o : Nat) : VR w g (.ep (cs.drop o)) (.pointer (some (ad.add o))) := by
  cases h with
  | ep _ _ f hm h2 =>
    refine .ep _ _ (fun j => f (o + j)) (fun j c hj => ?_) (fun j c hj => ?_)
    · rw [List.getElem?_drop] at hj
      obtain ⟨h1, h2, h3⟩ := hm (o + j) c hj
      refine ⟨by rw [add_zero_add]; exact h1, ?_, h3⟩
      have : (ad.add o).add j = ad.add (o + j) := by
        unfold Addr.add
        by_cases h0 : o = 0
        · subst h0; simp
        · by_cases h1 : j = 0
          · subst h1; simp
          · simp [h0, h1, Nat.add_assoc]
      rw [this]; exact h2
    · rw [List.getElem?_drop] at hj
      exact h2 (o + j) c hj
theorem VR.ep_inv {cs : List PV} {v : Value} (h : VR w g (.ep cs) v) : ∃ ad, v = .pointer (some ad) := by cases h; exact ⟨_, rfl⟩
theorem VR.pt_inv {i j f : Nat} {v : Value} (h : VR w g (.pt i j f) v) : i < g.n ∧ v = .pointer (some ⟨(g.mu i).blk, j * (g.mu i).sz + f, none⟩) := by cases h with | pt _ _ _ hi => exact ⟨hi, rfl⟩
theorem pt_add {i j f n : Nat} : (⟨(g.mu i).blk, j * (g.mu i).sz + f, none⟩ : Addr).add n = ⟨(g.mu i).blk, j * (g.mu i).sz + (f + n), none⟩ := by rw [add_plain, Nat.add_assoc]
theorem eqC_nil {cs ds : List PV} {b : Bool} (h : eqC [] cs ds = some b) : b = true := by
  cases cs <;> cases ds <;> simp [eqC] at h
  exact h
theorem eqC_cons {t : Nat} {ts : List Nat} {cs ds : List PV} {b : Bool} (h : eqC (t :: ts) cs ds = some b) : ∃ c cr d dr a r, cs = c :: cr ∧ ds = d :: dr ∧ eq1 t c d = some a ∧ eqC ts cr dr = some r ∧ b = (a && r) := by
  cases cs <;> cases ds <;> simp only [eqC, reduceCtorEq] at h
  replace h := Option.bind_eq_some_iff.1 h; obtain ⟨a, h1, h⟩ := h
  obtain ⟨r, h2, h3⟩ := Option.map_eq_some_iff.1 h
  exact ⟨_, _, _, _, a, r, rfl, rfl, h1, h2, h3.symm⟩
theorem drop_cons {es : List PV} {i : Nat} {c : PV} {rest : List PV} (hd : es.drop i = c :: rest) : es[i]? = some c ∧ es.drop (i + 1) = rest := by
  constructor
  · have : (es.drop i)[0]? = some c := by rw [hd]; rfl
    rw [List.getElem?_drop] at this; simpa using this
  · rw [← List.drop_drop, hd]; rfl
theorem eqC_sound {cs ds : List PV} {xs ys : Array Value} (hl1 : xs.size = cs.length) (hr1 : ∀ (i : Nat) (c : PV) (v : Value), cs[i]? = some c → xs[i]? = some v → VR w g c v) (hl2 : ys.size = ds.length) (hr2 : ∀ (i : Nat) (c : PV) (v : Value), ds[i]? = some c → ys[i]? = some v → VR w g c v) (d : Nat) :
    ∀ (fs : List Field) (i : Nat) (ts : List Nat) (b : Bool), flatF P i fs = some ts → eqC ts (cs.drop i) (ds.drop i) = some b → (Op.eqFields (d + 1) xs ys fs).run P w = .ok b w
  | [], i, ts, b, hf, he => by
    cases hf
    rw [eqC_nil he]
    simp [Op.eqFields]
  | f :: fs, i, ts, b, hf, he => by
    unfold flatF at hf
    split at hf
    case isFalse => cases hf
    rename_i hfi
    obtain ⟨h1, h2⟩ := hfi
    have step : ∀ {k : Nat} {ts' : List Nat}, ts = k :: ts' → flatF P (i + 1) fs = some ts' → aggT P f.type = some false →
        (∀ (c e : PV) (a : Bool) (u v : Value), eq1 k c e = some a → VR w g c u → VR w g e v → (Op.equalIn (d + 1) f.type u v).run P w = .ok a w) → (Op.eqFields (d + 1) xs ys (f :: fs)).run P w = .ok b w := by
      intro k ts' hts hf' ha hq
      subst hts
      obtain ⟨c, cr, e, er, a, r, q1, q2, q3, q4, rfl⟩ := eqC_cons he
      obtain ⟨c1, c2⟩ := drop_cons q1
      obtain ⟨e1, e2⟩ := drop_cons q2
      have lc := (List.getElem?_eq_some_iff.1 c1).1
      have le := (List.getElem?_eq_some_iff.1 e1).1
      have gu : xs[i]? = some xs[i] := Array.getElem?_eq_getElem (by omega)
      have gv : ys[i]? = some ys[i] := Array.getElem?_eq_getElem (by omega)
      have ih := eqC_sound hl1 hr1 hl2 hr2 d fs (i + 1) ts' r hf' (by rw [c2, e2]; exact q4)
      have p1 : (part f.type xs f.offset).run P w = .ok xs[i] w := by simp only [part, h1, Sem.run_bind, run_isAgg ha, Result.andThen_ok, Bool.false_eq_true, if_false, gu, Sem.run_pure]
      have p2 : (part f.type ys f.offset).run P w = .ok ys[i] w := by simp only [part, h1, Sem.run_bind, run_isAgg ha, Result.andThen_ok, Bool.false_eq_true, if_false, gv, Sem.run_pure]
      have p3 := hq c e a _ _ q3 (hr1 i c _ c1 gu) (hr2 i e _ e1 gv)
      rw [Op.eqFields]
      simp only [if_pos h2, Sem.run_bind, p1, p2, p3, Result.andThen_ok]
      cases a
      · simp
      · simpa using ih
    split at hf
    · rename_i kk hu
      obtain ⟨ts', ht, rfl⟩ := Option.map_eq_some_iff.1 hf
      refine step rfl ht (by simp [aggT, hu]) ?_
      intro c e a u v he hc hv
      unfold eq1 at he
      split at he <;> first | (exfalso; simp_all; done) | skip
      · split at he
        · rename_i hk
          cases he
          obtain ⟨rfl, _⟩ := hc.lit_inv
          obtain ⟨rfl, _⟩ := hv.lit_inv
          subst hk
          simp [Op.equalIn, run_underlying hu, int_beq]
        · cases he
    · rename_i hu
      obtain ⟨ts', ht, rfl⟩ := Option.map_eq_some_iff.1 hf
      refine step rfl ht (by simp [aggT, hu]) ?_
      intro c e a u v he hc hv
      unfold eq1 at he
      split at he <;> first | (exfalso; simp_all; done) | skip
      · cases he
        obtain ⟨rfl, _⟩ := hc.lit_inv
        obtain ⟨rfl, _⟩ := hv.lit_inv
        simp [Op.equalIn, run_underlying hu, beq_toListBytes, ba_eq]
    · rename_i hu
      obtain ⟨ts', ht, rfl⟩ := Option.map_eq_some_iff.1 hf
      refine step rfl ht (by simp [aggT, hu]) ?_
      intro c e a u v he hc hv
      unfold eq1 at he
      split at he <;> first | (exfalso; simp_all; done) | skip
      · cases he
        obtain ⟨rfl, _⟩ := hc.lit_inv
        obtain ⟨rfl, _⟩ := hv.lit_inv
        simp [Op.equalIn, run_underlying hu]
        rename_i a b
        cases a <;> cases b <;> rfl
    · cases hf
theorem agg_eq {t : TypeId} {cs ds : List PV} {ts : List Nat} {b : Bool} {u v : Value} (hu : VR w g (.agg cs) u) (hv : VR w g (.agg ds) v) (ht : flatT P t = some ts) (he : eqC ts cs ds = some b) :
    ∃ xs ys, u = .agg xs ∧ v = .agg ys ∧ (Op.equal t u v).run P w = .ok b w ∧ P.eqGuardType P.depth t = false := by
  unfold flatT at ht
  split at ht
  case h_2 => cases ht
  rename_i fs hfs
  split at ht
  case isFalse => cases ht
  rename_i hc
  obtain ⟨c1, c2⟩ := hc
  cases hu with
  | agg _ xs hl1 ho1 hr1 =>
  cases hv with
  | agg _ ys hl2 ho2 hr2 =>
  refine ⟨xs, ys, rfl, rfl, ?_, c2⟩
  have hF : P.fieldsOf t = fs := by simp [Program.fieldsOf, hfs]
  have := run_equalIn_struct (P := P) w 9999 t xs ys (by rw [hF]; exact hfs) c1
  rw [hF] at this
  rw [show (Op.equal t (.agg xs) (.agg ys)) = Op.equalIn (9999 + 1) t (.agg xs) (.agg ys) from rfl, this]
  exact eqC_sound hl1 hr1 hl2 hr2 9998 fs.toList 0 ts b ht (by simpa using he)
theorem eqB_run {op : BinOp} {t : TypeId} {p q : Option Addr} {b : Bool} {r : PV} (hq : ∀ w : World, (Op.equal t (.pointer p) (.pointer q)).run P w = .ok b w) (h : eqB op b = some r) (xo yo : Operand) :
    ∃ u, (do eqGuard op t xo yo (.pointer p) (.pointer q); binOp op t (.pointer p) (.pointer q) : Sem Value).run P w = .ok u w ∧ VR w g r u := by
  unfold eqB at h
  split at h
  · cases h
    exact ⟨_, by simp [eqGuard, binOp, hq], .lit _ rfl⟩
  · cases h
    exact ⟨_, by simp [eqGuard, binOp, hq], .lit _ rfl⟩
  · cases h
theorem ptrT_run {t : TypeId} (h : ptrT P t = true) : ∃ el j, P.underlying t = some (.pointer el) ∧ P.info? el = some j ∧ j.size ≠ 0 := by
  unfold ptrT at h
  split at h
  · rename_i el hu
    split at h
    · rename_i j hj; exact ⟨el, j, hu, hj, by simpa using h⟩
    · cases h
  · cases h
theorem ptr_eq {t : TypeId} (h : ptrT P t = true) (p q : Option Addr) (b : Bool) (hb : (p = none ∧ b = q.isNone) ∨ (q = none ∧ b = p.isNone) ∨ (p = q ∧ b = true)) (w : World) : (Op.equal t (.pointer p) (.pointer q)).run P w = .ok b w := by
  obtain ⟨el, j, hu, hj, hs⟩ := ptrT_run h
  have : ∀ d : Nat, (Op.equalIn (d + 1) t (.pointer p) (.pointer q)).run P w = .ok b w := by
    intro d
    rcases hb with ⟨rfl, rfl⟩ | ⟨rfl, rfl⟩ | ⟨rfl, rfl⟩
    · simp [Op.equalIn, run_underlying hu]
    · cases p <;> simp [Op.equalIn, run_underlying hu]
    · cases p with
      | none => simp [Op.equalIn, run_underlying hu]
      | some a => simp [Op.equalIn, run_underlying hu, Go.sizeOf, typeInfo, hj, hs, sameAddr]
  exact this 9999
theorem bin_sound {op : BinOp} {t : TypeId} {x y r : PV} {u v : Value} (hx : VR w g x u) (hy : VR w g y v) (h : bin P op t x y = some r) (xo yo : Operand) :
    ∃ q, (do eqGuard op t xo yo u v; binOp op t u v : Sem Value).run P w = .ok q w ∧ VR w g r q := by
  unfold bin at h
  split at h
  · obtain ⟨rfl, _⟩ := hx.lit_inv
    obtain ⟨rfl, _⟩ := hy.lit_inv
    split at h
    · rename_i hk
      subst hk
      rename_i k a b
      by_cases hq : op = .quo ∨ op = .rem ∨ op = .shr ∨ op = .shl
      · rcases hq with rfl | rfl | rfl | rfl
        · simp only [intBin] at h
          split at h
          · cases h
          · rename_i hb; cases h; exact ⟨_, by simp [eqGuard, binOp, Op.intDiv, hb], .lit _ rfl⟩
        · simp only [intBin] at h
          split at h
          · cases h
          · rename_i hb; cases h; exact ⟨_, by simp [eqGuard, binOp, Op.intDiv, hb], .lit _ rfl⟩
        · simp only [intBin] at h
          split at h
          · cases h
          · rename_i hb; cases h; exact ⟨_, by simp [eqGuard, binOp, Op.shift, hb], .lit _ rfl⟩
        · simp only [intBin] at h
          split at h
          · cases h
          · rename_i hb; cases h; exact ⟨_, by simp [eqGuard, binOp, Op.shift, hb], .lit _ rfl⟩
      simp only [not_or] at hq
      cases op <;> first | (exfalso; simp_all; done) | skip
      all_goals simp only [intBin, Option.some.injEq, reduceCtorEq] at h <;> subst h <;>
        exact ⟨_, by simp [eqGuard, binOp, Op.intArith, Op.intCmp, int_beq, bne], .lit _ rfl⟩
    · cases h
  · rename_i a b
    obtain ⟨rfl, _⟩ := hx.lit_inv
    obtain ⟨rfl, _⟩ := hy.lit_inv
    cases op <;> simp only [strBin, Option.some.injEq, reduceCtorEq] at h
    case add =>
      split at h
      · cases h
        refine ⟨_, ?_, .lit _ rfl⟩
        have hm : IntKind.i64.max = 9223372036854775807 := by decide
        have : ¬ ((a.size + b.size : Nat) : Int) > IntKind.i64.max := by rw [hm]; omega
        simp only [eqGuard, binOp, Op.stringOp, if_neg this]
        rfl
      · cases h
    all_goals
      subst h
      exact ⟨_, by simp [eqGuard, binOp, Op.stringOp, ba_eq, strLess], .lit _ rfl⟩
  · obtain ⟨rfl, _⟩ := hx.lit_inv
    obtain ⟨rfl, _⟩ := hy.lit_inv
    split at h
    · rename_i hb
      have hr := fun w => isBoolT_run (w := w) hb
      have hq : ∀ (d : Nat) (a b : Bool) (w : World), (Op.equalIn (d + 1) t (.bool a) (.bool b)).run P w = .ok (a == b) w := fun d a b w => by simp [Op.equalIn, hr]
      have hq' : ∀ (a b : Bool) (w : World), (Op.equal t (.bool a) (.bool b)).run P w = .ok (a == b) w := fun a b w => hq 9999 a b w
      cases op <;> simp only [Option.some.injEq, reduceCtorEq] at h <;> subst h <;>
        exact ⟨_, by simp only [eqGuard, binOp, Sem.run_bind]; simp [hq', bne], .lit _ rfl⟩
    · cases h
  · replace h := Option.bind_eq_some_iff.1 h; obtain ⟨ts, ht, h⟩ := h
    replace h := Option.bind_eq_some_iff.1 h; obtain ⟨b, hb, h⟩ := h
    obtain ⟨xs, ys, rfl, rfl, hq, hg⟩ := agg_eq hx hy ht hb
    split at h
    · cases h
      exact ⟨_, by simp [eqGuard, binOp, hg, hq], .lit _ rfl⟩
    · cases h
      exact ⟨_, by simp [eqGuard, binOp, hg, hq], .lit _ rfl⟩
    · cases h
  · split at h
    · rename_i hp
      obtain ⟨rfl, _⟩ := hx.lit_inv
      obtain ⟨rfl, _⟩ := hy.lit_inv
      exact eqB_run (fun w => ptr_eq hp none none true (.inl ⟨rfl, rfl⟩) w) h xo yo
    · cases h
  · split at h
    · rename_i hp
      obtain ⟨_, rfl⟩ := hx.pt_inv
      obtain ⟨rfl, _⟩ := hy.lit_inv
      exact eqB_run (fun w => ptr_eq hp _ none false (.inr (.inl ⟨rfl, rfl⟩)) w) h xo yo
    · cases h
  · split at h
    · rename_i hp
      obtain ⟨_, rfl⟩ := hx.ep_inv
      obtain ⟨rfl, _⟩ := hy.lit_inv
      exact eqB_run (fun w => ptr_eq hp _ none false (.inr (.inl ⟨rfl, rfl⟩)) w) h xo yo
    · cases h
  · split at h
    · rename_i hp
      obtain ⟨rfl, _⟩ := hx.lit_inv
      obtain ⟨_, rfl⟩ := hy.pt_inv
      exact eqB_run (fun w => ptr_eq hp none _ false (.inl ⟨rfl, rfl⟩) w) h xo yo
    · cases h
  · split at h
    · rename_i hp
      obtain ⟨hp, rfl, rfl, rfl⟩ := hp
      obtain ⟨_, rfl⟩ := hx.pt_inv
      obtain ⟨_, rfl⟩ := hy.pt_inv
      exact eqB_run (fun w => ptr_eq hp _ _ true (.inr (.inr ⟨rfl, rfl⟩)) w) h xo yo
    · cases h
  · cases h
theorem un_sound {op : UnOp} {x r : PV} {u : Value} (hx : VR w g x u) (h : un op x = some r) : ∃ q, (Op.unary op u).run P w = .ok q w ∧ VR w g r q := by
  unfold un at h
  split at h
  · obtain ⟨rfl, _⟩ := hx.lit_inv
    cases h
    exact ⟨_, by simp [Op.unary, Op.intArith], .lit _ rfl⟩
  · obtain ⟨rfl, _⟩ := hx.lit_inv
    cases h
    exact ⟨_, by simp [Op.unary], .lit _ rfl⟩
  · cases h
theorem bound_run {d y : Nat} {x : Option Operand} {k : Nat} (hE : ER w g N e a) (h : bound d (x.map e.ev) = some k) (hy : k ≤ y) (code : BoundsCode) :
    (match x.map a.eval with | some v => Instr.sliceBound v y code | none => pure d : Sem Nat).run P w = .ok k w := by
  cases x with
  | none => cases h; rfl
  | some x =>
    have hv := hE.ev x
    simp only [Option.map_some] at h ⊢
    generalize e.ev x = p at h hv
    generalize a.eval x = v at hv
    unfold bound at h
    split at h
    · cases ‹some p = none›
    · rename_i i hp
      cases hp
      obtain ⟨rfl, _⟩ := hv.lit_inv
      split at h
      · rename_i h0
        cases h
        have : (0 : Int) ≤ i ∧ i ≤ (y : Int) := ⟨h0, by omega⟩
        simp [Instr.sliceBound, asIntOf, this]
      · cases h
    · cases h
theorem bounds_run {isS : Bool} {d : Nat} {lo hi : Option Operand} {l h : Nat} (hE : ER w g N e a) (hh : bound d (hi.map e.ev) = some h) (hl : bound 0 (lo.map e.ev) = some l) (h1 : l ≤ h) (cap : Nat) (hcap : h ≤ cap) :
    (Instr.sliceBounds isS d cap (lo.map a.eval) (hi.map a.eval) none).run P w = .ok (l, h, cap) w := by
  have e1 := bound_run (P := P) (y := cap) hE hh hcap (if isS then .sliceAcap else .sliceAlen)
  have e2 := bound_run (P := P) (y := h) hE hl h1 .sliceB
  cases lo with
  | none =>
    cases hi with
    | none => simp only [Option.map_none] at e1 e2 ⊢; cases hl; cases hh; rfl
    | some hi => simp only [Option.map_none, Option.map_some] at e1 e2 ⊢; cases hl; simp [Instr.sliceBounds, e1]
  | some lo =>
    cases hi with
    | none => simp only [Option.map_none, Option.map_some] at e1 e2 ⊢; cases hh; simp [Instr.sliceBounds, e2]
    | some hi => simp only [Option.map_some] at e1 e2 ⊢; simp [Instr.sliceBounds, e1, e2]
theorem all_width {xs : List PV} {n : Nat} (h : xs.all (fun x => x.width == n) = true) {i : Nat} {x : PV} (hi : xs[i]? = some x) : x.width = n := by
  rw [List.all_eq_true] at h
  simpa using h x (List.mem_of_getElem? hi)
theorem slc_sound {t : TypeId} {x r : PV} {u : Value} {lo hi : Option Operand} (hE : ER w g N e a) (hx : VR w g x u) (h : slc P t x (lo.map e.ev) (hi.map e.ev) = some r) :
    ∃ q, (Instr.slice t u (lo.map a.eval) (hi.map a.eval) none).run P w = .ok q w ∧ VR w g r q := by
  unfold slc at h
  split at h
  · obtain ⟨rfl, _⟩ := hx.lit_inv
    split at h
    · rename_i s hs
      replace h := Option.bind_eq_some_iff.1 h; obtain ⟨k, hk, h⟩ := h
      replace h := Option.bind_eq_some_iff.1 h; obtain ⟨l, hl, h⟩ := h
      split at h
      · rename_i hb
        cases h
        exact ⟨_, by simp [Instr.slice, isStrT_run hs, bounds_run (isS := false) hE hk hl hb.1 _ hb.2], .lit _ rfl⟩
      · cases h
    · cases h
  · rename_i k xs
    replace h := Option.bind_eq_some_iff.1 h; obtain ⟨el, he, h⟩ := h
    replace h := Option.bind_eq_some_iff.1 h; obtain ⟨n, hn, h⟩ := h
    replace h := Option.bind_eq_some_iff.1 h; obtain ⟨hh, hk, h⟩ := h
    replace h := Option.bind_eq_some_iff.1 h; obtain ⟨l, hl, h⟩ := h
    split at h
    · rename_i hb
      obtain ⟨b1, b2, b3⟩ := hb
      cases h
      cases hx with
      | vec _ _ A cap sz f hc hkk hnn h0 hs hm hr =>
        refine ⟨_, by simp [Instr.slice, sliceT_run he, bounds_run (isS := true) hE hk hl b1 cap (by omega), run_sizeOf hn]; rfl, ?_⟩
        have hlen : ((xs.take hh).drop l).length = hh - l := by simp; omega
        rw [← hlen]
        have hget : ∀ (i : Nat) (x : PV), ((xs.take hh).drop l)[i]? = some x → xs[l + i]? = some x ∧ l + i < hh := by
          intro i x hi
          rw [List.getElem?_drop, List.getElem?_take] at hi
          split at hi
          · exact ⟨hi, ‹_›⟩
          · cases hi
        refine .vec _ _ _ _ sz (fun i j => f (l + i) j) (by rw [hlen]; omega) ?_ ?_ ?_ (fun i x hi => hs _ x (hget i x hi).1) ?_ (fun i x j c hi hj => hr _ x j c (hget i x hi).1 hj)
        · intro hne
          rw [hlen]
          split at hne
          · have := hkk (by simp); have := (hnn rfl).2; subst this; simp at b2 this; omega
          · rename_i e1
            cases hi with
            | none => cases hk; rw [hkk (by simp)]
            | some _ => cases e1
          · exact absurd rfl hne
        · intro hne
          split at hne
          · obtain ⟨rfl, rfl⟩ := hnn rfl
            exact ⟨by split <;> rfl, by simp⟩
          · cases hne
          · cases hne
        · intro hne
          split at hne
          · rename_i hcl
            omega
          · cases A with
            | none => rw [h0 rfl]; omega
            | some a => cases hne
        · intro i x j c hi hj
          obtain ⟨h1, h2⟩ := hget i x hi
          obtain ⟨ad, rfl, hz, hcell, hone⟩ := hm _ x j c h1 hj
          have hw : sz = n := by rw [← hs _ x h1]; exact all_width b3 h1
          subst hw
          rw [if_neg (by omega)]
          refine ⟨_, rfl, by rw [add_zero_add]; exact hz, ?_, hone⟩
          rw [show (ad.add (l * sz)).add (i * sz + j) = ad.add ((l + i) * sz + j) from ?_]
          · exact hcell
          · rw [Nat.add_mul, Nat.add_assoc]
            unfold Addr.add
            by_cases q0 : l * sz = 0
            · simp [q0]
            · by_cases q1 : i * sz + j = 0
              · simp [q1]
              · have : l * sz + (i * sz + j) ≠ 0 := by omega
                simp only [q0, q1, this, if_false, Nat.add_assoc]
    · cases h
  · rename_i i sz off len
    replace h := Option.bind_eq_some_iff.1 h; obtain ⟨el, he, h⟩ := h
    replace h := Option.bind_eq_some_iff.1 h; obtain ⟨n, hn, h⟩ := h
    replace h := Option.bind_eq_some_iff.1 h; obtain ⟨hh, hk, h⟩ := h
    replace h := Option.bind_eq_some_iff.1 h; obtain ⟨l, hl, h⟩ := h
    split at h
    · rename_i hb
      obtain ⟨rfl, b2, b3⟩ := hb
      cases h
      cases hx with
      | sl _ _ _ _ cap hi hc hz hbd =>
        have hle : l ≤ hh := by omega
        refine ⟨_, by simp [Instr.slice, sliceT_run he, bounds_run (isS := true) hE hk hl hle cap (by omega), run_sizeOf hn]; rfl, ?_⟩
        have : (if cap = l then some (⟨(g.mu i).blk, off * sz, none⟩ : Addr) else some ((⟨(g.mu i).blk, off * sz, none⟩ : Addr).add (l * sz))) = some ⟨(g.mu i).blk, (off + l) * sz, none⟩ := by
          split
          · have : l = 0 := by omega
            subst this; simp
          · rw [add_plain, Nat.add_mul]
        rw [this]
        exact .sl _ _ _ _ _ hi (by omega) hz (by rw [show off + l + (cap - l) = off + cap by omega]; exact hbd)
    · cases h
  · cases h
theorem lenOf_sound {t ty : TypeId} {x : PV} {u : Value} {n : Nat} (hx : VR w g x u) (h : lenOf P t x = some n) : (Builtin.len_ #[t] ty #[u]).run P w = .ok (.int .i64 n) w := by
  unfold lenOf at h
  split at h
  · obtain ⟨rfl, _⟩ := hx.lit_inv
    split at h
    · rename_i hs
      cases h
      simp [Builtin.len_, isStrT_run hs, goInt]
    · cases h
  · cases hs : sliceT P t with
    | none => rw [hs] at h; cases h
    | some el =>
      rw [hs] at h; cases h
      cases hx with
      | vec => simp [Builtin.len_, sliceT_run hs, goInt]
  · cases hs : sliceT P t with
    | none => rw [hs] at h; cases h
    | some el =>
      rw [hs] at h; cases h
      cases hx with
      | sl => simp [Builtin.len_, sliceT_run hs, goInt]
  · cases h
theorem idxAddr_sound {t : TypeId} {x i r : PV} {u v : Value} (hx : VR w g x u) (hi : VR w g i v) (h : idxAddr P t x i = some r) : ∃ q, (Instr.indexAt t u v).run P w = .ok q w ∧ VR w g r q := by
  unfold idxAddr at h
  split at h
  · rename_i k i
    obtain ⟨rfl, _⟩ := hi.lit_inv
    split at h
    · rename_i h0
      obtain ⟨n, rfl⟩ := Int.eq_ofNat_of_zero_le h0
      simp only [Int.toNat_natCast] at h
      split at h
      · rename_i kk xs
        replace h := Option.bind_eq_some_iff.1 h; obtain ⟨el, he, h⟩ := h
        replace h := Option.bind_eq_some_iff.1 h; obtain ⟨m, hm, h⟩ := h
        replace h := Option.bind_eq_some_iff.1 h; obtain ⟨y, hy, h⟩ := h
        split at h
        · rename_i hw
          cases h
          cases hx with
          | vec _ _ A cap sz f hc hk hn hA hs hmm hr =>
            have hl := (List.getElem?_eq_some_iff.1 hy).1
            have hsz : sz = m := by rw [← hs n y hy]; exact hw
            subst hsz
            cases A with
            | none => have := hA rfl; omega
            | some ad =>
              have hlt : (0 : Int) ≤ (n : Int) ∧ (n : Int) < (xs.length : Int) := ⟨h0, by omega⟩
              refine ⟨_, by simp only [Instr.indexAt, asIntOf, Sem.run_bind, Sem.run_pure, Result.andThen_ok, sliceT_run he]; simp [hl, run_sizeOf hm]; rfl, ?_⟩
              refine .ep _ _ (fun j => f n j) (fun j c hj => ?_) (fun j c hj => hr n y j c hy hj)
              obtain ⟨a', ha', hz, hcell, h1⟩ := hmm n y j c hy hj
              cases ha'
              refine ⟨by rw [add_zero_add]; exact hz, ?_, h1⟩
              rw [show (ad.add (n * sz)).add j = ad.add (n * sz + j) from ?_]
              · exact hcell
              · unfold Addr.add
                by_cases q0 : n * sz = 0
                · simp [q0]
                · by_cases q1 : j = 0
                  · simp [q1]
                  · simp [q0, q1, Nat.add_assoc]
        · cases h
      · rename_i b sz off len
        replace h := Option.bind_eq_some_iff.1 h; obtain ⟨el, he, h⟩ := h
        replace h := Option.bind_eq_some_iff.1 h; obtain ⟨m, hm, h⟩ := h
        split at h
        · rename_i hl
          obtain ⟨hl, rfl⟩ := hl
          cases h
          cases hx with
          | sl _ _ _ _ cap hi hc hz hb =>
            refine ⟨_, by simp only [Instr.indexAt, asIntOf, Sem.run_bind, Sem.run_pure, Result.andThen_ok, sliceT_run he]; simp [hl, run_sizeOf hm]; rfl, ?_⟩
            have := VR.pt (w := w) (g := g) b (off + n) 0 hi
            rw [hz] at this
            rw [add_plain, ← Nat.add_mul]
            exact this
        · cases h
      · rename_i b j f
        replace h := Option.bind_eq_some_iff.1 h; obtain ⟨⟨m, el⟩, he, h⟩ := h
        replace h := Option.bind_eq_some_iff.1 h; obtain ⟨z, hz, h⟩ := h
        split at h
        · rename_i hl
          cases h
          obtain ⟨hi, rfl⟩ := hx.pt_inv
          refine ⟨_, by simp only [Instr.indexAt, asIntOf, Instr.sureAddr, Sem.run_bind, Sem.run_pure, Result.andThen_ok, arrT_run he]; simp [hl, run_sizeOf hz]; rfl, ?_⟩
          rw [pt_add]
          exact .pt _ _ _ hi
        · cases h
      · rename_i cs
        replace h := Option.bind_eq_some_iff.1 h; obtain ⟨⟨m, el⟩, he, h⟩ := h
        replace h := Option.bind_eq_some_iff.1 h; obtain ⟨z, hz, h⟩ := h
        split at h
        · rename_i hl
          cases h
          obtain ⟨ad, rfl⟩ := hx.ep_inv
          exact ⟨_, by simp only [Instr.indexAt, asIntOf, Instr.sureAddr, Sem.run_bind, Sem.run_pure, Result.andThen_ok, arrT_run he]; simp [hl, run_sizeOf hz], hx.ep_drop _⟩
        · cases h
      · cases h
    · cases h
  · cases h
theorem part_run {cs : List PV} {vs : Array Value} (hx : VR w g (.agg cs) (.agg vs)) {el : TypeId} {n o : Nat} {ag : Bool} {r : PV} (hn : tsz P el = some n) (ha : aggT P el = some ag) (h : pack ag ((cs.drop o).take n) = some r) :
    ∃ q, (part el vs o).run P w = .ok q w ∧ VR w g r q := by
  cases hx with
  | agg _ _ hl h1 h2 =>
    cases ag with
    | true =>
      cases h
      have hg : ∀ (i : Nat) (v : Value), (vs.extract o (o + n))[i]? = some v → vs[o + i]? = some v ∧ i < n := by
        intro i v hv
        rw [Array.getElem?_extract] at hv
        split at hv
        · exact ⟨hv, by omega⟩
        · cases hv
      refine ⟨.agg (vs.extract o (o + n)), by simp only [part, Sem.run_bind, run_isAgg ha, run_sizeOf hn, Result.andThen_ok, if_true, Sem.run_pure], .agg _ _ (by simp; omega) (fun i v hv => h1 _ v (hg i v hv).1) (fun i c v hc hv => ?_)⟩
      obtain ⟨q1, q2⟩ := hg i v hv
      rw [List.getElem?_take, if_pos q2, List.getElem?_drop] at hc
      exact h2 _ c v hc q1
    | false =>
      obtain ⟨rest, hr⟩ := pack_one h
      have h0 : cs[o]? = some r := by
        have : ((cs.drop o).take n)[0]? = some r := by rw [hr]; rfl
        rw [List.getElem?_take] at this
        split at this
        · rw [List.getElem?_drop] at this; simpa using this
        · cases this
      have hlt := (List.getElem?_eq_some_iff.1 h0).1
      refine ⟨vs[o], ?_, h2 o r _ h0 (Array.getElem?_eq_getElem (by omega))⟩
      simp only [part, Sem.run_bind, run_isAgg ha, Result.andThen_ok, Bool.false_eq_true, if_false, Array.getElem?_eq_getElem (show o < vs.size by omega), Sem.run_pure]
theorem idx_sound {t : TypeId} {x i r : PV} {u v : Value} (hx : VR w g x u) (hi : VR w g i v) (h : idx P t x i = some r) : ∃ q, (Instr.index t u v).run P w = .ok q w ∧ VR w g r q := by
  unfold idx at h
  split at h
  · rename_i k i
    obtain ⟨rfl, _⟩ := hi.lit_inv
    split at h
    · rename_i h0
      obtain ⟨n, rfl⟩ := Int.eq_ofNat_of_zero_le h0
      simp only [Int.toNat_natCast] at h
      split at h
      · obtain ⟨rfl, _⟩ := hx.lit_inv
        rename_i s _
        split at h
        · rename_i hs
          cases hb : s[n]? with
          | none => rw [hb] at h; cases h
          | some b =>
            rw [hb] at h
            cases h
            refine ⟨_, ?_, .lit _ rfl⟩
            simp only [Instr.index, asIntOf, Sem.run_bind, Sem.run_pure, Result.andThen_ok, isStrT_run hs, h0, if_true, Int.toNat_natCast, hb]
        · cases h
      · rename_i cs
        replace h := Option.bind_eq_some_iff.1 h; obtain ⟨⟨m, el⟩, he, h⟩ := h
        replace h := Option.bind_eq_some_iff.1 h; obtain ⟨z, hz, h⟩ := h
        replace h := Option.bind_eq_some_iff.1 h; obtain ⟨ag, ha, h⟩ := h
        split at h
        · rename_i hl
          obtain ⟨vs, rfl, _⟩ := hx.cells_agg
          obtain ⟨q, hq, hv⟩ := part_run hx hz ha h
          refine ⟨q, ?_, hv⟩
          simp only [Instr.index, asIntOf, Sem.run_bind, Sem.run_pure, Result.andThen_ok, arrT_run he, Int.toNat_natCast, run_sizeOf hz]
          rw [if_pos ⟨h0, by omega⟩]
          simp only [Sem.run_bind, run_sizeOf hz, Result.andThen_ok, hq]
        · cases h
      · cases h
    · cases h
  · cases h
theorem args_map (hE : ER w g N e a) (xs : Array Operand) : (xs.map a.eval).size = (xs.toList.map e.ev).length ∧ ∀ (i : Nat) (c : PV) (v : Value), (xs.toList.map e.ev)[i]? = some c → (xs.map a.eval)[i]? = some v → VR w g c v := by
  refine ⟨by simp, fun i c v hc hv => ?_⟩
  rw [List.getElem?_map, Array.getElem?_toList] at hc
  rw [Array.getElem?_map] at hv
  cases hx : xs[i]? with
  | none => rw [hx] at hc; cases hc
  | some x =>
    rw [hx] at hc hv
    cases hc
    cases hv
    exact hE.ev x
theorem qcall_sound (hE : ER w g N e a) (dst : Option Tmp) (ty : TypeId) (pos : String) (after : Array Edge) (guard : Option (Nat × Bool)) (c : Call) {r : PV} (h : qcall P e c = some r) :
    ∃ u, (execOp a.eval ⟨dst, .call c, ty, pos, after, guard⟩).run P w = .ok (.value u) w ∧ VR w g r u := by
  obtain ⟨cal, ⟨args⟩, ⟨ats⟩⟩ := c
  unfold qcall at h
  split at h
  · rename_i hc
    simp only at hc h
    subst hc
    split at h
    · rename_i x t
      cases hl : lenOf P t (e.ev x) with
      | none => rw [hl] at h; cases h
      | some n =>
        rw [hl] at h
        cases h
        refine ⟨_, ?_, .lit _ rfl⟩
        have := lenOf_sound (P := P) (ty := ty) (hE.ev x) hl
        simp only [execOp, resolve, invoke, builtin, Sem.run_bind, Sem.run_pure, Result.andThen_ok, List.map_toArray, List.map_cons, List.map_nil, this]
    · cases h
  · rename_i hc
    simp only at hc h
    subst hc
    split at h
    · rename_i x y
      have hx := hE.ev x
      have hy := hE.ev y
      generalize e.ev x = p at h hx
      generalize e.ev y = q at h hy
      split at h
      · split at h
        · rename_i k i k' j hk
          subst hk
          cases h
          obtain ⟨hu, _⟩ := hx.lit_inv
          obtain ⟨hv, _⟩ := hy.lit_inv
          refine ⟨_, ?_, .lit _ rfl⟩
          have : max i j = if j > i then j else i := by omega
          rw [this]
          simp only [execOp, resolve, invoke, builtin, Sem.run_bind, Sem.run_pure, Result.andThen_ok, List.map_toArray, List.map_cons, List.map_nil, hu, hv, Builtin.max_, List.foldlM, Builtin.max2]
        · cases h
      · cases h
    · cases h
  · rename_i hc
    simp only at hc h
    subst hc
    split at h
    · rename_i x y
      have hx := hE.ev x
      have hy := hE.ev y
      generalize e.ev x = p at h hx
      generalize e.ev y = q at h hy
      split at h
      · split at h
        · rename_i k i k' j hk
          subst hk
          cases h
          obtain ⟨hu, _⟩ := hx.lit_inv
          obtain ⟨hv, _⟩ := hy.lit_inv
          refine ⟨_, ?_, .lit _ rfl⟩
          have : min i j = if j < i then j else i := by omega
          rw [this]
          simp only [execOp, resolve, invoke, builtin, Sem.run_bind, Sem.run_pure, Result.andThen_ok, List.map_toArray, List.map_cons, List.map_nil, hu, hv, Builtin.min_, List.foldlM, Builtin.min2]
        · cases h
      · cases h
    · cases h
  · rename_i hc
    simp only at hc h
    subst hc
    split at h
    · rename_i x t
      have hx := hE.ev x
      generalize e.ev x = p at h hx
      split at h
      · rename_i k xs
        split at h
        · cases h
        · rename_i hk
          cases ht : sliceT P t with
          | none => rw [ht] at h; cases h
          | some el =>
            rw [ht] at h
            cases h
            generalize hv : a.eval x = v at hx
            cases hx with
            | vec _ _ A cap sz f hc hk' hn h0 hs hm hr =>
              have hcap := hk' hk
              subst hcap
              refine ⟨.int .i64 xs.length, ?_, .lit _ rfl⟩
              simp only [execOp, resolve, invoke, builtin, Sem.run_bind, Sem.run_pure, Result.andThen_ok, List.map_toArray, List.map_cons, List.map_nil, hv, Builtin.cap_, List.getElem?_toArray, List.getElem?_cons_zero, sliceT_run ht]
              rfl
      · cases h
    · cases h
  · rename_i hc
    simp only at hc h
    subst hc
    split at h
    · rename_i x
      have hx := hE.ev x
      generalize e.ev x = p at h hx
      split at h
      · rename_i i sz off len
        split at h
        · cases h
        · rename_i hl
          cases h
          generalize hv : a.eval x = v at hx
          cases hx with
          | sl _ _ _ _ cap hi hc hz hb =>
            refine ⟨.pointer (some ⟨(g.mu i).blk, off * sz, none⟩), ?_, ?_⟩
            · have hc0 : cap ≠ 0 := by omega
              simp only [execOp, resolve, invoke, builtin, Sem.run_bind, Sem.run_pure, Result.andThen_ok, List.map_toArray, List.map_cons, List.map_nil, hv, Lib.run_unsafeSliceData_row w _ _ _ _ _ hc0]
            · have := VR.pt (w := w) (g := g) i off 0 hi
              rw [hz] at this
              simpa using this
      · rename_i xs
        cases h
        generalize hv : a.eval x = v at hx
        cases hx with
        | vec _ _ A cap sz f hc hk' hn h0 hs hm hr =>
          obtain ⟨rfl, _⟩ := hn rfl
          refine ⟨.pointer none, ?_, .lit _ rfl⟩
          simp only [execOp, resolve, invoke, builtin, Sem.run_bind, Sem.run_pure, Result.andThen_ok, List.map_toArray, List.map_cons, List.map_nil, hv, Lib.run_unsafeSliceData_nil w]
      · cases h
    · cases h
  · cases h
theorem slc_at {t : TypeId} {x r : PV} {lo hi : Option PV} (h : slc P t x lo hi = some r) (v : Value) (l k m : Option Value) : (Instr.sliceAt t v l k m).run P w = (Instr.slice t v l k m).run P w := by
  have hs : (∃ el, (underlying t).run P w = .ok (.slice el) w) ∨ (underlying t).run P w = .ok .string w := by
    unfold slc at h
    split at h
    · split at h
      · exact .inr (isStrT_run ‹_›)
      · cases h
    · replace h := Option.bind_eq_some_iff.1 h; obtain ⟨el, he, h⟩ := h
      exact .inl ⟨el, sliceT_run he⟩
    · replace h := Option.bind_eq_some_iff.1 h; obtain ⟨el, he, h⟩ := h
      exact .inl ⟨el, sliceT_run he⟩
    · cases h
  rcases hs with ⟨el, hs⟩ | hs
  · simp only [Instr.sliceAt, Sem.run_bind, hs, Result.andThen_ok]
  · simp only [Instr.sliceAt, Sem.run_bind, hs, Result.andThen_ok]
/-! ### Maps -/
theorem mapT_run {t kt el : TypeId} (h : mapT P t = some (kt, el)) : P.underlying t = some (.map kt el) ∧ P.underlying kt = some .string := by
  unfold mapT at h
  split at h
  · rename_i k e hu
    split at h
    · rename_i hk; cases h; exact ⟨hu, hk⟩
    · cases h
  · cases h
theorem bb_eq (a b : ByteArray) : (a == b) = decide (a = b) := by rw [beq_toListBytes, ba_eq]
/-- A map's entries and what they read as. -/
def DR (w : World) (g : G) (l : List MapEntry) (es : List (ByteArray × PV)) : Prop := l.length = es.length ∧ ∀ (j : Nat) (k : ByteArray) (p : PV) (m : MapEntry), es[j]? = some (k, p) → l[j]? = some m → m.key = .string k ∧ VR w g p m.val
theorem DR.cons {l : List MapEntry} {es : List (ByteArray × PV)} {m : MapEntry} {k : ByteArray} {p : PV} (h : DR w g (m :: l) ((k, p) :: es)) : m.key = .string k ∧ VR w g p m.val ∧ DR w g l es :=
  ⟨(h.2 0 k p m rfl rfl).1, (h.2 0 k p m rfl rfl).2, by simpa using h.1, fun j k' p' m' hj hm => h.2 (j + 1) k' p' m' hj hm⟩
theorem find_rel (b : ByteArray) : ∀ (l : List MapEntry) (es : List (ByteArray × PV)) (i : Nat), DR w g l es →
    (dget es b = none ∧ Instr.findNow .string (.string b) l i = some none ∧ ∀ v, dset es b v = es ++ [(b, v)]) ∨
    (∃ p n m, dget es b = some p ∧ l[n]? = some m ∧ Instr.findNow .string (.string b) l i = some (some (i + n, m.val)) ∧ VR w g p m.val ∧ m.key = .string b ∧ ∀ v, dset es b v = es.set n (b, v))
  | [], [], i, _ => .inl ⟨rfl, rfl, fun _ => rfl⟩
  | [], _ :: _, i, h => by have := h.1; simp at this
  | _ :: _, [], i, h => by have := h.1; simp at this
  | m :: l, (k, p) :: es, i, h => by
    obtain ⟨hk, hv, h⟩ := h.cons
    by_cases hb : b = k
    · subst hb
      refine .inr ⟨p, 0, m, by simp [dget], rfl, ?_, hv, hk, fun v => by simp [dset]⟩
      simp [Instr.findNow, hk, Instr.sameNow, bb_eq]
    · have hs : Instr.findNow .string (.string b) (m :: l) i = Instr.findNow .string (.string b) l (i + 1) := by simp [Instr.findNow, hk, Instr.sameNow, bb_eq, hb]
      rcases find_rel b l es (i + 1) h with ⟨h1, h2, h3⟩ | ⟨p', n, m', h1, h2, h3, h4, h5, h6⟩
      · exact .inl ⟨by simp [dget, hb, h1], by rw [hs, h2], fun v => by simp [dset, hb, h3]⟩
      · exact .inr ⟨p', n + 1, m', by simp [dget, hb, h1], h2, by rw [hs, h3]; congr 3; omega, h4, h5, fun v => by simp [dset, hb, h6]⟩
theorem checkKey_run {kt : TypeId} (h : P.underlying kt = some .string) (em : Bool) (n : Nat) (b : ByteArray) : (Instr.checkKey em (n + 1) kt (.string b)).run P w = .ok () w := by
  simp [Instr.checkKey, run_underlying h]
theorem findKey_run {kt : TypeId} (h : P.underlying kt = some .string) {b : ByteArray} {l : List MapEntry} {r : Option (Nat × Value)} (hf : Instr.findNow .string (.string b) l 0 = some r) : (Instr.findKey kt (.string b) l).run P w = .ok r w := by
  simp [Instr.findKey, run_underlying h, hf]
theorem look_with {t : TypeId} {ents : Array MapEntry} {es : List (ByteArray × PV)} {b : ByteArray} {c : Bool} {r : PV} (hr : DR w g ents.toList es) (h : lookR P t es b c = some r) (x : Value)
    (hx : x = .map none ∧ ents = #[] ∨ ∃ k clock, x = .map (some k) ∧ w.heap[k]? = some (.map ents clock)) : ∃ u, (Instr.lookup t x (.string b) c).run P w = .ok u w ∧ VR w g r u := by
  unfold lookR at h
  replace h := Option.bind_eq_some_iff.1 h; obtain ⟨⟨kt, el⟩, ht, h⟩ := h
  replace h := Option.bind_eq_some_iff.1 h; obtain ⟨z, hz, h⟩ := h
  obtain ⟨hu, hk⟩ := mapT_run ht
  have hck : ∀ em, (Instr.checkKey em 10000 kt (.string b)).run P w = .ok () w := fun em => checkKey_run hk em 9999 b
  have hz' := run_zeroValue (w := w) hz
  rcases find_rel b ents.toList es 0 hr with ⟨h1, h2, _⟩ | ⟨p, n, m, h1, h2, h3, h4, _⟩
  · rw [h1] at h
    have hf := findKey_run (w := w) hk h2
    cases c with
    | true =>
      cases h
      refine ⟨.tuple #[z, .bool false], ?_, .tup _ _ rfl (fun i q v hq hv => ?_)⟩
      · unfold Instr.lookup
        simp only [Sem.run_bind, run_underlying hu, Result.andThen_ok]
        rcases hx with ⟨rfl, rfl⟩ | ⟨kb, clock, rfl, hb⟩
        · simp [hck, hf, hz']
        · simp [getObj, Sem.run, hb, hck, hf, hz']
      · match i with
        | 0 => cases hq; cases hv; exact VR.ofVal w g z
        | 1 => cases hq; cases hv; exact .lit _ rfl
        | i + 2 => simp at hq
    | false =>
      cases h
      refine ⟨z, ?_, VR.ofVal w g z⟩
      unfold Instr.lookup
      simp only [Sem.run_bind, run_underlying hu, Result.andThen_ok]
      rcases hx with ⟨rfl, rfl⟩ | ⟨kb, clock, rfl, hb⟩
      · simp [hck, hf, hz']
      · simp [getObj, Sem.run, hb, hck, hf, hz']
  · rw [h1] at h
    have hf := findKey_run (w := w) hk h3
    cases c with
    | true =>
      cases h
      refine ⟨.tuple #[m.val, .bool true], ?_, .tup _ _ rfl (fun i q v hq hv => ?_)⟩
      · unfold Instr.lookup
        simp only [Sem.run_bind, run_underlying hu, Result.andThen_ok]
        rcases hx with ⟨rfl, rfl⟩ | ⟨kb, clock, rfl, hb⟩
        · simp at h2
        · simp [getObj, Sem.run, hb, hck, hf]
      · match i with
        | 0 => cases hq; cases hv; exact h4
        | 1 => cases hq; cases hv; exact .lit _ rfl
        | i + 2 => simp at hq
    | false =>
      cases h
      refine ⟨m.val, ?_, h4⟩
      unfold Instr.lookup
      simp only [Sem.run_bind, run_underlying hu, Result.andThen_ok]
      rcases hx with ⟨rfl, rfl⟩ | ⟨kb, clock, rfl, hb⟩
      · simp at h2
      · simp [getObj, Sem.run, hb, hck, hf]
theorem look_sound (hH : Holds g s w) {t : TypeId} {x k r : PV} {u v : Value} {c : Bool} (hx : VR w g x u) (hk : VR w g k v) (h : lookV P s t x k c = some r) : ∃ q, (Instr.lookup t u v c).run P w = .ok q w ∧ VR w g r q := by
  unfold lookV at h
  split at h
  · rename_i i b
    split at h
    · rename_i es hs
      obtain ⟨rfl, _⟩ := hk.lit_inv
      cases hx with
      | mp _ hi =>
        cases hH.blk i _ hs with
        | dict _ ents clock hb hl hd =>
          exact look_with (ents := ents) ⟨by simpa using hl, fun j k p m hj hm => hd j k p m hj (by simpa using hm)⟩ h _ (.inr ⟨_, clock, rfl, hb⟩)
    · cases h
  · rename_i b
    obtain ⟨rfl, _⟩ := hx.lit_inv
    obtain ⟨rfl, _⟩ := hk.lit_inv
    exact look_with (ents := #[]) ⟨rfl, fun j k p m hj => by simp at hj⟩ h _ (.inl ⟨rfl, rfl⟩)
  · cases h
theorem qop_sound (hH : Holds g s w) (hE : ER w g N e a) (o : Oper) {r : PV} (h : qop P e s o.op = some r) : ∃ u, (execOp a.eval o).run P w = .ok (.value u) w ∧ VR w g r u := by
  obtain ⟨dst, op, ty, pos, after, guard⟩ := o
  simp only at h
  unfold qop at h
  split at h
  · cases h; exact ⟨_, rfl, hE.ev _⟩
  · cases h; exact ⟨_, rfl, hE.ev _⟩
  · rename_i t x
    replace h := Option.bind_eq_some_iff.1 h; obtain ⟨n, hn, h⟩ := h
    replace h := Option.bind_eq_some_iff.1 h; obtain ⟨ag, ha, h⟩ := h
    replace h := Option.bind_eq_some_iff.1 h; obtain ⟨cs, hc, h⟩ := h
    obtain ⟨u, hu, hv⟩ := run_load_pv hH (hE.ev x) hn ha hc h
    exact ⟨u, by simp only [execOp, Sem.run_bind, hu, Result.andThen_ok, Sem.run_pure], hv⟩
  · rename_i x
    have hx := hE.ev x
    generalize hp : e.ev x = p at h hx
    split at h
    · cases h
      obtain ⟨_, hu⟩ := hx.pt_inv
      exact ⟨_, by simp only [execOp, hu]; rfl, by rw [hu] at hx; exact hx⟩
    · cases h
      obtain ⟨ad, hu⟩ := hx.ep_inv
      exact ⟨_, by simp only [execOp, hu]; rfl, by rw [hu] at hx; exact hx⟩
    · cases h
      generalize hu : a.eval x = u at hx
      cases hx with
      | fn _ _ _ fv cv h1 h2 h3 h4 => exact ⟨_, by simp only [execOp, hu]; rfl, .fn _ _ _ fv cv h1 h2 h3 h4⟩
    · cases h
  · rename_i op t x y _
    obtain ⟨q, hq, hv⟩ := bin_sound (P := P) (hE.ev x) (hE.ev y) h x y
    exact ⟨q, by simp only [execOp, Sem.run_bind, Sem.run_pure] at hq ⊢; rw [hq]; rfl, hv⟩
  · rename_i op _ x
    obtain ⟨q, hq, hv⟩ := un_sound (P := P) (hE.ev x) h
    exact ⟨q, by simp only [execOp, Sem.run_bind, hq, Result.andThen_ok, Sem.run_pure], hv⟩
  · rename_i src dst' x
    have hx := hE.ev x
    generalize e.ev x = p at h hx
    split at h
    · replace h := Option.bind_eq_some_iff.1 h; obtain ⟨d, hd, h⟩ := h
      cases hk : intT P dst' with
      | none => rw [hk] at h; cases h
      | some k =>
        rw [hk] at h
        cases h
        obtain ⟨hu, _⟩ := hx.lit_inv
        exact ⟨_, by simp only [execOp, Sem.run_bind, convert, run_underlying hd, intT_run hk, Result.andThen_ok, hu]; rfl, .lit _ rfl⟩
    · rename_i b
      replace h := Option.bind_eq_some_iff.1 h; obtain ⟨d, hd, h⟩ := h
      split at h
      · rename_i hs
        cases h
        obtain ⟨hu, _⟩ := hx.lit_inv
        exact ⟨.string b, by simp only [execOp, Sem.run_bind, convert, run_underlying hd, isStrT_run hs, Result.andThen_ok, hu]; cases d <;> rfl, .lit _ rfl⟩
      · cases h
    · cases h
  · rename_i t x k c
    obtain ⟨q, hq, hv⟩ := look_sound (P := P) hH (hE.ev x) (hE.ev k) h
    exact ⟨q, by simp only [execOp, Sem.run_bind, hq, Result.andThen_ok, Sem.run_pure], hv⟩
  · rename_i f fs cs
    cases h
    obtain ⟨h1, h3⟩ := args_map hE fs
    obtain ⟨h2, h4⟩ := args_map hE cs
    exact ⟨_, rfl, .fn _ _ _ _ _ h1 h2 h3 h4⟩
  · rename_i t x lo hi
    obtain ⟨q, hq, hv⟩ := slc_sound (P := P) hE (hE.ev x) h
    exact ⟨q, by simp only [execOp, Sem.run_bind, Option.map_none, slc_at h, hq, Result.andThen_ok, Sem.run_pure], hv⟩
  · rename_i t x hi mx
    replace h := Option.bind_eq_some_iff.1 h; obtain ⟨el, hel, h⟩ := h
    replace h := Option.bind_eq_some_iff.1 h; obtain ⟨n, hn, h⟩ := h
    have hx := hE.ev x
    have h1 := hE.ev hi
    have h2 := hE.ev mx
    generalize e.ev x = px at h hx
    generalize e.ev hi = ph at h h1
    generalize e.ev mx = pm at h h2
    split at h
    · split at h
      · rename_i hz
        obtain ⟨rfl, rfl⟩ := hz
        cases h
        obtain ⟨hv1, _⟩ := h1.lit_inv
        obtain ⟨hv2, _⟩ := h2.lit_inv
        generalize hvx : a.eval x = vx at hx
        cases hx with
        | vec k xs A cap sz f hc hk hnn h0 hs hm hr =>
          refine ⟨.slice A 0 0, ?_, .vec .tight [] A 0 0 (fun _ _ => undef) (Nat.le_refl _) (fun _ => rfl) (fun h => by cases h) (fun _ => rfl) (by simp) (by simp) (by simp)⟩
          simp only [execOp, Sem.run_bind, Option.map_none, Option.map_some, Instr.sliceAt, sliceT_run hel, Result.andThen_ok, hvx, Instr.slice, hv1, hv2, Instr.sliceBounds, Instr.sliceBound, asIntOf, Sem.run_pure, run_sizeOf hn]
          simp
      · cases h
    · cases h
  · rename_i t x f
    replace h := Option.bind_eq_some_iff.1 h; obtain ⟨⟨o, ft⟩, hf, h⟩ := h
    replace h := Option.bind_eq_some_iff.1 h; obtain ⟨n, hn, h⟩ := h
    split at h
    · cases h
    · rename_i hn0
      obtain ⟨fs, fd, hu, hfd, ho, hft⟩ := fld_run (w := w) hf
      subst ho hft
      have hx := hE.ev x
      have hrun : ∀ ad, a.eval x = .pointer (some ad) → (execOp a.eval ⟨dst, .fieldAddr t x f, ty, pos, after, guard⟩).run P w = .ok (.value (.pointer (some (ad.add fd.offset)))) w := by
        intro ad had
        simp only [execOp, Sem.run_bind, Instr.fieldAt, hu, Result.andThen_ok, hfd, had, Instr.sureAddr, Sem.run_pure, fieldPlace, run_sizeOf hn, hn0, if_false]
      generalize e.ev x = p at h hx
      split at h
      · cases h
        obtain ⟨hi, hp⟩ := hx.pt_inv
        exact ⟨_, hrun _ hp, by rw [pt_add]; exact .pt _ _ _ hi⟩
      · cases h
        obtain ⟨ad, hp⟩ := hx.ep_inv
        rw [hp] at hx
        exact ⟨_, hrun _ hp, hx.ep_drop _⟩
      · cases h
  · rename_i t x f
    replace h := Option.bind_eq_some_iff.1 h; obtain ⟨⟨o, ft⟩, hf, h⟩ := h
    replace h := Option.bind_eq_some_iff.1 h; obtain ⟨n, hn, h⟩ := h
    replace h := Option.bind_eq_some_iff.1 h; obtain ⟨ag, ha, h⟩ := h
    obtain ⟨fs, fd, hu, hfd, ho, hft⟩ := fld_run (w := w) hf
    subst ho hft
    have hx := hE.ev x
    generalize e.ev x = p at h hx
    split at h
    · generalize hv : a.eval x = v at hx
      obtain ⟨vs, rfl, _⟩ := hx.cells_agg
      obtain ⟨q, hq, hr⟩ := part_run hx hn ha h
      exact ⟨q, by simp only [execOp, Sem.run_bind, Instr.field, hu, Result.andThen_ok, hfd, hv, asAgg, Sem.run_pure, hq], hr⟩
    · cases h
  · rename_i t x i
    obtain ⟨q, hq, hv⟩ := idxAddr_sound (P := P) (hE.ev x) (hE.ev i) h
    exact ⟨q, by simp only [execOp, Sem.run_bind, hq, Result.andThen_ok, Sem.run_pure], hv⟩
  · rename_i t x i
    obtain ⟨q, hq, hv⟩ := idx_sound (P := P) (hE.ev x) (hE.ev i) h
    exact ⟨q, by simp only [execOp, Sem.run_bind, hq, Result.andThen_ok, Sem.run_pure], hv⟩
  · rename_i x k
    have hx := hE.ev x
    generalize e.ev x = p at h hx
    split at h
    · rename_i vs
      generalize hv : a.eval x = v at hx
      cases hx with
      | tup _ us hl h2 =>
        have hlt := (List.getElem?_eq_some_iff.1 h).1
        refine ⟨us[k], ?_, h2 k r _ h (Array.getElem?_eq_getElem (by omega))⟩
        simp only [execOp, Sem.run_bind, Instr.extract, hv, Array.getElem?_eq_getElem (show k < us.size by omega), Sem.run_pure, Result.andThen_ok]
    · cases h
  · rename_i c
    obtain ⟨q, hq, hv⟩ := qcall_sound (P := P) hE dst ty pos after guard c h
    exact ⟨q, hq, hv⟩
  · cases h
end
end Go.Pv
