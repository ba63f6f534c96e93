/- Several texts, one behind the other. -/
import Derived.Test.YtkdimfmnialabaaDoorKA
import Derived.Orders
/- A logic over plain values: regions that draw their order. -/
namespace Go.Pv
set_option linter.unusedVariables false
set_option linter.unusedSimpArgs false
/-! ### What an operation looks at -/
theorem ev_put {e : Env} {d : Option Tmp} {v : PV} {x : Operand} (h : ∀ t, d = some t → x ≠ .tmp t) : (e.put d v).ev x = e.ev x := by
  cases x with
  | tmp t =>
    cases d with
    | none => rfl
    | some d => simp only [Env.ev, Env.put]; rw [if_neg (fun e => h d rfl (by rw [e]))]
  | _ => rfl
theorem put_comm {e : Env} {d d' : Option Tmp} (v u : PV) (h : ∀ t, d = some t → d' ≠ some t) : (e.put d v).put d' u = (e.put d' u).put d v := by
  cases d with
  | none => rfl
  | some d =>
    cases d' with
    | none => rfl
    | some d' =>
      have hne : d' ≠ d := fun e => h d rfl (by rw [e])
      funext t
      simp only [Env.put]
      split <;> split <;> first | rfl | (subst_vars; exact absurd rfl hne) | (rename_i h1 h2; exact absurd (h2.symm.trans h1) (Ne.symm hne))
section
variable {P : Program} {s : St} {e e' : Env}
theorem map_ev {xs : List Operand} (h : ∀ x ∈ xs, e.ev x = e'.ev x) : xs.map e.ev = xs.map e'.ev := List.map_congr_left h
theorem parts_ev {ps : List (Nat × Operand)} (h : ∀ x ∈ ps.map (·.2), e.ev x = e'.ev x) : (ps.map fun p => (p.1, e.ev p.2)) = ps.map fun p => (p.1, e'.ev p.2) :=
  List.map_congr_left fun p hp => by rw [h p.2 (List.mem_map.2 ⟨p, hp, rfl⟩)]
theorem qcall_congr {c : Call} (h : ∀ x ∈ c.operands, e.ev x = e'.ev x) : qcall P e c = qcall P e' c := by
  have ha : ∀ x ∈ c.args.toList, e.ev x = e'.ev x := fun x hx => h x (by simp [Call.operands, Array.mem_toList_iff.1 hx])
  unfold qcall
  split
  · split
    · rename_i x t h1 h2; rw [ha x (by rw [h1]; simp)]
    · rfl
  · split
    · rename_i x y h1; rw [ha x (by rw [h1]; simp), ha y (by rw [h1]; simp)]
    · rfl
  · split
    · rename_i x y h1; rw [ha x (by rw [h1]; simp), ha y (by rw [h1]; simp)]
    · rfl
  · split
    · rename_i x t h1 h2; rw [ha x (by rw [h1]; simp)]
    · rfl
  · split
    · rename_i x h1; rw [ha x (by rw [h1]; simp)]
    · rfl
  · rfl
theorem qop_congr {op : Go.Op} (h : ∀ x ∈ op.operands, e.ev x = e'.ev x) : qop P e s op = qop P e' s op := by
  cases op <;> simp only [Go.Op.operands] at h <;> simp only [qop]
  case call c => exact qcall_congr h
  case makeFunc fn a b =>
    cases fn <;> simp only []
    rw [map_ev (xs := a.toList) fun x hx => h x (by simp [Array.mem_toList_iff.1 hx]), map_ev (xs := b.toList) fun x hx => h x (by simp [Array.mem_toList_iff.1 hx])]
  case slice t x lo hi mx =>
    cases mx with
    | some m =>
      have e1 : e.ev x = e'.ev x := h x (by simp)
      have e2 : e.ev m = e'.ev m := h m (by simp)
      cases lo with
      | some _ => rfl
      | none =>
        cases hi with
        | none => rfl
        | some hh =>
          have e3 : e.ev hh = e'.ev hh := h hh (by simp)
          simp only [e1, e2, e3]
    | none =>
      have e1 : e.ev x = e'.ev x := h x (by simp)
      have e2 : lo.map e.ev = lo.map e'.ev := by cases lo <;> simp_all
      have e3 : hi.map e.ev = hi.map e'.ev := by cases hi <;> simp_all
      simp only [e1, e2, e3]
  all_goals (first | rfl | (simp_all; done))
theorem opw_congr {op : Go.Op} {K : PV → St → Prop} {Kp : List PanicEntry → St → Prop} (h : ∀ x ∈ op.operands, e.ev x = e'.ev x) : opw P e s K Kp op = opw P e' s K Kp op := by
  cases op
  case call c =>
    have ha : ∀ x ∈ c.args.toList, e.ev x = e'.ev x := fun x hx => h x (by simp [Go.Op.operands, Call.operands, Array.mem_toList_iff.1 hx])
    have hq := qcall_congr (P := P) (c := c) (e := e) (e' := e') h
    simp only [opw]
    split
    · split
      · rename_i x y t t2 h1 h2; rw [ha x (by rw [h1]; simp), ha y (by rw [h1]; simp)]
      · rfl
    · split
      · rename_i x y t t2 h1 h2; rw [ha x (by rw [h1]; simp), ha y (by rw [h1]; simp)]
      · rfl
    · split
      · rename_i x y t t2 h1 h2; rw [ha x (by rw [h1]; simp), ha y (by rw [h1]; simp)]
      · rfl
    · rename_i f hf
      rw [map_ev ha, h f (by simp [Go.Op.operands, Call.operands, hf])]
    · rw [hq]
  case build t ps =>
    simp only [opw, bld]
    rw [parts_ev (ps := ps.toList) fun x hx => h x (by simpa [Go.Op.operands] using hx)]
  case buildSlice t len ps =>
    simp only [opw, mkSlice]
    have : (ps.toList.map fun p => e.ev p.2) = ps.toList.map fun p => e'.ev p.2 := List.map_congr_left fun p hp => h p.2 (by simp only [Go.Op.operands]; exact List.mem_toArray.2 (List.mem_map.2 ⟨p, hp, rfl⟩))
    rw [this]
  case alloc t => rfl
  case box t x => simp only [opw]; rw [h x (by simp [Go.Op.operands])]
  case store t p x => simp only [opw]; rw [h x (by simp [Go.Op.operands]), h p (by simp [Go.Op.operands])]
  case pick c x y => simp only [opw]; rw [h c (by simp [Go.Op.operands]), h x (by simp [Go.Op.operands]), h y (by simp [Go.Op.operands])]
  case binOp op t x y t2 => simp only [opw]; rw [h x (by simp [Go.Op.operands]), h y (by simp [Go.Op.operands])]
  case mapUpdate t m k v => simp only [opw]; rw [h m (by simp [Go.Op.operands]), h k (by simp [Go.Op.operands]), h v (by simp [Go.Op.operands])]
  case insert t m k v => simp only [opw]; rw [h m (by simp [Go.Op.operands]), h k (by simp [Go.Op.operands]), h v (by simp [Go.Op.operands])]
  case makeMap t r => cases r <;> first | rfl | (simp only [opw]; rw [qop_congr h])
  case convert src dst x => simp only [opw]; rw [h x (by simp [Go.Op.operands]), qop_congr h]
  all_goals (simp only [opw]; rw [qop_congr h])
theorem okv_mono {α : Type} {x : Option α} {K K' : α → Prop} (h : okv x K) (hK : ∀ v, K v → K' v) : okv x K' := by
  obtain ⟨v, h1, h2⟩ := okv_ex h
  exact ex_okv h1 (hK v h2)
theorem mapW_mono {t : TypeId} {m k v : PV} {K K' : St → Prop} (hK : ∀ s, K s → K' s) (h : mapW P s t m k v K) : mapW P s t m k v K' := by
  unfold mapW at h ⊢
  split at h
  · split at h
    · exact ⟨h.1, hK _ h.2⟩
    · exact h
  · split at h
    · exact ⟨h.1, h.2.1, hK _ h.2.2⟩
    · exact h
  · exact h
theorem opw_mono {op : Go.Op} {K K' : PV → St → Prop} {Kp Kp' : List PanicEntry → St → Prop} (hK : ∀ v s, K v s → K' v s) (hKp : ∀ c s, Kp c s → Kp' c s) (h : opw P e s K Kp op) : opw P e s K' Kp' op := by
  have hq : (okv (qop P e s op) fun v => K v s) → okv (qop P e s op) fun v => K' v s := fun h => okv_mono h fun v => hK _ _
  cases op
  case call c =>
    simp only [opw] at h ⊢
    split at h
    · split at h
      · obtain ⟨el, n, b, z, q1, q2, q3, q4, q5, q6, q7, ys, q8, q9, q10⟩ := appW_iff.1 h
        refine appW_iff.2 ⟨el, n, b, z, q1, q2, q3, q4, q5, q6, q7, ys, q8, fun hy => ⟨(q9 hy).1, hK _ _ (q9 hy).2⟩, fun hy => ?_⟩
        have q := q10 hy
        split at q
        · obtain ⟨xe, r1, r2, r3, r4⟩ := q
          exact ⟨xe, r1, r2, r3, fun i hi => hK _ _ (r4 i hi)⟩
        · obtain ⟨els, r1, r2, r3, r4, r5, r6⟩ := q
          exact ⟨els, r1, r2, r3, r4, r5, fun i hi => hK _ _ (r6 i hi)⟩
        · exact q.elim
      · exact h.elim
    · split at h
      · unfold ustrW at h ⊢
        split at h
        · split at h
          · obtain ⟨h1, h2, h3, h4, h5, h6, h7⟩ := h
            exact ⟨h1, h2, h3, h4, h5, h6, okv_mono h7 fun v => hK _ _⟩
          · exact h
        · exact ⟨h.1, hK _ _ h.2⟩
        · exact h
      · exact h.elim
    · split at h
      · unfold cpyW at h ⊢
        exact okv_mono h fun el h => okv_mono h fun n h => okv_mono h fun ys h => ⟨h.1, h.2.1, hK _ _ h.2.2⟩
      · exact h.elim
    · unfold callW at h ⊢
      split at h
      · exact h.mono fun r s' hr => by cases r <;> first | exact hK _ _ hr | exact hKp _ _ hr
      · exact h.mono fun p s' hp => hK _ _ hp
      · exact h.elim
    · exact okv_mono h fun v => hK _ _
  case build t ps => exact okv_mono h fun v => hK _ _
  case buildSlice t len ps => exact okv_mono h fun v => hK _ _
  case alloc t => exact okv_mono h fun z hz => ⟨hz.1, fun i hi => hK _ _ (hz.2 i hi)⟩
  case box t x => obtain ⟨h2, h3⟩ := h; exact ⟨h2, fun i hi => hK _ _ (h3 i hi)⟩
  case store t p x =>
    simp only [opw] at h ⊢
    obtain ⟨i, j, f, ty, sz, els, cs, hp, h1, h2, h3, h4, h5, h6⟩ := storeW_ex h
    rw [hp]
    exact ex_storeW h1 h2 ⟨h3, h4, h5, hK _ _ h6⟩
  case pick c x y =>
    simp only [opw] at h ⊢
    split at h
    · exact ⟨fun ht => hK _ _ (h.1 ht), fun ht => hK _ _ (h.2 ht)⟩
    · exact h.elim
  case binOp op t x y t2 =>
    simp only [opw] at h ⊢
    unfold binW at h ⊢
    split at h
    · refine ⟨h.1, ?_⟩
      have h := h.2
      unfold eqNilW at h ⊢
      split at h
      · exact fun t h1 h2 => hK _ _ (h t h1 h2)
      · exact fun t h1 h2 => hK _ _ (h t h1 h2)
      · exact h
    · exact okv_mono h fun v => hK _ _
  case makeMap t r =>
    cases r with
    | none =>
      simp only [opw] at h ⊢
      split at h
      · exact fun i hi => hK _ _ (h i hi)
      · exact okv_mono h fun x hx i hi => hK _ _ (hx i hi)
    | some r => exact hq h
  case mapUpdate t m k v =>
    simp only [opw] at h ⊢
    exact mapW_mono (hK _) h
  case insert t m k v =>
    simp only [opw] at h ⊢
    exact mapW_mono (hK _) h
  case convert src dst x =>
    simp only [opw] at h ⊢
    split at h
    · exact okv_mono h fun v => hK _ _
    · exact okv_mono h fun v => hK _ _
    · exact ⟨h.1, hK _ _ h.2⟩
    · exact okv_mono h fun v => hK _ _
  all_goals exact hq h
end
/-! ### Steps in any order -/
inductive Kind where
  | pure | read | quiet | grow | eff | steady
  deriving DecidableEq
def Kind.det : Kind → Bool
  | .eff => false
  | .grow => false
  | _ => true
/-- q: a call of a function is known to leave all as it was (1), to make blocks alone (2); a load reads what stays (3). -/
def kindOf (q : Nat) : Go.Op → Kind
  | .load _ _ => if q = 3 then .pure else .read
  | .lookup _ _ _ _ => .read
  | .alloc _ => .grow
  | .box _ _ => .grow
  | .store _ _ _ => .eff
  | .makeMap _ _ => .grow
  | .mapUpdate _ _ _ _ => .eff
  | .insert _ _ _ _ => .eff
  | .call c => match c.callee with
    | .builtin .append => .eff
    | .builtin .unsafeString => .eff
    | .builtin .copy => .eff
    | .builtin _ => .pure
    | _ => if q = 1 then .quiet else if q = 2 then .grow else if q = 4 then .steady else .eff
  | _ => .pure
/-- A: what stays as it is. -/
def pureV (P : Program) (A : St) (e : Env) : Go.Op → Option PV
  | .build t ps => bld P e t ps.toList
  | .buildSlice t len ps => mkSlice P e t len ps.toList
  | .pick c a b => match e.ev c with
    | .lit (.bool t) => some (if t = true then e.ev a else e.ev b)
    | _ => none
  | .load t x => qop P e A (.load t x)
  | .lookup _ _ _ _ => none
  | .call c => match c.callee with
    | .builtin .append => none
    | .builtin .unsafeString => none
    | .builtin .copy => none
    | _ => qcall P e c
  | op => qop P e St.empty op
/-- What an operation that is no effect gives. -/
def detV (P : Program) (A : St) (k : Kind) (s : St) (e : Env) (op : Go.Op) (v : PV) : Prop := match k with
  | .pure => pureV P A e op = some v
  | .read => qop P e s op = some v
  | .quiet => opw P e s (fun p s' => p = v ∧ s' = s) (fun _ _ => False) op
  | .steady => ∀ s, A.sub s → opw P e s (fun p s' => p = v ∧ s' = s) (fun _ _ => False) op
  | .grow => False
  | .eff => False
def dw (P : Program) (A : St) (k : Kind) (e : Env) (s : St) (K : PV → St → Prop) (Kp : List PanicEntry → St → Prop) (op : Go.Op) : Prop := match k with
  | .eff => opw P e s (fun v s' => A.sub s' ∧ K v s') Kp op
  | .pure => okv (pureV P A e op) fun v => K v s
  | .read => okv (qop P e s op) fun v => K v s
  | .quiet => ∃ v, detV P A .quiet s e op v ∧ K v s
  | .steady => ∃ v, detV P A .steady s e op v ∧ K v s
  | .grow => opw P e s (fun v s' => s.sub s' ∧ K v s') Kp op
section
variable {P : Program} {A : St} {s : St} {e e' : Env}
theorem dw_det {k : Kind} {op : Go.Op} {K : PV → St → Prop} {Kp : List PanicEntry → St → Prop} (hk : k.det = true) : dw P A k e s K Kp op ↔ ∃ v, detV P A k s e op v ∧ K v s := by
  cases k with
  | eff => cases hk
  | grow => cases hk
  | pure => exact ⟨fun h => okv_ex h, fun ⟨v, h1, h2⟩ => ex_okv h1 h2⟩
  | read => exact ⟨fun h => okv_ex h, fun ⟨v, h1, h2⟩ => ex_okv h1 h2⟩
  | quiet => exact Iff.rfl
  | steady => exact Iff.rfl
theorem pureV_congr {op : Go.Op} (h : ∀ x ∈ op.operands, e.ev x = e'.ev x) : pureV P A e op = pureV P A e' op := by
  cases op
  case call c =>
    have := qcall_congr (P := P) (c := c) (e := e) (e' := e') h
    simp only [pureV]; split <;> first | rfl | exact this
  case build t ps =>
    simp only [pureV, bld]
    rw [parts_ev (ps := ps.toList) fun x hx => h x (by simpa [Go.Op.operands] using hx)]
  case buildSlice t len ps =>
    simp only [pureV, mkSlice]
    have : (ps.toList.map fun p => e.ev p.2) = ps.toList.map fun p => e'.ev p.2 := List.map_congr_left fun p hp => h p.2 (by simp only [Go.Op.operands]; exact List.mem_toArray.2 (List.mem_map.2 ⟨p, hp, rfl⟩))
    rw [this]
  case pick c x y => simp only [pureV]; rw [h c (by simp [Go.Op.operands]), h x (by simp [Go.Op.operands]), h y (by simp [Go.Op.operands])]
  all_goals (simp only [pureV]; try rw [qop_congr h])
theorem detV_congr {k : Kind} {op : Go.Op} {v : PV} (h : ∀ x ∈ op.operands, e.ev x = e'.ev x) : detV P A k s e op v = detV P A k s e' op v := by
  cases k <;> simp only [detV]
  · rw [pureV_congr h]
  · rw [qop_congr h]
  · rw [opw_congr h]
  · apply forall_congr; intro s; apply propext; exact ⟨fun q hA => by rw [← opw_congr h]; exact q hA, fun q hA => by rw [opw_congr h]; exact q hA⟩
theorem cellsAt_mono {s' : St} {p : PV} {n : Nat} {cs : List PV} (hs : s.sub s') (h : cellsAt s p n = some cs) : cellsAt s' p n = some cs := by
  unfold cellsAt at h ⊢
  split at h
  · exact h
  · rename_i i j f
    split at h
    · rename_i b he
      rw [hs i _ he]
      exact h
    · rename_i b he
      rw [hs i _ he]
      exact h
    · cases h
  · cases h
theorem load_mono {s' : St} {t : TypeId} {x : Operand} {v : PV} (hs : s.sub s') (h : qop P e s (.load t x) = some v) : qop P e s' (.load t x) = some v := by
  simp only [qop] at h ⊢
  replace h := Option.bind_eq_some_iff.1 h; obtain ⟨n, hn, h⟩ := h
  replace h := Option.bind_eq_some_iff.1 h; obtain ⟨ag, ha, h⟩ := h
  replace h := Option.bind_eq_some_iff.1 h; obtain ⟨cs, hc, h⟩ := h
  rw [hn, ha]
  simp only [Option.bind_some, cellsAt_mono hs hc]
  exact h
theorem look_mono {s' : St} {t : TypeId} {x k : Operand} {c : Bool} {v : PV} (hs : s.sub s') (h : qop P e s (.lookup t x k c) = some v) : qop P e s' (.lookup t x k c) = some v := by
  simp only [qop] at h ⊢
  unfold lookV at h ⊢
  split at h
  · rename_i i b hx hk
    split at h
    · rename_i es he
      rw [hs i _ he]
      exact h
    · cases h
  · rename_i i kd b hx hk
    split at h
    · rename_i kd' es he
      rw [hs i _ he]
      exact h
    · cases h
  · exact h
  · exact h
  · cases h
theorem qop_free {op : Go.Op} (t : St) (h : ∀ a b, op ≠ .load a b) (h2 : ∀ a b c d, op ≠ .lookup a b c d) : qop P e s op = qop P e t op := by
  cases op
  case makeFunc fn a b => cases fn <;> rfl
  case slice t x lo hi mx => cases mx <;> first | rfl | (cases lo <;> cases hi <;> rfl)
  all_goals first | rfl | exact absurd rfl (h _ _) | exact absurd rfl (h2 _ _ _ _)
theorem pureV_opw {op : Go.Op} {v : PV} {K : PV → St → Prop} {Kp : List PanicEntry → St → Prop} (hA : A.sub s) (h : pureV P A e op = some v) (hK : K v s) : opw P e s K Kp op := by
  have hq : (∀ a b, op ≠ .load a b) → (∀ a b c d, op ≠ .lookup a b c d) → qop P e St.empty op = some v → okv (qop P e s op) fun v => K v s := fun hl hl2 h => ex_okv ((qop_free St.empty hl hl2).trans h) hK
  cases op
  case call c =>
    simp only [pureV] at h
    simp only [opw]
    split at h
    · cases h
    · cases h
    · cases h
    · rename_i hne hne2 hne3
      split
      · exact absurd ‹_› hne
      · exact absurd ‹_› hne2
      · exact absurd ‹_› hne3
      · rename_i f hf
        unfold qcall at h
        rw [hf] at h
        cases h
      · exact ex_okv h hK
  case build t ps => exact ex_okv h hK
  case buildSlice t len ps => exact ex_okv h hK
  case pick c x y =>
    simp only [pureV] at h
    split at h
    · rename_i t ht
      simp only [opw, ht]
      refine ⟨fun h1 => ?_, fun h1 => ?_⟩ <;> subst h1 <;> simp at h <;> subst h <;> exact hK
    · cases h
  case load t x => exact ex_okv (load_mono hA h) hK
  case lookup => cases h
  case mapUpdate => cases h
  case insert => cases h
  case makeMap t r => cases r <;> cases h
  case convert src dst x =>
    simp only [pureV] at h
    simp only [opw]
    have hq' := hq (fun _ _ => by simp) (fun _ _ _ _ => by simp) h
    split
    · rename_i hx; simp only [qop, hx] at h; cases h
    · rename_i hx; simp only [qop, hx] at h; cases h
    · rename_i hx; simp only [qop, hx] at h; cases h
    · exact hq'
  case alloc => cases h
  case box => cases h
  case store => cases h
  case binOp op t x y t2 =>
    simp only [opw]
    unfold binW
    split
    · rename_i k xs hx hy
      simp only [pureV, qop, hx, hy, bin] at h
      cases h
    · exact hq (fun _ _ => by simp) (fun _ _ _ _ => by simp) h
  all_goals exact hq (fun _ _ => by simp) (fun _ _ _ _ => by simp) h
theorem dw_opw {k : Kind} {op : Go.Op} {K : PV → St → Prop} {Kp : List PanicEntry → St → Prop} (hA : A.sub s) (hk : k = .read → (∃ a b, op = .load a b) ∨ ∃ a b c d, op = .lookup a b c d) (h : dw P A k e s K Kp op) : opw P e s (fun v s' => A.sub s' ∧ K v s') Kp op := by
  cases k with
  | pure => obtain ⟨v, h1, h2⟩ := okv_ex h; exact pureV_opw hA h1 ⟨hA, h2⟩
  | read => rcases hk rfl with ⟨a, b, rfl⟩ | ⟨a, b, c, d, rfl⟩ <;> exact okv_mono h fun v hv => ⟨hA, hv⟩
  | quiet => obtain ⟨v, h1, h2⟩ := h; exact opw_mono (K := fun p s' => p = v ∧ s' = s) (Kp := fun _ _ => False) (fun p s' hp => by obtain ⟨rfl, rfl⟩ := hp; exact ⟨hA, h2⟩) (fun _ _ hf => hf.elim) h1
  | steady => obtain ⟨v, h1, h2⟩ := h; exact opw_mono (K := fun p s' => p = v ∧ s' = s) (Kp := fun _ _ => False) (fun p s' hp => by obtain ⟨rfl, rfl⟩ := hp; exact ⟨hA, h2⟩) (fun _ _ hf => hf.elim) (h1 s hA)
  | grow => exact opw_mono (K := fun v s' => s.sub s' ∧ K v s') (fun _ _ h => ⟨fun i b hb => h.1 i b (hA i b hb), h.2⟩) (fun _ _ h => h) h
  | eff => exact h
theorem dw_congr {k : Kind} {op : Go.Op} {K : PV → St → Prop} {Kp : List PanicEntry → St → Prop} (h : ∀ x ∈ op.operands, e.ev x = e'.ev x) : dw P A k e s K Kp op = dw P A k e' s K Kp op := by
  cases k <;> simp only [dw]
  · rw [pureV_congr h]
  · rw [qop_congr h]
  · simp only [detV_congr h]
  · rw [opw_congr h]
  · rw [opw_congr h]
  · simp only [detV_congr h]
theorem dw_mono' {k : Kind} {op : Go.Op} {K K' : PV → St → Prop} {Kp Kp' : List PanicEntry → St → Prop} (hK : ∀ v s', (k = .grow → s.sub s') → (A.sub s → A.sub s') → K v s' → K' v s') (hKp : ∀ c s, Kp c s → Kp' c s) (h : dw P A k e s K Kp op) : dw P A k e s K' Kp' op := by
  cases k with
  | eff => exact opw_mono (K := fun v s' => A.sub s' ∧ K v s') (K' := fun v s' => A.sub s' ∧ K' v s') (fun v s' h => ⟨h.1, hK v s' (fun h => by cases h) (fun _ => h.1) h.2⟩) hKp h
  | grow => exact opw_mono (K := fun v s' => s.sub s' ∧ K v s') (K' := fun v s' => s.sub s' ∧ K' v s') (fun v s' h => ⟨h.1, hK v s' (fun _ => h.1) (fun hA i b hb => h.1 i b (hA i b hb)) h.2⟩) hKp h
  | pure => exact okv_mono h fun v => hK _ _ (fun h => by cases h) (fun h => h)
  | read => exact okv_mono h fun v => hK _ _ (fun h => by cases h) (fun h => h)
  | quiet => obtain ⟨v, h1, h2⟩ := h; exact ⟨v, h1, hK _ _ (fun h => by cases h) (fun h => h) h2⟩
  | steady => obtain ⟨v, h1, h2⟩ := h; exact ⟨v, h1, hK _ _ (fun h => by cases h) (fun h => h) h2⟩
theorem dw_mono {k : Kind} {op : Go.Op} {K K' : PV → St → Prop} {Kp Kp' : List PanicEntry → St → Prop} (hK : ∀ v s, K v s → K' v s) (hKp : ∀ c s, Kp c s → Kp' c s) (h : dw P A k e s K Kp op) : dw P A k e s K' Kp' op := dw_mono' (fun v s _ _ => hK v s) hKp h
/-- What a guard reads: a truth value, or that the operation was passed over. -/
def yb : PV → Option (Option Bool)
  | .lit (.bool t) => some (some t)
  | .tup [] => some none
  | _ => none
/-- Under an operation's guard. -/
def gd (ops : Array Oper) (o : Oper) (e : Env) (A B : Prop) : Prop := match o.guard with
  | none => A
  | some (j, want) => okv ((ops[j]?).bind (·.dst)) fun d => okv (yb (e d)) fun y => (y = some want → A) ∧ (y ≠ some want → B)
theorem gd_some {ops : Array Oper} {o : Oper} {e : Env} {A B : Prop} {j : Nat} {want : Bool} (hg : o.guard = some (j, want)) : gd ops o e A B ↔ ∃ d y, (ops[j]?).bind (·.dst) = some d ∧ yb (e d) = some y ∧ (y = some want → A) ∧ (y ≠ some want → B) := by
  unfold gd
  rw [hg]
  constructor
  · intro h
    obtain ⟨d, h1, h⟩ := okv_ex h
    obtain ⟨y, h2, h⟩ := okv_ex h
    exact ⟨d, y, h1, h2, h⟩
  · rintro ⟨d, y, h1, h2, h3⟩
    exact ex_okv h1 (ex_okv h2 h3)
theorem gd_none {ops : Array Oper} {o : Oper} {e : Env} {A B : Prop} (hg : o.guard = none) : gd ops o e A B ↔ A := by
  unfold gd
  rw [hg]
theorem gd_mono {ops : Array Oper} {o : Oper} {A A' B B' : Prop} (h : gd ops o e A B) (ha : A → A') (hb : B → B') : gd ops o e A' B' := by
  cases hg : o.guard with
  | none => exact (gd_none hg).2 (ha ((gd_none hg).1 h))
  | some jw =>
    obtain ⟨j, want⟩ := jw
    obtain ⟨d, y, h1, h2, h3, h4⟩ := (gd_some hg).1 h
    exact (gd_some hg).2 ⟨d, y, h1, h2, fun h => ha (h3 h), fun h => hb (h4 h)⟩
theorem gd_congr {ops : Array Oper} {o : Oper} {A B : Prop} (h : ∀ t ∈ o.looksAt ops, e t = e' t) : gd ops o e A B = gd ops o e' A B := by
  cases hg : o.guard with
  | none => exact propext ((gd_none hg).trans (gd_none hg).symm)
  | some jw =>
    obtain ⟨j, want⟩ := jw
    apply propext
    rw [gd_some hg, gd_some hg]
    constructor
    · rintro ⟨d, y, h1, h2, h3, h4⟩
      exact ⟨d, y, h1, by rw [← h d (by simp [Oper.looksAt, hg, h1])]; exact h2, h3, h4⟩
    · rintro ⟨d, y, h1, h2, h3, h4⟩
      exact ⟨d, y, h1, by rw [h d (by simp [Oper.looksAt, hg, h1])]; exact h2, h3, h4⟩
/-- One operation. -/
def stepD (P : Program) (A : St) (ops : Array Oper) (kd : Nat → Nat) (N : Nat) (i : Nat) (e : Env) (s : St) (K : Env → St → Prop) (Kp : List PanicEntry → Env → St → Prop) : Prop := match ops[i]? with
  | none => False
  | some o => (∀ t, o.dst = some t → t < N) ∧ gd ops o e (dw P A (kindOf (kd i) o.op) e s (fun v s' => K (e.put o.dst v) s') (fun c s' => Kp c e s') o.op) (K (e.put o.dst (.tup [])) s)
def pwD (P : Program) (A : St) (ops : Array Oper) (kd : Nat → Nat) (N : Nat) : List Nat → Env → St → (Env → St → Prop) → (List PanicEntry → Env → St → Prop) → Prop
  | [], e, s, K, _ => K e s
  | i :: l, e, s, K, Kp => stepD P A ops kd N i e s (fun e s => pwD P A ops kd N l e s K Kp) Kp
theorem stepD_mono {ops : Array Oper} {kd : Nat → Nat} {N i : Nat} {K K' : Env → St → Prop} {Kp Kp' : List PanicEntry → Env → St → Prop} (hK : ∀ e s, K e s → K' e s) (hKp : ∀ c s, Kp c e s → Kp' c e s) (h : stepD P A ops kd N i e s K Kp) : stepD P A ops kd N i e s K' Kp' := by
  unfold stepD at h ⊢
  split at h
  · exact h
  · exact ⟨h.1, gd_mono h.2 (dw_mono (fun _ _ => hK _ _) hKp) (hK _ _)⟩
theorem looks_ev {ops : Array Oper} {o : Oper} (h : ∀ t ∈ o.looksAt ops, e t = e' t) : ∀ x ∈ o.op.operands, e.ev x = e'.ev x := by
  intro x hx
  cases x with
  | tmp t => exact h t (List.mem_append_left _ (List.mem_filterMap.2 ⟨.tmp t, Array.mem_toList_iff.2 hx, rfl⟩))
  | _ => rfl
theorem kind_read {q : Nat} {op : Go.Op} (h : kindOf q op = .read) : (∃ a b, op = .load a b) ∨ ∃ a b c d, op = .lookup a b c d := by
  cases op <;> simp only [kindOf] at h <;> first | exact .inl ⟨_, _, rfl⟩ | exact .inr ⟨_, _, _, _, rfl⟩ | (cases h; done) | skip
  · split at h <;> first | (cases h; done) | (split at h <;> first | (cases h; done) | (split at h <;> first | (cases h; done) | (split at h <;> first | (cases h; done) | (split at h <;> cases h))))
end
end Go.Pv

/- A logic over plain values: a region that draws its order may be told in one order. -/
namespace Go.Pv
set_option linter.unusedVariables false
set_option linter.unusedSimpArgs false
section
variable {P : Program} {A : St} {w : World} {g : G} {s : St} {N : Nat} {e e' : Env} {a : Act} {ops : Array Oper} {kd : Nat → Nat} {Q : Exit → Act → World → Prop}
theorem yb_yielded {d j : Nat} {y : Option Bool} (hv : VR w g (e d) (a.tmps.getD d undef)) (hdj : (ops[j]?).bind (·.dst) = some d) (hy : yb (e d) = some y) : yielded ops a.tmps j = y := by
  generalize e d = p at hv hy
  have fin : ∀ v, a.tmps.getD d undef = v → (match v with | .bool t => some t | _ => none) = y → yielded ops a.tmps j = y := by
    intro v hvd hm
    unfold yielded
    rw [hdj]
    simp only [Option.bind_some]
    rw [Array.getD_eq_getD_getElem?] at hvd
    cases ht : a.tmps[d]? with
    | none => rw [ht] at hvd; simp only [Option.getD_none] at hvd; subst hvd; simpa [undef] using hm
    | some u => rw [ht] at hvd; simp only [Option.getD_some] at hvd; subst hvd; rw [← hm]; cases u <;> rfl
  unfold yb at hy
  split at hy
  · cases hy
    obtain ⟨hvd, _⟩ := hv.lit_inv
    exact fin _ hvd rfl
  · cases hy
    refine fin _ rfl ?_
    generalize a.tmps.getD d undef = u at hv
    cases hv with
    | tup _ vs h1 h3 => rfl
  · cases hy
theorem stepD_sound {i : Nat} {K : Env → St → Prop} {Kp : List PanicEntry → Env → St → Prop} (h : stepD P A ops kd N i e s K Kp) (hA : A.sub s) (hH : Holds g s w) (hE : ER w g N e a) {B : Nat} (hd : DK B g w a.defers) {next : Act → World → Prop}
    (hn : ∀ (e' : Env) (s' : St) (g' : G) (a' : Act) (w' : World), LE g w g' w' → Holds g' s' w' → ER w' g' N e' a' → DK B g' w' a'.defers → A.sub s' → K e' s' → next a' w')
    (hp : ∀ (c : List PanicEntry) (s' : St) (g' : G) (w' : World), LE g w g' w' → Holds g' s' w' → Kp c e s' → Q (.panic c) a w') : wpOpR P ops Q i next a w := by
  unfold stepD at h
  unfold wpOpR
  split at h
  · exact h.elim
  · rename_i o ho
    obtain ⟨hdst, h⟩ := h
    have main : dw P A (kindOf (kd i) o.op) e s (fun v s' => K (e.put o.dst v) s') (fun c s' => Kp c e s') o.op → wpR P o a w next Q := fun h =>
      opw_sound hH hE o (dw_opw hA (fun hk => kind_read hk) h) (fun p v s' g' w' k1 k2 k3 k4 => hn _ s' g' _ w' k1 k2 ((hE.le k1.toLEv).put hdst k3) (by rw [put_defers]; exact hd.le k1) k4.1 k4.2) (fun c s' g' w' k1 k2 k3 => hp c s' g' w' k1 k2 k3)
    rw [ho]
    simp only
    cases hg : o.guard with
    | none =>
      rw [if_pos (by simp [Region.wanted, hg])]
      exact main ((gd_none hg).1 h)
    | some jw =>
      obtain ⟨j, want⟩ := jw
      obtain ⟨d, y, hdj, hed, h1, h2⟩ := (gd_some hg).1 h
      have hy : yielded ops a.tmps j = y := yb_yielded (hE.vr d) hdj hed
      by_cases hw : y = some want
      · rw [if_pos (by simp [Region.wanted, hg, hy, hw])]
        exact main (h1 hw)
      · rw [if_neg (by simp [Region.wanted, hg, hy, hw])]
        exact hn _ s g _ w (.refl _ _) hH (hE.put hdst (.tup [] #[] rfl (by simp))) (by rw [put_defers]; exact hd) hA (h2 hw)
/-- Two operations that do not touch each other's slots. -/
theorem apart_looks {x o : Oper} (h : x.apart ops o = true) (v : PV) : ∀ t ∈ o.looksAt ops, (e.put x.dst v) t = e t := by
  obtain ⟨h1, _, _⟩ := Oper.apart_spec h
  intro t ht
  cases hd : x.dst with
  | none => rfl
  | some d =>
    simp only [Env.put]
    rw [if_neg (fun he : t = d => h1 d hd (by rw [← he]; exact ht))]
theorem apart_symm {x o : Oper} (h : x.apart ops o = true) : o.apart ops x = true := by
  unfold Oper.apart at h ⊢
  cases hx : x.dst <;> cases ho : o.dst <;> simp_all
  all_goals first | exact fun e => h.1.2 e.symm | exact ⟨h.2, fun e => h.1.2 e.symm⟩
theorem apart_put {x o : Oper} (h : x.apart ops o = true) (v u : PV) : (e.put x.dst v).put o.dst u = (e.put o.dst u).put x.dst v := by
  obtain ⟨_, h2, _⟩ := Oper.apart_spec h
  exact put_comm v u h2
/-- What operation o gives, its guard heeded. -/
def valD (P : Program) (A : St) (ops : Array Oper) (k : Kind) (o : Oper) (s : St) (e : Env) (u : PV) : Prop := gd ops o e (detV P A k s e o.op u) (u = .tup [])
theorem valD_congr {k : Kind} {o : Oper} {u : PV} (h : ∀ t ∈ o.looksAt ops, e t = e' t) (hv : valD P A ops k o s e u) : valD P A ops k o s e' u := by
  unfold valD at hv ⊢
  rw [detV_congr (looks_ev h), gd_congr h] at hv
  exact hv
theorem stepD_det {i : Nat} {o : Oper} (ho : ops[i]? = some o) (hk : (kindOf (kd i) o.op).det = true) {K : Env → St → Prop} {Kp : List PanicEntry → Env → St → Prop} :
    stepD P A ops kd N i e s K Kp ↔ (∀ t, o.dst = some t → t < N) ∧ ∃ u, valD P A ops (kindOf (kd i) o.op) o s e u ∧ K (e.put o.dst u) s := by
  unfold stepD
  rw [ho]
  simp only [valD]
  cases hg : o.guard with
  | none =>
    rw [gd_none hg, dw_det hk]
    simp only [gd_none hg]
  | some jw =>
    obtain ⟨j, want⟩ := jw
    rw [gd_some hg, dw_det hk]
    simp only [gd_some hg]
    constructor
    · rintro ⟨hd, d, y, h1, h2, h3, h4⟩
      refine ⟨hd, ?_⟩
      by_cases ht : y = some want
      · obtain ⟨v, q1, q2⟩ := h3 ht
        exact ⟨v, ⟨d, y, h1, h2, fun _ => q1, fun h => absurd ht h⟩, q2⟩
      · exact ⟨.tup [], ⟨d, y, h1, h2, fun h => absurd h ht, fun _ => rfl⟩, h4 ht⟩
    · rintro ⟨hd, u, ⟨d, y, h1, h2, h3, h4⟩, hK⟩
      exact ⟨hd, d, y, h1, h2, fun ht => ⟨u, h3 ht, hK⟩, fun ht => by have := h4 ht; subst this; exact hK⟩
theorem stepD_congr {i : Nat} {o : Oper} (ho : ops[i]? = some o) {K K' : Env → St → Prop} {Kp : List PanicEntry → Env → St → Prop} (hl : ∀ t ∈ o.looksAt ops, e t = e' t)
    (hK : ∀ v s', (kindOf (kd i) o.op = .grow → s.sub s') → (A.sub s → A.sub s') → K (e.put o.dst v) s' → K' (e'.put o.dst v) s') (hKp : ∀ c s', Kp c e s' → Kp c e' s') (h : stepD P A ops kd N i e s K Kp) : stepD P A ops kd N i e' s K' Kp := by
  unfold stepD at h ⊢
  rw [ho] at h ⊢
  simp only at h ⊢
  refine ⟨h.1, ?_⟩
  rw [← gd_congr hl, ← dw_congr (looks_ev hl)]
  exact gd_mono h.2 (dw_mono' (fun v s' => hK v s') (fun c s' => hKp c s')) (hK _ _ (fun _ _ _ h => h) (fun h => h))
/-- All of l1 keep off operation o. -/
def Off (ops : Array Oper) (o : Oper) (l : List Nat) : Prop := ∀ x ∈ l, ∀ ox, ops[x]? = some ox → ox.apart ops o = true
theorem step_some {i : Nat} {K : Env → St → Prop} {Kp : List PanicEntry → Env → St → Prop} (h : stepD P A ops kd N i e s K Kp) : ∃ o, ops[i]? = some o := by
  unfold stepD at h
  cases ho : ops[i]? with
  | none => rw [ho] at h; exact h.elim
  | some o => exact ⟨o, rfl⟩
variable {K : Env → St → Prop} {Kp : List PanicEntry → Env → St → Prop}
theorem bubble_det {i : Nat} {o : Oper} (ho : ops[i]? = some o) (hk : (kindOf (kd i) o.op).det = true) (l2 : List Nat) : ∀ (l1 : List Nat) (e : Env), Off ops o l1 → (∀ x ∈ l1, ∀ ox, ops[x]? = some ox → (kindOf (kd x) ox.op).det = true) →
    pwD P A ops kd N (l1 ++ i :: l2) e s K Kp → (∀ t, o.dst = some t → t < N) ∧ ∃ u, valD P A ops (kindOf (kd i) o.op) o s e u ∧ pwD P A ops kd N (l1 ++ l2) (e.put o.dst u) s K Kp
  | [], e, _, _, h => (stepD_det ho hk).1 h
  | x :: l1, e, hoff, hdet, h => by
    simp only [List.cons_append, pwD] at h
    obtain ⟨ox, hox⟩ := step_some h
    have hkx := hdet x List.mem_cons_self ox hox
    have hap := hoff x List.mem_cons_self ox hox
    obtain ⟨hdx, v, hv, h⟩ := (stepD_det hox hkx).1 h
    obtain ⟨hd, u, hu, h⟩ := bubble_det ho hk l2 l1 _ (fun y hy => hoff y (List.mem_cons_of_mem _ hy)) (fun y hy => hdet y (List.mem_cons_of_mem _ hy)) h
    refine ⟨hd, u, valD_congr (apart_looks hap v) hu, ?_⟩
    simp only [List.cons_append, pwD]
    refine (stepD_det hox hkx).2 ⟨hdx, v, valD_congr (fun t ht => (apart_looks (apart_symm hap) u t ht).symm) hv, ?_⟩
    rw [← apart_put hap v u]
    exact h
theorem valD_pure {o : Oper} {s' : St} {u : PV} (h : valD P A ops .pure o s e u) : valD P A ops .pure o s' e u := h
theorem valD_steady {o : Oper} {s' : St} {u : PV} (h : valD P A ops .steady o s e u) : valD P A ops .steady o s' e u := h
theorem valD_read {q : Nat} {o : Oper} {s' : St} {u : PV} (hs : s.sub s') (hk : kindOf q o.op = .read) (h : valD P A ops .read o s e u) : valD P A ops .read o s' e u := by
  unfold valD at h ⊢
  refine gd_mono h (fun h => ?_) (fun h => h)
  simp only [detV] at h ⊢
  rcases kind_read hk with ⟨a, b, hl⟩ | ⟨a, b, c, d, hl⟩
  · rw [hl] at h ⊢
    exact load_mono hs h
  · rw [hl] at h ⊢
    exact look_mono hs h
/-- An operation that makes one block, of its own. -/
def alc : Go.Op → Bool
  | .alloc _ => true
  | .box _ _ => true
  | _ => false
def alcV (P : Program) (e : Env) : Go.Op → TypeId → Nat → List PV → Prop
  | .alloc t, ty, n, cs => ∃ z, tzero P t = some z ∧ (ofVal z).solid = true ∧ ty = t ∧ n = (ofVal z).width ∧ cs = (ofVal z).cells
  | .box t x, ty, n, cs => (e.ev x).solid = true ∧ ty = t ∧ n = (e.ev x).width ∧ cs = (e.ev x).cells
  | _, _, _, _ => False
theorem alcV_congr {op : Go.Op} {ty : TypeId} {n : Nat} {cs : List PV} (h : ∀ x ∈ op.operands, e.ev x = e'.ev x) : alcV P e op ty n cs = alcV P e' op ty n cs := by
  cases op
  case box t x => simp only [alcV]; rw [h x (by simp [Go.Op.operands])]
  all_goals rfl
theorem sub_new {i : Nat} {b : Option Blk} (hi : s i = none) : s.sub (s.upd i b) := by
  intro j c hj
  by_cases hji : j = i
  · subst hji; rw [hi] at hj; cases hj
  · rw [St.upd_ne _ _ hji]; exact hj
theorem alc_kind {q : Nat} {op : Go.Op} (h : alc op = true) : kindOf q op = .grow := by cases op <;> first | rfl | cases h
theorem alc_dw {q : Nat} {op : Go.Op} (ha : alc op = true) {K : PV → St → Prop} {Kp : List PanicEntry → St → Prop} :
    dw P A (kindOf q op) e s K Kp op ↔ ∃ ty n cs, alcV P e op ty n cs ∧ ∀ j, s j = none → K (.pt j 0 0) (s.upd j (some (.row ty n [cs]))) := by
  rw [alc_kind ha]
  cases op <;> try (cases ha; done)
  case alloc t =>
    constructor
    · intro h
      obtain ⟨z, h1, h2, h3⟩ := okv_ex h
      exact ⟨_, _, _, ⟨z, h1, h2, rfl, rfl, rfl⟩, fun j hj => (h3 j hj).2⟩
    · rintro ⟨_, _, _, ⟨z, h1, h2, rfl, rfl, rfl⟩, h⟩
      exact ex_okv h1 ⟨h2, fun j hj => ⟨sub_new hj, h j hj⟩⟩
  case box t x =>
    constructor
    · rintro ⟨h1, h2⟩
      exact ⟨_, _, _, ⟨h1, rfl, rfl, rfl⟩, fun j hj => (h2 j hj).2⟩
    · rintro ⟨_, _, _, ⟨h1, rfl, rfl, rfl⟩, h⟩
      exact ⟨h1, fun j hj => ⟨sub_new hj, h j hj⟩⟩
def outA (P : Program) (ops : Array Oper) (o : Oper) (e : Env) (out : Option (TypeId × Nat × List PV)) : Prop :=
  gd ops o e (∃ ty n cs, out = some (ty, n, cs) ∧ alcV P e o.op ty n cs) (out = none)
theorem outA_congr {o : Oper} {out : Option (TypeId × Nat × List PV)} (h : ∀ t ∈ o.looksAt ops, e t = e' t) (ho : outA P ops o e out) : outA P ops o e' out := by
  unfold outA at ho ⊢
  rw [← gd_congr h]
  refine gd_mono ho ?_ (fun h => h)
  rintro ⟨ty, n, cs, h1, h2⟩
  exact ⟨ty, n, cs, h1, by rw [← alcV_congr (looks_ev h)]; exact h2⟩
def afterA (K : Env → St → Prop) (d : Option Tmp) (e : Env) (s : St) : Option (TypeId × Nat × List PV) → Prop
  | none => K (e.put d (.tup [])) s
  | some (ty, n, cs) => ∀ j, s j = none → K (e.put d (.pt j 0 0)) (s.upd j (some (.row ty n [cs])))
theorem stepD_alc {i : Nat} {o : Oper} (ho : ops[i]? = some o) (ha : alc o.op = true) {K : Env → St → Prop} {Kp : List PanicEntry → Env → St → Prop} :
    stepD P A ops kd N i e s K Kp ↔ (∀ t, o.dst = some t → t < N) ∧ ∃ out, outA P ops o e out ∧ afterA K o.dst e s out := by
  unfold stepD
  rw [ho]
  simp only [outA]
  cases hg : o.guard with
  | none =>
    rw [gd_none hg, alc_dw ha]
    simp only [gd_none hg]
    constructor
    · rintro ⟨h1, ty, n, cs, h2, h3⟩
      exact ⟨h1, some (ty, n, cs), ⟨ty, n, cs, rfl, h2⟩, h3⟩
    · rintro ⟨h1, out, ⟨ty, n, cs, rfl, h2⟩, h3⟩
      exact ⟨h1, ty, n, cs, h2, h3⟩
  | some jw =>
    obtain ⟨j, want⟩ := jw
    rw [gd_some hg, alc_dw ha]
    simp only [gd_some hg]
    constructor
    · rintro ⟨h1, d, y, h2, h3, h4, h5⟩
      by_cases ht : y = some want
      · obtain ⟨ty, n, cs, q1, q2⟩ := h4 ht
        exact ⟨h1, some (ty, n, cs), ⟨d, y, h2, h3, fun _ => ⟨ty, n, cs, rfl, q1⟩, fun h => absurd ht h⟩, q2⟩
      · exact ⟨h1, none, ⟨d, y, h2, h3, fun h => absurd h ht, fun _ => rfl⟩, h5 ht⟩
    · rintro ⟨h1, out, ⟨d, y, h2, h3, h4, h5⟩, h6⟩
      refine ⟨h1, d, y, h2, h3, fun ht => ?_, fun ht => ?_⟩
      · obtain ⟨ty, n, cs, rfl, q2⟩ := h4 ht
        exact ⟨ty, n, cs, q2, h6⟩
      · have := h5 ht
        subst this
        exact h6
theorem swap_alc {x i : Nat} {ox o : Oper} (hox : ops[x]? = some ox) (ho : ops[i]? = some o) (hx : alc ox.op = true) (hi : alc o.op = true) (hap : ox.apart ops o = true) {K : Env → St → Prop} {Kp : List PanicEntry → Env → St → Prop}
    (hfr : ∃ j, s j = none) (h : stepD P A ops kd N x e s (fun e s => stepD P A ops kd N i e s K Kp) Kp) : stepD P A ops kd N i e s (fun e s => stepD P A ops kd N x e s K Kp) Kp := by
  obtain ⟨dx, outx, ox1, ox2⟩ := (stepD_alc hox hx).1 h
  cases outx with
  | none =>
    obtain ⟨di, outi, oi1, oi2⟩ := (stepD_alc ho hi).1 ox2
    refine (stepD_alc ho hi).2 ⟨di, outi, outA_congr (apart_looks hap _) oi1, ?_⟩
    cases outi with
    | none =>
      refine (stepD_alc hox hx).2 ⟨dx, none, outA_congr (fun t ht => (apart_looks (apart_symm hap) _ t ht).symm) ox1, ?_⟩
      simp only [afterA] at oi2 ⊢
      rw [← apart_put hap]; exact oi2
    | some q =>
      obtain ⟨ty, n, cs⟩ := q
      intro j hj
      refine (stepD_alc hox hx).2 ⟨dx, none, outA_congr (fun t ht => (apart_looks (apart_symm hap) _ t ht).symm) ox1, ?_⟩
      have := oi2 j hj
      simp only [afterA]
      rw [← apart_put hap]; exact this
  | some p =>
    obtain ⟨tyx, nx, csx⟩ := p
    -- what i gives does not hang on the block
    have key : (∀ t, o.dst = some t → t < N) ∧ ∃ outi, outA P ops o e outi ∧ ∀ j, s j = none → afterA K o.dst (e.put ox.dst (.pt j 0 0)) (s.upd j (some (.row tyx nx [csx]))) outi := by
      have all : ∀ j, s j = none → (∀ t, o.dst = some t → t < N) ∧ ∃ outi, outA P ops o e outi ∧ afterA K o.dst (e.put ox.dst (.pt j 0 0)) (s.upd j (some (.row tyx nx [csx]))) outi := by
        intro j hj
        obtain ⟨di, outi, oi1, oi2⟩ := (stepD_alc ho hi).1 (ox2 j hj)
        exact ⟨di, outi, outA_congr (apart_looks hap _) oi1, oi2⟩
      by_cases hex : ∃ j, s j = none
      · obtain ⟨j, hj⟩ := hex
        obtain ⟨di, outi, oi1, _⟩ := all j hj
        refine ⟨di, outi, oi1, fun k hk => ?_⟩
        obtain ⟨_, outk, ok1, ok2⟩ := all k hk
        have : outk = outi := by
          unfold outA at oi1 ok1
          cases hg : o.guard with
          | none =>
            rw [gd_none hg] at oi1 ok1
            obtain ⟨_, _, _, rfl, q1⟩ := oi1
            obtain ⟨_, _, _, rfl, q2⟩ := ok1
            cases hop : o.op <;> rw [hop] at q1 q2 hi <;> try (cases hi; done)
            · obtain ⟨z, a1, _, rfl, rfl, rfl⟩ := q1
              obtain ⟨z', b1, _, rfl, rfl, rfl⟩ := q2
              rw [a1] at b1; cases b1; rfl
            · obtain ⟨_, rfl, rfl, rfl⟩ := q1
              obtain ⟨_, rfl, rfl, rfl⟩ := q2
              rfl
          | some jw =>
            obtain ⟨j, want⟩ := jw
            obtain ⟨d, y, g1, g2, g3, g4⟩ := (gd_some hg).1 oi1
            obtain ⟨d', y', g1', g2', g3', g4'⟩ := (gd_some hg).1 ok1
            rw [g1] at g1'; cases g1'
            rw [g2] at g2'; cases g2'
            by_cases ht : y = some want
            · obtain ⟨_, _, _, rfl, q1⟩ := g3 ht
              obtain ⟨_, _, _, rfl, q2⟩ := g3' ht
              cases hop : o.op <;> rw [hop] at q1 q2 hi <;> try (cases hi; done)
              · obtain ⟨z, a1, _, rfl, rfl, rfl⟩ := q1
                obtain ⟨z', b1, _, rfl, rfl, rfl⟩ := q2
                rw [a1] at b1; cases b1; rfl
              · obtain ⟨_, rfl, rfl, rfl⟩ := q1
                obtain ⟨_, rfl, rfl, rfl⟩ := q2
                rfl
            · rw [g4 ht, g4' ht]
        rw [← this]; exact ok2
      · exact absurd hfr hex
    obtain ⟨di, outi, oi1, oi2⟩ := key
    refine (stepD_alc ho hi).2 ⟨di, outi, oi1, ?_⟩
    cases outi with
    | none =>
      refine (stepD_alc hox hx).2 ⟨dx, some (tyx, nx, csx), outA_congr (fun t ht => (apart_looks (apart_symm hap) _ t ht).symm) ox1, fun j hj => ?_⟩
      have := oi2 j hj
      simp only [afterA] at this
      rw [← apart_put hap]; exact this
    | some q =>
      obtain ⟨ty, n, cs⟩ := q
      intro k hk
      refine (stepD_alc hox hx).2 ⟨dx, some (tyx, nx, csx), outA_congr (fun t ht => (apart_looks (apart_symm hap) _ t ht).symm) ox1, fun j hj => ?_⟩
      have hjk : j ≠ k := by intro e; subst e; rw [St.upd_same] at hj; cases hj
      rw [St.upd_ne _ _ hjk] at hj
      have := oi2 j hj k (by rw [St.upd_ne _ _ (Ne.symm hjk)]; exact hk)
      rw [← apart_put hap, ← St.upd_comm s _ _ hjk]; exact this
theorem bubble_eff (hKp : ∀ c e e' s, Kp c e s → Kp c e' s) {i : Nat} {o : Oper} (ho : ops[i]? = some o) (l2 : List Nat) : ∀ (l1 : List Nat) (e : Env) (s : St), A.sub s → (∃ n, ∀ i, n ≤ i → s i = none) → Off ops o l1 →
    (∀ x ∈ l1, ∀ ox, ops[x]? = some ox → (kindOf (kd x) ox.op = .pure ∨ kindOf (kd x) ox.op = .steady) ∨ (kindOf (kd x) ox.op = .read ∧ kindOf (kd i) o.op = .grow) ∨ (alc ox.op = true ∧ alc o.op = true)) →
    pwD P A ops kd N (l1 ++ i :: l2) e s K Kp → stepD P A ops kd N i e s (fun e s => pwD P A ops kd N (l1 ++ l2) e s K Kp) Kp
  | [], e, s, _, _, _, _, h => h
  | x :: l1, e, s, hAs, hF, hoff, hpure, h => by
    simp only [List.cons_append, pwD] at h
    obtain ⟨ox, hox⟩ := step_some h
    have hap := hoff x List.mem_cons_self ox hox
    have ih := fun e s hAs hF => bubble_eff hKp ho l2 l1 e s hAs hF (fun y hy => hoff y (List.mem_cons_of_mem _ hy)) (fun y hy => hpure y (List.mem_cons_of_mem _ hy))
    have main : ((kindOf (kd x) ox.op = .pure ∨ kindOf (kd x) ox.op = .steady) ∨ (kindOf (kd x) ox.op = .read ∧ kindOf (kd i) o.op = .grow)) → stepD P A ops kd N i e s (fun e s => pwD P A ops kd N (x :: l1 ++ l2) e s K Kp) Kp := fun hkx => by
      have hdet : (kindOf (kd x) ox.op).det = true := by rcases hkx with (h | h) | ⟨h, _⟩ <;> rw [h] <;> rfl
      obtain ⟨hdx, v, hv, h⟩ := (stepD_det hox hdet).1 h
      have h2 := ih _ _ hAs hF h
      refine stepD_congr ho (apart_looks hap v) (fun u s' hsub hAA hK => ?_) (fun c s' hc => hKp _ _ _ _ hc) h2
      simp only [List.cons_append, pwD]
      refine (stepD_det hox hdet).2 ⟨hdx, v, ?_, ?_⟩
      · have hv' := valD_congr (fun t ht => (apart_looks (e := e) (apart_symm hap) u t ht).symm) hv
        rcases hkx with (hk | hk) | ⟨hk, hg⟩
        · rw [hk] at hv' ⊢
          exact valD_pure hv'
        · rw [hk] at hv' ⊢
          exact valD_steady hv'
        · rw [hk] at hv' ⊢
          exact valD_read (hsub hg) hk hv'
      · rw [← apart_put hap v u]
        exact hK
    rcases hpure x List.mem_cons_self ox hox with hk | hk | ⟨hx, hi⟩
    · exact main (.inl hk)
    · exact main (.inr hk)
    · obtain ⟨n, hn⟩ := hF
      refine swap_alc hox ho hx hi hap ⟨n, hn n (Nat.le_refl _)⟩ ?_
      obtain ⟨dx, out, o1, o2⟩ := (stepD_alc hox hx).1 h
      refine (stepD_alc hox hx).2 ⟨dx, out, o1, ?_⟩
      cases out with
      | none => exact ih _ _ hAs ⟨n, hn⟩ o2
      | some q =>
        obtain ⟨ty, m, cs⟩ := q
        intro j hj
        refine ih _ _ (fun a b hb => sub_new hj a b (hAs a b hb)) ⟨max n (j + 1), fun i hi => ?_⟩ (o2 j hj)
        rw [St.upd_ne _ _ (by omega)]
        exact hn i (by omega)
/-! ### The order that is told -/
def deps (ops : Array Oper) (i : Nat) : List Nat := match ops[i]? with
  | some o => (o.after.toList.filter (Region.binds .any)).map (·.on)
  | none => []
def ancs (ops : Array Oper) : List (List Nat) := (List.range ops.size).foldl (fun acc i => acc ++ [(deps ops i ++ (deps ops i).flatMap fun y => acc.getD y []).eraseDups]) []
/-- x may come behind i though it is told before it. -/
def swp (ops : Array Oper) (kd : Nat → Nat) (x i : Nat) : Bool := match ops[x]?, ops[i]? with
  | some ox, some oi => ox.apart ops oi && (decide (kindOf (kd x) ox.op = .pure) || decide (kindOf (kd x) ox.op = .steady) || ((kindOf (kd x) ox.op).det && (kindOf (kd i) oi.op).det) || (decide (kindOf (kd x) ox.op = .read) && decide (kindOf (kd i) oi.op = .grow)) || (alc ox.op && alc oi.op))
  | _, _ => false
/-- An order in which what has no effect comes as early as it can. -/
def planGo (ops : Array Oper) (kd : Nat → Nat) : Nat → List Nat → List Nat
  | 0, _ => []
  | n + 1, done =>
    let rs := (List.range ops.size).filter fun i => !done.contains i && (deps ops i).all fun y => done.contains y
    match (rs.find? fun i => (ops[i]?).any fun o => (kindOf (kd i) o.op).det) <|> rs.head? with
    | some i => i :: planGo ops kd n (i :: done)
    | none => []
def plan (ops : Array Oper) (kd : Nat → Nat) : List Nat := planGo ops kd ops.size []
def chk (ops : Array Oper) (kd : Nat → Nat) (p : List Nat) (A : List (List Nat)) : Bool :=
  decide (p.length = ops.size) && (List.range ops.size).all (fun i => p.contains i) && p.all (fun i => decide (i < ops.size)) && decide p.Nodup && p.all (fun x => (deps ops x).all fun y => decide (y < ops.size) && decide (y ≠ x)) &&
  decide (p.Pairwise fun x i => i ∉ deps ops x) && p.all (fun i => (A.getD i []).all fun x => (deps ops i).contains x || (deps ops i).any fun y => (A.getD y []).contains x) &&
  decide (p.Pairwise fun x i => (A.getD i []).contains x = true ∨ swp ops kd x i = true)
end
end Go.Pv

/- A logic over plain values: regions that draw their order, by a plan. -/
namespace Go.Pv
set_option linter.unusedVariables false
set_option linter.unusedSimpArgs false
section
variable {P : Program} {A : St} {w : World} {g : G} {s : St} {N : Nat} {e e' : Env} {a : Act} {ops : Array Oper} {kd : Nat → Nat}
theorem any_sound {B : Nat} {p : List Nat} {An : List (List Nat)} {Q : Exit → Env → St → Prop} (hQ : ∀ c e e' s, Q (.panic c) e s → Q (.panic c) e' s) (g0 : G) (w0 : World)
    (hdeps : ∀ x, x < ops.size → ∀ y ∈ deps ops x, y < ops.size ∧ y ≠ x) (hA : ∀ i, i < ops.size → ∀ x ∈ An.getD i [], x ∈ deps ops i ∨ ∃ y ∈ deps ops i, x ∈ An.getD y []) :
    ∀ (n : Nat) (l : List Nat) (L : Array Bool) (e : Env) (s : St) (g : G) (a : Act) (w : World), l.length = n → l.Nodup → (∀ i ∈ l, i < ops.size) → l.Pairwise (fun x i => i ∉ deps ops x) → l.Pairwise (fun x i => x ∈ An.getD i [] ∨ swp ops kd x i = true) →
      L.size = ops.size → (∀ j, j < ops.size → (L.getD j true = false ↔ j ∈ l)) → (∀ i, i < ops.size → i ∉ l → ∀ x ∈ An.getD i [], x ∉ l) →
      LE g0 w0 g w → A.sub s → Holds g s w → ER w g N e a → DK B g w a.defers → pwD P A ops kd N l e s (Q .normal) (fun c e s => Q (.panic c) e s) → wpAnyR P .any ops (PQ N B g0 w0 Q) n L a w := by
  intro n
  induction n with
  | zero =>
    intro l L e s g a w hn hnd hlt hp1 hp2 hL hLl hdc hle hA0 hH hE hd h
    have : l = [] := List.eq_nil_of_length_eq_zero hn
    subst this
    refine ⟨?_, e, s, g, hle, hH, hE, hd, h⟩
    apply List.eq_nil_iff_forall_not_mem.2
    intro j hj
    obtain ⟨h1, o, ho, _⟩ := mem_ready.1 hj
    have hjn := (Array.getElem?_eq_some_iff.1 ho).1
    exact absurd ((hLl j hjn).1 h1) (by simp)
  | succ n ih =>
    intro l L e s g a w hn hnd hlt hp1 hp2 hL hLl hdc hle hA0 hH hE hd h
    have getL : ∀ j, j < ops.size → L.getD j false = L.getD j true := fun j hj => by
      rw [Array.getD_eq_getD_getElem?, Array.getD_eq_getD_getElem?, Array.getElem?_eq_getElem (by omega)]; rfl
    refine ⟨fun hr => ?_, fun i hi => ?_⟩
    · -- the first of them is ready
      exfalso
      cases l with
      | nil => simp at hn
      | cons x l =>
        have hx := hlt x List.mem_cons_self
        have : x ∈ Region.ready .any ops L := mem_ready.2 ⟨(hLl x hx).2 List.mem_cons_self, ops[x], Array.getElem?_eq_getElem hx, fun ed hed hb => by
          have hmem : ed.on ∈ deps ops x := by
            unfold deps
            rw [Array.getElem?_eq_getElem hx]
            exact List.mem_map.2 ⟨ed, List.mem_filter.2 ⟨Array.mem_toList_iff.2 hed, hb⟩, rfl⟩
          obtain ⟨h1, h2⟩ := hdeps x hx _ hmem
          rw [getL _ h1]
          by_cases hc : L.getD ed.on true = false
          · have := (hLl _ h1).1 hc
            rcases List.mem_cons.1 this with h3 | h3
            · exact absurd h3 h2
            · exact absurd hmem ((List.pairwise_cons.1 hp1).1 _ h3)
          · simpa using hc⟩
        rw [hr] at this
        cases this
    · obtain ⟨h1, o, ho, hrd⟩ := mem_ready.1 hi
      have hin := (Array.getElem?_eq_some_iff.1 ho).1
      have hil := (hLl i hin).1 h1
      obtain ⟨l1, l2, rfl⟩ := List.append_of_mem hil
      -- what is told before i and is still to come may come behind it
      have hdl : ∀ y ∈ deps ops i, y ∉ l1 ++ i :: l2 := by
        intro y hy hm
        have hy' : ∃ ed ∈ o.after, Region.binds .any ed = true ∧ ed.on = y := by
          unfold deps at hy
          rw [ho] at hy
          obtain ⟨ed, h1, h2⟩ := List.mem_map.1 hy
          obtain ⟨h3, h4⟩ := List.mem_filter.1 h1
          exact ⟨ed, Array.mem_toList_iff.1 h3, h4, h2⟩
        obtain ⟨ed, hed, hb, rfl⟩ := hy'
        have hyn := (hdeps i hin _ hy).1
        have := hrd ed hed hb
        rw [getL _ hyn, (hLl _ hyn).2 hm] at this
        cases this
      have hAl : ∀ x ∈ An.getD i [], x ∉ l1 ++ i :: l2 := by
        intro x hx hm
        rcases hA i hin x hx with h3 | ⟨y, hy, hxy⟩
        · exact hdl x h3 hm
        · exact hdc y (hdeps i hin y hy).1 (hdl y hy) x hxy hm
      have hsw : ∀ x ∈ l1, swp ops kd x i = true := by
        intro x hx
        have := (List.pairwise_append.1 hp2).2.2 x hx i List.mem_cons_self
        exact this.resolve_left (fun hm => hAl x hm (List.mem_append_left _ hx))
      have hoff : Off ops o l1 := by
        intro x hx ox hox
        have := hsw x hx
        unfold swp at this
        rw [hox, ho] at this
        simp only [Bool.and_eq_true] at this
        exact this.1
      have hkinds : ∀ x ∈ l1, ∀ ox, ops[x]? = some ox → ((kindOf (kd x) ox.op = .pure ∨ kindOf (kd x) ox.op = .steady) ∨ ((kindOf (kd x) ox.op).det = true ∧ (kindOf (kd i) o.op).det = true)) ∨ (kindOf (kd x) ox.op = .read ∧ kindOf (kd i) o.op = .grow) ∨ (alc ox.op = true ∧ alc o.op = true) := by
        intro x hx ox hox
        have := hsw x hx
        unfold swp at this
        rw [hox, ho] at this
        simp only [Bool.and_eq_true, Bool.or_eq_true, decide_eq_true_eq] at this
        rcases this.2 with ((h | h) | h) | h
        · exact .inl (.inl h)
        · exact .inl (.inr h)
        · exact .inr (.inl h)
        · exact .inr (.inr h)
      have hstep : stepD P A ops kd N i e s (fun e s => pwD P A ops kd N (l1 ++ l2) e s (Q .normal) (fun c e s => Q (.panic c) e s)) (fun c e s => Q (.panic c) e s) := by
        by_cases hk : (kindOf (kd i) o.op).det = true
        · exact (stepD_det ho hk).2 (bubble_det ho hk l2 l1 e hoff (fun x hx ox hox => by
            rcases hkinds x hx ox hox with (h | h) | h | h
            · rcases h with h | h <;> (rw [h]; rfl)
            · exact h.1
            · rw [h.1]; rfl
            · rw [alc_kind h.2] at hk; cases hk) h)
        · exact bubble_eff hQ ho l2 l1 e s hA0 ⟨g.n, fun i hi => hH.fresh i hi⟩ hoff (fun x hx ox hox => by
            rcases hkinds x hx ox hox with (h | h) | h | h
            · exact .inl h
            · exact absurd h.2 hk
            · exact .inr (.inl h)
            · exact .inr (.inr h)) h
      have hsub : (l1 ++ l2).Sublist (l1 ++ i :: l2) := (List.append_sublist_append_left l1).2 (List.sublist_cons_self i l2)
      have hini : i ∉ l1 ++ l2 := by
        intro hm
        rcases List.mem_append.1 hm with h | h
        · exact absurd rfl ((List.nodup_append.1 hnd).2.2 i h i List.mem_cons_self)
        · exact (List.nodup_cons.1 (List.nodup_append.1 hnd).2.1).1 h
      refine stepD_sound hstep hA0 hH hE hd (fun e' s' g' a' w' k1 k2 k3 k4 kA k5 => ?_) (fun c s' g' w' k1 k2 k3 => ⟨e, s', g', hle.trans k1, k2, hE.le k1.toLEv, hd.le k1, k3⟩)
      refine ih (l1 ++ l2) (L.setIfInBounds i true) e' s' g' a' w' (by simp at hn ⊢; omega) (hnd.sublist hsub) (fun j hj => hlt j (hsub.subset hj)) (hp1.sublist hsub) (hp2.sublist hsub) (by simp [hL]) (fun j hj => ?_) (fun j hj hjl x hx hm => ?_) (hle.trans k1) kA k2 k3 k4 k5
      · by_cases hji : i = j
        · subst hji
          constructor
          · intro hf
            rw [Array.getD_eq_getD_getElem?, Array.getElem?_setIfInBounds, if_pos rfl, if_pos (by omega)] at hf
            cases hf
          · intro hm; exact absurd hm hini
        · rw [getD_set_ne true hji, hLl j hj]
          constructor
          · intro hm
            rcases List.mem_append.1 hm with h | h
            · exact List.mem_append_left _ h
            · rcases List.mem_cons.1 h with h | h
              · exact absurd h.symm hji
              · exact List.mem_append_right _ h
          · intro hm; exact hsub.subset hm
      · by_cases hji : j = i
        · subst hji; exact hAl x hx (hsub.subset hm)
        · refine hdc j hj (fun hjm => hjl ?_) x hx (hsub.subset hm)
          rcases List.mem_append.1 hjm with h | h
          · exact List.mem_append_left _ h
          · rcases List.mem_cons.1 h with h | h
            · exact absurd h hji
            · exact List.mem_append_right _ h
/-- A region that draws its order, told by a plan. -/
theorem PW.draw {id : Nat} {p : List Nat} {An : List (List Nat)} {Q : Exit → Env → St → Prop} (hm : P.follows .mixedOrders = true) (hQ : ∀ c e e' s, Q (.panic c) e s → Q (.panic c) e' s) (hc : chk ops kd p An = true) (hA : A.sub s)
    (h : pwD P A ops kd N p e s (Q .normal) (fun c e s => Q (.panic c) e s)) : PW P N (.region id ops true) e s Q := by
  unfold chk at hc
  simp only [Bool.and_eq_true, decide_eq_true_eq, List.all_eq_true] at hc
  obtain ⟨⟨⟨⟨⟨⟨⟨c1, c8⟩, c2⟩, c3⟩, c4⟩, c5⟩, c6⟩, c7⟩ := hc
  have hall : ∀ i, i < ops.size → i ∈ p := fun i hi => by simpa using c8 i (List.mem_range.2 hi)
  intro r B g a w hr hH hE hd
  refine wpR_draw hm ?_
  have hH' : Holds g s { w with drawn := w.drawn + 1 } := hH.heap rfl
  have hle : LE g w g { w with drawn := w.drawn + 1 } := ⟨LEv.same rfl, rfl, rfl, rfl, Nat.le_refl _⟩
  refine any_sound (An := An) (p := p) hQ g w (fun x hx y hy => c4 x (hall x hx) y hy) (fun i hi x hx => ?_) ops.size p _ e s g a _ c1 c3 c2 c5 ?_ (by simp) (fun j hj => ?_) (fun i hi hni => absurd (hall i hi) hni) hle hA hH' (hE.le hle.toLEv) (hd.le hle) h
  · have := c6 i (hall i hi) x hx
    rw [Bool.or_eq_true, List.any_eq_true] at this
    rcases this with h | ⟨y, hy, h⟩
    · exact .inl (by simpa using h)
    · exact .inr ⟨y, hy, by simpa using h⟩
  · exact c7.imp fun h => h.imp (fun h => by simpa using h) (fun h => h)
  · constructor
    · intro _; exact hall j hj
    · intro _
      rw [Array.getD_eq_getD_getElem?, Array.getElem?_replicate, if_pos hj]; rfl
end
end Go.Pv

/- A logic over plain values: how simp opens it. -/
namespace Go.Pv
set_option linter.unusedVariables false
theorem nr {α : Sort _} {a b : α} (h : a = b) : a = b := h
/-- A mark that keeps simp out of what it stands behind. -/
def Tag {α : Sort _} (a : α) : Type := Unit
def tag {α : Sort _} {a : α} : Tag a := ()
def PCallsL (P : Program) (f : FuncId) (args : List PV) (s : St) (R : Res → St → Prop) (t : Tag R) : Prop := PCalls P f args s R
def PYldL (P : Program) (i : Nat) (args : List PV) (s : St) (K : PV → St → Prop) (t : Tag K) : Prop := PYld P i args s K
def PWL (P : Program) (N : Nat) (c : Code) (t : Tag c) (e : Env) (s : St) (Q : Exit → Env → St → Prop) (t2 : Tag Q) : Prop := PW P N c e s Q
set_option linter.unusedSimpArgs false
section
variable {P : Program} {N : Nat} {e : Env} {s : St} {Q : Exit → Env → St → Prop} {K : PV → St → Prop} {Kp : List PanicEntry → St → Prop}
/-- No abstract block of this number. -/
def Fresh (s : St) (i : Nat) : Prop := s i = none
@[simp] theorem fresh_upd {j i : Nat} {b : Blk} : Fresh (s.upd j (some b)) i ↔ (i ≠ j ∧ j ≠ i ∧ Fresh s i) := by
  unfold Fresh St.upd
  by_cases h : i = j
  · subst h; simp
  · simp [h, Ne.symm h]
@[simp] theorem fresh_upd_none {j i : Nat} : Fresh (s.upd j none) i ↔ (i = j ∨ Fresh s i) := by
  unfold Fresh St.upd
  by_cases h : i = j
  · subst h; simp
  · simp [h]
theorem upd_at (s : St) (i : Nat) (b : Option Blk) (j : Nat) : (s.upd i b) j = if j = i then b else s j := rfl
attribute [simp] upd_at
@[simp] theorem put_some (e : Env) (d : Tmp) (v : PV) (t : Tmp) : (e.put (some d) v) t = if t = d then v else e t := by
  have h : (e.put (some d) v) t = if t = d then v else e t := nr rfl
  by_cases ht : t = d <;> exact h
@[simp] theorem put_none (e : Env) (v : PV) : e.put none v = e := nr rfl
@[simp] theorem ev_tmp (e : Env) (t : Tmp) : e.ev (.tmp t) = e t := by
  have h : e.ev (.tmp t) = e t := nr rfl
  by_cases ht : t = 0 <;> exact h
@[simp] theorem ev_const (e : Env) (v : Value) : e.ev (.const v) = ofVal v := by
  have h : e.ev (.const v) = ofVal v := nr rfl
  by_cases ht : (0 : Nat) = 1 <;> exact h
@[simp] theorem ev_global (e : Env) (k : Nat) : e.ev (.global k) = if k < 64 then .pt k 0 0 else .junk := nr rfl
@[simp] theorem ev_func (e : Env) (f : FuncId) : e.ev (.func f) = .fn f [] [] := nr rfl
@[simp] theorem start_at (args : List PV) (t : Tmp) : (Env.start args) t = args.getD t .junk := nr rfl
@[simp] theorem ofVal_int (k : IntKind) (n : Int) : ofVal (.int k n) = .lit (.int k n) := nr rfl
@[simp] theorem ofVal_bool (b : Bool) : ofVal (.bool b) = .lit (.bool b) := nr rfl
@[simp] theorem ofVal_str (b : ByteArray) : ofVal (.string b) = .lit (.string b) := nr rfl
@[simp] theorem ofVal_nil : ofVal (.slice none 0 0) = .vec .nil [] := nr rfl
@[simp] theorem ofVal_ptr : ofVal (.pointer none) = .lit (.pointer none) := nr rfl
@[simp] theorem ofVal_map : ofVal (.map none) = .lit (.map none) := nr rfl
@[simp] theorem ofVal_nilIface : ofVal .nilIface = .lit .nilIface := nr rfl
@[simp] theorem ofVal_nilFunc : ofVal .nilFunc = .lit .nilFunc := nr rfl
@[simp] theorem ofVal_agg (cs : List Value) : ofVal (.agg cs.toArray) = if cs.all Value.oneCell' then .agg (cs.map ofCell) else .junk := by simp [ofVal]
@[simp] theorem ofCell_int (k : IntKind) (n : Int) : ofCell (.int k n) = .lit (.int k n) := nr rfl
@[simp] theorem ofCell_bool (b : Bool) : ofCell (.bool b) = .lit (.bool b) := nr rfl
@[simp] theorem ofCell_str (b : ByteArray) : ofCell (.string b) = .lit (.string b) := nr rfl
@[simp] theorem ofCell_nil : ofCell (.slice none 0 0) = .vec .nil [] := nr rfl
@[simp] theorem ofCell_ptr : ofCell (.pointer none) = .lit (.pointer none) := nr rfl
@[simp] theorem ofCell_map : ofCell (.map none) = .lit (.map none) := nr rfl
@[simp] theorem ofCell_nilFunc : ofCell .nilFunc = .lit .nilFunc := nr rfl
attribute [simp] Value.oneCell' Value.cells
theorem two_ways (t w : Bool) (A B : Prop) : ((t = w → A) ∧ (t = !w → B)) = if t = w then A else B := by
  cases t <;> cases w <;> simp
theorem two_ways' (t : Bool) (A B : Prop) : ((t = true → A) ∧ (t = false → B)) = if t = true then A else B := by
  cases t <;> simp
/-! #### code -/
@[simp ↓] theorem pwC_skip : pwC P N .skip e s Q = Q .normal e s := nr rfl
@[simp ↓] theorem pwC_seq (x y : Code) : pwC P N (.seq x y) e s Q = pwC P N x e s (thenQ (fun e s => pwC P N y e s Q) Q) := nr rfl
@[simp ↓] theorem pwC_cond (c : Operand) (x y : Code) : pwC P N (.cond c x y) e s Q = (match e.ev c with
    | .lit (.bool t) => if t = true then pwC P N x e s Q else pwC P N y e s Q
    | _ => False) := by
  simp only [← two_ways']; rfl
@[simp ↓] theorem pwC_block (id : Nat) (c : Code) : pwC P N (.block id c) e s Q = pwC P N c e s (inB id Q) := nr rfl
@[simp ↓] theorem pwC_exit (id : Nat) : pwC P N (.exit id) e s Q = Q (.exit id) e s := nr rfl
@[simp ↓] theorem pwC_ret : pwC P N .ret e s Q = Q .ret e s := nr rfl
def dstOf : List Oper → Nat → Option Tmp
  | [], _ => none
  | o :: _, 0 => o.dst
  | _ :: l, n + 1 => dstOf l n
theorem dstOf_eq : ∀ (l : List Oper), (fun j => (l[j]?).bind (·.dst)) = dstOf l
  | [] => by funext j; simp [dstOf]
  | o :: l => by
    funext j
    cases j with
    | zero => rfl
    | succ j => have := congrFun (dstOf_eq l) j; simpa [dstOf] using this
@[simp ↓] theorem dstOf_zero (d : Option Tmp) (op : Go.Op) (ty : TypeId) (pos : String) (after : Array Edge) (g : Option (Nat × Bool)) (l : List Oper) : dstOf (⟨d, op, ty, pos, after, g⟩ :: l) 0 = d := nr rfl
@[simp ↓] theorem dstOf_succ (o : Oper) (l : List Oper) (n : Nat) : dstOf (o :: l) (n + 1) = dstOf l n := nr rfl
/-- Where each operation writes, as a list: made plain once. -/
def dsts : List Oper → List (Option Tmp)
  | [] => []
  | o :: l => o.dst :: dsts l
def nthD : List (Option Tmp) → Nat → Option Tmp
  | [], _ => none
  | d :: _, 0 => d
  | _ :: l, n + 1 => nthD l n
theorem nthD_eq : ∀ (l : List Oper), nthD (dsts l) = dstOf l
  | [] => rfl
  | o :: l => by
    funext j
    cases j with
    | zero => rfl
    | succ j => exact congrFun (nthD_eq l) j
@[simp ↓] theorem dsts_nil : dsts [] = [] := nr rfl
@[simp ↓] theorem dsts_cons (d : Option Tmp) (op : Go.Op) (ty : TypeId) (pos : String) (after : Array Edge) (g : Option (Nat × Bool)) (l : List Oper) : dsts (⟨d, op, ty, pos, after, g⟩ :: l) = d :: dsts l := nr rfl
@[simp ↓] theorem nthD_zero (d : Option Tmp) (l : List (Option Tmp)) : nthD (d :: l) 0 = d := nr rfl
@[simp ↓] theorem nthD_succ (d : Option Tmp) (l : List (Option Tmp)) (n : Nat) : nthD (d :: l) (n + 1) = nthD l n := nr rfl
def fcd (ds : List (Option Tmp)) : Option (List (Option Tmp)) := some ds
@[simp] theorem fcd_def (ds : List (Option Tmp)) : fcd ds = some ds := nr rfl
@[simp ↓] theorem pwC_region (id : Nat) (ops : List Oper) : pwC P N (.region id ops.toArray false) e s Q = (match fcd (dsts ops) with
    | some ds => pws P (nthD ds) N ops e s (Q .normal) (fun c e s => Q (.panic c) e s)
    | none => False) := by
  simp only [fcd, nthD_eq]
  rw [← dstOf_eq]
  simp [pwC]
@[simp ↓] theorem pwC_loop (c : Code) : pwC P N (.loop c) e s Q = PWL P N (.loop c) tag e s Q tag := nr rfl
@[simp ↓] theorem pwC_range (f : Operand) (ps : Array Tmp) (x y : Code) : pwC P N (.rangeFunc f ps x y) e s Q = PWL P N (.rangeFunc f ps x y) tag e s Q tag := nr rfl
@[simp ↓] theorem pwC_draw (id : Nat) (ops : Array Oper) : pwC P N (.region id ops true) e s Q = PWL P N (.region id ops true) tag e s Q tag := nr rfl
@[simp ↓] theorem thenQ_normal {K : Env → St → Prop} : thenQ K Q .normal e s = K e s := nr rfl
@[simp ↓] theorem thenQ_exit {K : Env → St → Prop} (i : Nat) : thenQ K Q (.exit i) e s = Q (.exit i) e s := nr rfl
@[simp ↓] theorem thenQ_ret {K : Env → St → Prop} : thenQ K Q .ret e s = Q .ret e s := nr rfl
@[simp ↓] theorem thenQ_panic {K : Env → St → Prop} (c : List PanicEntry) : thenQ K Q (.panic c) e s = Q (.panic c) e s := nr rfl
@[simp ↓] theorem inB_normal (i : Nat) : inB i Q .normal e s = Q .normal e s := nr rfl
@[simp ↓] theorem inB_exit (i j : Nat) : inB i Q (.exit j) e s = if j = i then Q .normal e s else Q (.exit j) e s := nr rfl
@[simp ↓] theorem inB_ret (i : Nat) : inB i Q .ret e s = Q .ret e s := nr rfl
@[simp ↓] theorem inB_panic (i : Nat) (c : List PanicEntry) : inB i Q (.panic c) e s = Q (.panic c) e s := nr rfl
def dok (N : Nat) : Option Tmp → Bool
  | none => true
  | some t => decide (t < N)
@[simp] theorem dok_none : dok N none = true := nr rfl
@[simp] theorem dok_some (t : Tmp) : dok N (some t) = decide (t < N) := nr rfl
theorem dok_iff {d : Option Tmp} : dok N d = true ↔ ∀ t, d = some t → t < N := by cases d <;> simp [dok]
section
variable {dst : Nat → Option Tmp} {os : List Oper} {KE : Env → St → Prop} {KPE : List PanicEntry → Env → St → Prop}
@[simp ↓] theorem pws_nil : pws P dst N [] e s KE KPE = KE e s := nr rfl
@[simp ↓] theorem pws_cons (d : Option Tmp) (op : Go.Op) (ty : TypeId) (pos : String) (after : Array Edge) :
    pws P dst N (⟨d, op, ty, pos, after, none⟩ :: os) e s KE KPE = (dok N d = true ∧ opw P e s (fun v s' => pws P dst N os (e.put d v) s' KE KPE) (fun c s' => KPE c e s') op) := by
  simp only [pws, dok_iff]
@[simp ↓] theorem pws_guard (d : Option Tmp) (op : Go.Op) (ty : TypeId) (pos : String) (after : Array Edge) (j : Nat) (want : Bool) :
    pws P dst N (⟨d, op, ty, pos, after, some (j, want)⟩ :: os) e s KE KPE = (dok N d = true ∧ okv (dst j) fun d' => (match e d' with
      | .lit (.bool t) => if t = want then opw P e s (fun v s' => pws P dst N os (e.put d v) s' KE KPE) (fun c s' => KPE c e s') op else pws P dst N os (e.put d (.tup [])) s KE KPE
      | .tup [] => pws P dst N os (e.put d (.tup [])) s KE KPE
      | _ => False)) := by
  simp only [pws, dok_iff, two_ways]
  rfl
end
@[simp ↓] theorem okv_def {α : Type} (x : Option α) (K : α → Prop) : okv x K = (match x with
  | some v => K v
  | none => False) := nr rfl
/-! #### operations -/
def fcv (x : PV) (s : St) : Option (PV × St) := some (x, s)
@[simp] theorem fcv_def (x : PV) (s : St) : fcv x s = some (x, s) := nr rfl
@[simp] theorem empty_sub : St.empty.sub s := fun i b h => by cases h
@[simp ↓] theorem opw_move (x : Operand) : opw P e s K Kp (.move x) = (match fcv (e.ev x) s with
    | some (v, s) => K v s
    | none => False) := nr rfl
@[simp ↓] theorem opw_assign (x : Operand) : opw P e s K Kp (.assign x) = (match fcv (e.ev x) s with
    | some (v, s) => K v s
    | none => False) := nr rfl
@[simp ↓] theorem opw_pick (c a b : Operand) : opw P e s K Kp (.pick c a b) = (match e.ev c with
    | .lit (.bool t) => if t = true then (match fcv (e.ev a) s with
      | some (v, s) => K v s
      | none => False) else (match fcv (e.ev b) s with
      | some (v, s) => K v s
      | none => False)
    | _ => False) := by
  simp only [← two_ways']; rfl
@[simp ↓] theorem opw_alloc (t : TypeId) : opw P e s K Kp (.alloc t) = okv (tzero P t) fun z => (ofVal z).solid = true ∧ ∀ i, Fresh s i → K (.pt i 0 0) (s.upd i (some (.row t (ofVal z).width [(ofVal z).cells]))) := nr rfl
@[simp ↓] theorem opw_box (t : TypeId) (x : Operand) : opw P e s K Kp (.box t x) = ((e.ev x).solid = true ∧ ∀ i, Fresh s i → K (.pt i 0 0) (s.upd i (some (.row t (e.ev x).width [(e.ev x).cells])))) := nr rfl
/-- What is looked at before it is gone on: simp makes these plain first. -/
def fcb (x y : PV) (s : St) : Option (PV × PV × St) := some (x, y, s)
def fcc (f : PV) (args : List PV) (s : St) : Option (PV × List PV × St) := some (f, args, s)
@[simp] theorem fcb_def (x y : PV) (s : St) : fcb x y s = some (x, y, s) := nr rfl
@[simp] theorem fcc_def (f : PV) (args : List PV) (s : St) : fcc f args s = some (f, args, s) := nr rfl
@[simp ↓] theorem opw_store (t : TypeId) (a x : Operand) : opw P e s K Kp (.store t a x) = (match fcb (e.ev a) (e.ev x) s with
    | some (a, x, s) => storeW P s t a x (K .junk)
    | none => False) := nr rfl
@[simp ↓] theorem opw_build (t : TypeId) (parts : List (Nat × Operand)) : opw P e s K Kp (.build t parts.toArray) = okv (bld P e t parts) fun v => K v s := by simp [opw]
@[simp ↓] theorem opw_buildSlice (t : TypeId) (len : Nat) (parts : List (Nat × Operand)) : opw P e s K Kp (.buildSlice t len parts.toArray) = okv (mkSlice P e t len parts) fun v => K v s := by simp [opw]
@[simp ↓] theorem opw_load (t : TypeId) (a : Operand) : opw P e s K Kp (.load t a) = okv ((tsz P t).bind fun n => (aggT P t).bind fun ag => (cellsAt s (e.ev a) n).bind fun cs => pack ag cs) fun v => K v s := nr rfl
@[simp ↓] theorem opw_nilCheck (x : Operand) : opw P e s K Kp (.nilCheck x) = okv (match e.ev x with
    | .pt i j f => some (.pt i j f)
    | .ep cs => some (.ep cs)
    | .fn f a b => some (.fn f a b)
    | _ => none) fun v => K v s := nr rfl
@[simp ↓] theorem opw_bin (op : BinOp) (t t2 : TypeId) (x y : Operand) : opw P e s K Kp (.binOp op t x y t2) = (match fcb (e.ev x) (e.ev y) s with
    | some (x, y, s) => binW P op t x y fun v => K v s
    | none => False) := nr rfl
@[simp ↓] theorem binW_lit (op : BinOp) (t : TypeId) (a b : Value) (K : PV → Prop) : binW P op t (.lit a) (.lit b) K = okv (bin P op t (.lit a) (.lit b)) K := nr rfl
@[simp ↓] theorem binW_agg (op : BinOp) (t : TypeId) (a b : List PV) (K : PV → Prop) : binW P op t (.agg a) (.agg b) K = okv (bin P op t (.agg a) (.agg b)) K := nr rfl
@[simp ↓] theorem binW_nil_eql (t : TypeId) (k : VK) (xs : List PV) (K : PV → Prop) : binW P .eql t (.vec k xs) (.vec .nil []) K = ((sliceT P t).isSome = true ∧ ∀ t : Bool, (k = .nil → t = true) → (xs ≠ [] → t = false) → K (.lit (.bool t))) := nr rfl
@[simp ↓] theorem binW_nil_neq (t : TypeId) (k : VK) (xs : List PV) (K : PV → Prop) : binW P .neq t (.vec k xs) (.vec .nil []) K = ((sliceT P t).isSome = true ∧ ∀ t : Bool, (k = .nil → t = true) → (xs ≠ [] → t = false) → K (.lit (.bool !t))) := nr rfl
@[simp ↓] theorem opw_slice3 (t : TypeId) (x hi mx : Operand) : opw P e s K Kp (.slice t x none (some hi) (some mx)) = okv ((sliceT P t).bind fun el => (tsz P el).bind fun _ => (match e.ev x, e.ev hi, e.ev mx with
    | .vec _ _, .lit (.int _ h), .lit (.int _ m) => if h = 0 ∧ m = 0 then some (.vec .tight []) else none
    | _, _, _ => none)) fun v => K v s := nr rfl
@[simp ↓] theorem opw_un (op : UnOp) (t : TypeId) (x : Operand) : opw P e s K Kp (.unOp op t x) = okv (un op (e.ev x)) fun v => K v s := nr rfl
/-- A conversion, its operand plain. -/
def cvtW (P : Program) (src dst : TypeId) (x : PV) (s : St) (K : PV → Prop) : Prop := match x with
  | .sl i sz off len => okv (convB P s src dst (.sl i sz off len)) K
  | .vec k xs => okv (convB P s src dst (.vec k xs)) K
  | .pt i j f => ptrCv P s src dst i j f ∧ K (.pt i j f)
  | x => okv (match x with
    | .lit (.int _ n) => (P.underlying src).bind fun _ => (intT P dst).map fun k => .lit (.int k (k.wrap n))
    | .lit (.string b) => (P.underlying src).bind fun _ => if isStrT P dst = true then some (.lit (.string b)) else none
    | _ => none) K
@[simp ↓] theorem opw_convert (src dst : TypeId) (x : Operand) : opw P e s K Kp (.convert src dst x) = (match fcv (e.ev x) s with
    | some (x, s) => cvtW P src dst x s fun v => K v s
    | none => False) := by
  simp only [opw, fcv, cvtW, qop]
  cases e.ev x <;> rfl
@[simp ↓] theorem cvtW_int (src dst : TypeId) (k : IntKind) (n : Int) (K : PV → Prop) : cvtW P src dst (.lit (.int k n)) s K = okv ((P.underlying src).bind fun _ => (intT P dst).map fun k => .lit (.int k (k.wrap n))) K := nr rfl
@[simp ↓] theorem cvtW_str (src dst : TypeId) (b : ByteArray) (K : PV → Prop) : cvtW P src dst (.lit (.string b)) s K = okv ((P.underlying src).bind fun _ => if isStrT P dst = true then some (.lit (.string b)) else none) K := nr rfl
@[simp ↓] theorem cvtW_sl (src dst : TypeId) (i sz off len : Nat) (K : PV → Prop) : cvtW P src dst (.sl i sz off len) s K = okv (convB P s src dst (.sl i sz off len)) K := nr rfl
@[simp ↓] theorem cvtW_pt (src dst : TypeId) (i j f : Nat) (K : PV → Prop) : cvtW P src dst (.pt i j f) s K = (ptrCv P s src dst i j f ∧ K (.pt i j f)) := nr rfl
@[simp] theorem ptrCv_def (src dst : TypeId) (i j f : Nat) : ptrCv P s src dst i j f = (match s i with
    | some (.row ty sz els) => j = 0 ∧ f = 0 ∧ els ≠ [] ∧ sz ≠ 0 ∧ cvT P src dst ty sz = true
    | _ => False) := nr rfl
@[simp ↓] theorem opw_cap (x : Operand) (t : TypeId) : opw P e s K Kp (.call ⟨.builtin .cap, #[x], #[t]⟩) = okv (match e.ev x with
    | .vec k xs => if k = .any then none else (sliceT P t).map fun _ => .lit (.int .i64 xs.length)
    | _ => none) fun v => K v s := nr rfl
@[simp ↓] theorem opw_uSliceData (x : Operand) (ts : Array TypeId) : opw P e s K Kp (.call ⟨.builtin .unsafeSliceData, #[x], ts⟩) = okv (match e.ev x with
    | .sl i sz off len => if len = 0 then none else some (.pt i off 0)
    | .vec .nil _ => some (.lit (.pointer none))
    | _ => none) fun v => K v s := nr rfl
@[simp ↓] theorem opw_uString (x n : Operand) (t t2 : TypeId) : opw P e s K Kp (.call ⟨.builtin .unsafeString, #[x, n], #[t, t2]⟩) = (match fcb (e.ev x) (e.ev n) s with
    | some (x, n, s) => ustrW P s t x n K
    | none => False) := nr rfl
@[simp ↓] theorem opw_copy (x y : Operand) (t t2 : TypeId) : opw P e s K Kp (.call ⟨.builtin .copy, #[x, y], #[t, t2]⟩) = (match fcb (e.ev x) (e.ev y) s with
    | some (x, y, s) => cpyW P s t x y K
    | none => False) := nr rfl
@[simp ↓] theorem ustrW_pt (t : TypeId) (i j f : Nat) (k : Int) : ustrW P s t (.pt i j f) (.lit (.int .i64 k)) K = (match s i with
    | some (.row ty sz els) => j = 0 ∧ f = 0 ∧ 0 < k ∧ k ≤ 9223372036854775807 ∧ k.toNat ≤ els.length ∧ bytePT P t = some ty ∧ okv (bytesOf (els.take k.toNat)) fun b => K (.lit (.string ⟨b.toArray⟩)) (s.upd i none)
    | _ => False) := nr rfl
@[simp ↓] theorem ustrW_nil (t : TypeId) (k : Int) : ustrW P s t (.lit (.pointer none)) (.lit (.int .i64 k)) K = (k = 0 ∧ K (.lit (.string ⟨#[]⟩)) s) := nr rfl
@[simp ↓] theorem cpyW_def (t : TypeId) (d x : PV) : cpyW P s t d x K = okv (sliceT P t) fun el => okv (tsz P el) fun n => okv (elemsOf s n x) fun ys => ys = [] ∧ d.isSlice = true ∧ K (.lit (.int .i64 0)) s := nr rfl
@[simp ↓] theorem cvtW_vec (src dst : TypeId) (k : VK) (xs : List PV) (K : PV → Prop) : cvtW P src dst (.vec k xs) s K = okv (convB P s src dst (.vec k xs)) K := nr rfl
@[simp ↓] theorem opw_makeMap (t : TypeId) : opw P e s K Kp (.makeMap t none) = (match mapT P t with
    | some _ => ∀ i, Fresh s i → K (.mp i) (s.upd i (some (.dict [])))
    | none => okv (imapT P t) fun x => ∀ i, Fresh s i → K (.mp i) (s.upd i (some (.idict x.1 [])))) := nr rfl
@[simp ↓] theorem opw_mapUpdate (t : TypeId) (m k v : Operand) : opw P e s K Kp (.mapUpdate t m k v) = (match fcb (e.ev m) (e.ev k) s, e.ev v with
    | some (m, k, s), v => mapW P s t m k v (K .junk)
    | none, _ => False) := nr rfl
@[simp ↓] theorem mapW_mp (t : TypeId) (i : Nat) (b : ByteArray) (v : PV) (K : St → Prop) : mapW P s t (.mp i) (.lit (.string b)) v K = (match s i with
    | some (.dict es) => (mapT P t).isSome = true ∧ K (s.upd i (some (.dict (dset es b v))))
    | _ => False) := nr rfl
@[simp ↓] theorem opw_lookup (t : TypeId) (x k : Operand) (c : Bool) : opw P e s K Kp (.lookup t x k c) = okv (lookV P s t (e.ev x) (e.ev k) c) fun v => K v s := nr rfl
@[simp] theorem lookV_mp (t : TypeId) (i : Nat) (b : ByteArray) (c : Bool) : lookV P s t (.mp i) (.lit (.string b)) c = (match s i with
    | some (.dict es) => lookR P t es b c
    | _ => none) := nr rfl
@[simp] theorem lookV_nil (t : TypeId) (b : ByteArray) (c : Bool) : lookV P s t (.lit (.map none)) (.lit (.string b)) c = lookR P t [] b c := nr rfl
@[simp] theorem lookR_two (t : TypeId) (es : List (ByteArray × PV)) (b : ByteArray) : lookR P t es b true = (mapT P t).bind fun q => (tzero P q.2).bind fun z => some (match dget es b with
    | some v => .tup [v, .lit (.bool true)]
    | none => .tup [ofVal z, .lit (.bool false)]) := nr rfl
@[simp] theorem lookR_one (t : TypeId) (es : List (ByteArray × PV)) (b : ByteArray) : lookR P t es b false = (mapT P t).bind fun q => (tzero P q.2).bind fun z => some (match dget es b with
    | some v => v
    | none => ofVal z) := nr rfl
@[simp] theorem dget_nil (b : ByteArray) : dget [] b = none := nr rfl
@[simp ↓] theorem opw_makeFunc (f : FuncId) (a b : List Operand) : opw P e s K Kp (.makeFunc (.func f) a.toArray b.toArray) = K (.fn f (a.map e.ev) (b.map e.ev)) s := by simp [opw, qop, okv]
@[simp ↓] theorem opw_slice (t : TypeId) (x : Operand) (lo hi : Option Operand) : opw P e s K Kp (.slice t x lo hi none) = okv (slc P t (e.ev x) (lo.map e.ev) (hi.map e.ev)) fun v => K v s := nr rfl
@[simp ↓] theorem opw_fieldAddr (t : TypeId) (x : Operand) (f : Nat) : opw P e s K Kp (.fieldAddr t x f) = okv ((fld P t f).bind fun (o, ft) => (tsz P ft).bind fun n => if n = 0 then none else (match e.ev x with
    | .pt i j g => some (.pt i j (g + o))
    | .ep cs => some (.ep (cs.drop o))
    | _ => none)) fun v => K v s := nr rfl
@[simp ↓] theorem opw_field (t : TypeId) (x : Operand) (f : Nat) : opw P e s K Kp (.field t x f) = okv ((fld P t f).bind fun (o, ft) => (tsz P ft).bind fun n => (aggT P ft).bind fun ag => (match e.ev x with
    | .agg cs => pack ag ((cs.drop o).take n)
    | _ => none)) fun v => K v s := nr rfl
@[simp ↓] theorem opw_indexAddr (t : TypeId) (x i : Operand) : opw P e s K Kp (.indexAddr t x i) = okv (idxAddr P t (e.ev x) (e.ev i)) fun v => K v s := nr rfl
@[simp ↓] theorem opw_index (t : TypeId) (x i : Operand) : opw P e s K Kp (.index t x i) = okv (idx P t (e.ev x) (e.ev i)) fun v => K v s := nr rfl
@[simp ↓] theorem opw_extract (x : Operand) (k : Nat) : opw P e s K Kp (.extract x k) = okv (match e.ev x with
    | .tup vs => vs[k]?
    | _ => none) fun v => K v s := nr rfl
@[simp ↓] theorem opw_len (x : Operand) (t : TypeId) : opw P e s K Kp (.call ⟨.builtin .len, #[x], #[t]⟩) = okv (lenOf P t (e.ev x)) fun n => K (.lit (.int .i64 n)) s := by
  simp only [opw, qcall]
  cases lenOf P t (e.ev x) <;> rfl
@[simp ↓] theorem opw_max (x y : Operand) (ts : Array TypeId) : opw P e s K Kp (.call ⟨.builtin .max, #[x, y], ts⟩) = okv (match e.ev x, e.ev y with
      | .lit (.int k i), .lit (.int k' j) => if k = k' then some (.lit (.int k (max i j))) else none
      | _, _ => none) fun v => K v s := nr rfl
@[simp ↓] theorem opw_min (x y : Operand) (ts : Array TypeId) : opw P e s K Kp (.call ⟨.builtin .min, #[x, y], ts⟩) = okv (match e.ev x, e.ev y with
      | .lit (.int k i), .lit (.int k' j) => if k = k' then some (.lit (.int k (min i j))) else none
      | _, _ => none) fun v => K v s := nr rfl
@[simp ↓] theorem opw_append (x y : Operand) (t t2 : TypeId) : opw P e s K Kp (.call ⟨.builtin .append, #[x, y], #[t, t2]⟩) = (match fcb (e.ev x) (e.ev y) s with
    | some (x, y, s) => appW P s t t2 x y K
    | none => False) := nr rfl
@[simp ↓] theorem opw_call (f : Operand) (args : List Operand) (ts : Array TypeId) : opw P e s K Kp (.call ⟨.value f, args.toArray, ts⟩) = (match fcc (e.ev f) (args.map e.ev) s with
    | some (f, a, s) => callW P s f a K Kp
    | none => False) := by simp [opw]
@[simp ↓] theorem storeW_pt (t : TypeId) (i j f : Nat) (x : PV) (K : St → Prop) : storeW P s t (.pt i j f) x K = (match s i with
    | some (.row ty sz els) => okv (els[j]?) fun cs => tsz P t = some x.width ∧ x.solid = true ∧ f + x.width ≤ cs.length ∧ K (s.upd i (some (.row ty sz (els.set j (spl cs f x.cells)))))
    | _ => False) := nr rfl
@[simp] theorem cells_agg (cs : List PV) : (PV.agg cs).cells = cs := nr rfl
@[simp] theorem cells_lit (v : Value) : (PV.lit v).cells = [.lit v] := nr rfl
@[simp] theorem cells_vec (k : VK) (xs : List PV) : (PV.vec k xs).cells = [.vec k xs] := nr rfl
@[simp] theorem cells_sl (i sz off len : Nat) : (PV.sl i sz off len).cells = [.sl i sz off len] := nr rfl
@[simp] theorem cells_pt (i j f : Nat) : (PV.pt i j f).cells = [.pt i j f] := nr rfl
@[simp] theorem cells_ep (cs : List PV) : (PV.ep cs).cells = [.ep cs] := nr rfl
@[simp] theorem cells_fn (f : FuncId) (a b : List PV) : (PV.fn f a b).cells = [.fn f a b] := nr rfl
@[simp] theorem cells_mp (i : Nat) : (PV.mp i).cells = [.mp i] := nr rfl
@[simp] theorem cells_yld (i : Nat) : (PV.yld i).cells = [.yld i] := nr rfl
@[simp] theorem width_agg (cs : List PV) : (PV.agg cs).width = cs.length := nr rfl
@[simp] theorem width_lit (v : Value) : (PV.lit v).width = 1 := nr rfl
@[simp] theorem width_vec (k : VK) (xs : List PV) : (PV.vec k xs).width = 1 := nr rfl
@[simp] theorem width_sl (i sz off len : Nat) : (PV.sl i sz off len).width = 1 := nr rfl
@[simp] theorem width_pt (i j f : Nat) : (PV.pt i j f).width = 1 := nr rfl
@[simp] theorem width_ep (cs : List PV) : (PV.ep cs).width = 1 := nr rfl
@[simp] theorem width_fn (f : FuncId) (a b : List PV) : (PV.fn f a b).width = 1 := nr rfl
@[simp] theorem width_mp (i : Nat) : (PV.mp i).width = 1 := nr rfl
@[simp] theorem width_yld (i : Nat) : (PV.yld i).width = 1 := nr rfl
@[simp] theorem solid_agg (cs : List PV) : (PV.agg cs).solid = true := nr rfl
@[simp] theorem solid_lit (v : Value) : (PV.lit v).solid = true := nr rfl
@[simp] theorem solid_vec (k : VK) (xs : List PV) : (PV.vec k xs).solid = true := nr rfl
@[simp] theorem solid_sl (i sz off len : Nat) : (PV.sl i sz off len).solid = true := nr rfl
@[simp] theorem solid_pt (i j f : Nat) : (PV.pt i j f).solid = true := nr rfl
@[simp] theorem solid_ep (cs : List PV) : (PV.ep cs).solid = true := nr rfl
@[simp] theorem solid_fn (f : FuncId) (a b : List PV) : (PV.fn f a b).solid = true := nr rfl
@[simp] theorem solid_mp (i : Nat) : (PV.mp i).solid = true := nr rfl
@[simp] theorem solid_yld (i : Nat) : (PV.yld i).solid = true := nr rfl
@[simp] theorem isSlice_vec (k : VK) (xs : List PV) : (PV.vec k xs).isSlice = true := nr rfl
@[simp] theorem isSlice_sl (i sz off len : Nat) : (PV.sl i sz off len).isSlice = true := nr rfl
@[simp] theorem pack_true (cs : List PV) : pack true cs = some (.agg cs) := nr rfl
@[simp] theorem pack_false (cs : List PV) : pack false cs = cs.head? := nr rfl
@[simp] theorem intBin_add (k : IntKind) (a b : Int) : intBin .add k a b = some (.lit (.int k (k.wrap (a + b)))) := nr rfl
@[simp] theorem intBin_sub (k : IntKind) (a b : Int) : intBin .sub k a b = some (.lit (.int k (k.wrap (a - b)))) := nr rfl
@[simp] theorem intBin_mul (k : IntKind) (a b : Int) : intBin .mul k a b = some (.lit (.int k (k.wrap (a * b)))) := nr rfl
@[simp] theorem intBin_eql (k : IntKind) (a b : Int) : intBin .eql k a b = some (.lit (.bool (decide (a = b)))) := nr rfl
@[simp] theorem intBin_neq (k : IntKind) (a b : Int) : intBin .neq k a b = some (.lit (.bool (!decide (a = b)))) := nr rfl
@[simp] theorem intBin_lss (k : IntKind) (a b : Int) : intBin .lss k a b = some (.lit (.bool (decide (a < b)))) := nr rfl
@[simp] theorem intBin_leq (k : IntKind) (a b : Int) : intBin .leq k a b = some (.lit (.bool (decide (a ≤ b)))) := nr rfl
@[simp] theorem intBin_gtr (k : IntKind) (a b : Int) : intBin .gtr k a b = some (.lit (.bool (decide (a > b)))) := nr rfl
@[simp] theorem intBin_geq (k : IntKind) (a b : Int) : intBin .geq k a b = some (.lit (.bool (decide (a ≥ b)))) := nr rfl
@[simp] theorem intBin_quo (k : IntKind) (a b : Int) : intBin .quo k a b = if b = 0 then none else some (.lit (.int k (k.wrap (a.tdiv b)))) := nr rfl
@[simp] theorem intBin_rem (k : IntKind) (a b : Int) : intBin .rem k a b = if b = 0 then none else some (.lit (.int k (a.tmod b))) := nr rfl
@[simp] theorem intBin_shr (k : IntKind) (a b : Int) : intBin .shr k a b = if b < 0 then none else some (.lit (.int k (a.fdiv (2 ^ (min b.toNat k.bits))))) := nr rfl
@[simp] theorem intBin_shl (k : IntKind) (a b : Int) : intBin .shl k a b = if b < 0 then none else some (.lit (.int k (k.wrap (a * 2 ^ (min b.toNat k.bits))))) := nr rfl
@[simp] theorem bin_nil_nil (op : BinOp) (t : TypeId) : bin P op t (.lit (.pointer none)) (.lit (.pointer none)) = if ptrT P t = true then eqB op true else none := nr rfl
@[simp] theorem bin_pt_nil (op : BinOp) (t : TypeId) (i j f : Nat) : bin P op t (.pt i j f) (.lit (.pointer none)) = if ptrT P t = true then eqB op false else none := nr rfl
@[simp] theorem bin_ep_nil (op : BinOp) (t : TypeId) (cs : List PV) : bin P op t (.ep cs) (.lit (.pointer none)) = if ptrT P t = true then eqB op false else none := nr rfl
@[simp] theorem bin_nil_pt (op : BinOp) (t : TypeId) (i j f : Nat) : bin P op t (.lit (.pointer none)) (.pt i j f) = if ptrT P t = true then eqB op false else none := nr rfl
@[simp] theorem bin_pt_pt (op : BinOp) (t : TypeId) (i j f : Nat) : bin P op t (.pt i j f) (.pt i j f) = if ptrT P t = true then eqB op true else none := by simp [bin]
@[simp] theorem eqB_eql (b : Bool) : eqB .eql b = some (.lit (.bool b)) := nr rfl
@[simp] theorem eqB_neq (b : Bool) : eqB .neq b = some (.lit (.bool !b)) := nr rfl
@[simp ↓] theorem binW_ptr (op : BinOp) (t : TypeId) (i j f i' j' f' : Nat) (K : PV → Prop) : binW P op t (.pt i j f) (.pt i' j' f') K = okv (bin P op t (.pt i j f) (.pt i' j' f')) K := nr rfl
@[simp ↓] theorem binW_pt_lit (op : BinOp) (t : TypeId) (i j f : Nat) (v : Value) (K : PV → Prop) : binW P op t (.pt i j f) (.lit v) K = okv (bin P op t (.pt i j f) (.lit v)) K := nr rfl
@[simp ↓] theorem binW_lit_pt (op : BinOp) (t : TypeId) (i j f : Nat) (v : Value) (K : PV → Prop) : binW P op t (.lit v) (.pt i j f) K = okv (bin P op t (.lit v) (.pt i j f)) K := nr rfl
@[simp ↓] theorem binW_ep_lit (op : BinOp) (t : TypeId) (cs : List PV) (v : Value) (K : PV → Prop) : binW P op t (.ep cs) (.lit v) K = okv (bin P op t (.ep cs) (.lit v)) K := nr rfl
@[simp] theorem un_neg (k : IntKind) (n : Int) : un .neg (.lit (.int k n)) = some (.lit (.int k (k.wrap (0 - n)))) := nr rfl
@[simp] theorem un_not (b : Bool) : un .not (.lit (.bool b)) = some (.lit (.bool !b)) := nr rfl
@[simp] theorem bin_int (op : BinOp) (t : TypeId) (k : IntKind) (a b : Int) : bin P op t (.lit (.int k a)) (.lit (.int k b)) = intBin op k a b := by simp [bin]
@[simp] theorem bin_str (op : BinOp) (t : TypeId) (a b : ByteArray) : bin P op t (.lit (.string a)) (.lit (.string b)) = strBin op a b := nr rfl
@[simp] theorem bin_agg_eql (t : TypeId) (cs ds : List PV) : bin P .eql t (.agg cs) (.agg ds) = (flatT P t).bind fun ts => (eqC ts cs ds).bind fun b => some (.lit (.bool b)) := nr rfl
@[simp] theorem bin_agg_neq (t : TypeId) (cs ds : List PV) : bin P .neq t (.agg cs) (.agg ds) = (flatT P t).bind fun ts => (eqC ts cs ds).bind fun b => some (.lit (.bool !b)) := nr rfl
@[simp] theorem eqC_nils : eqC [] [] [] = some true := nr rfl
@[simp] theorem eqC_conss (t : Nat) (ts : List Nat) (c d : PV) (cs ds : List PV) : eqC (t :: ts) (c :: cs) (d :: ds) = (eq1 t c d).bind fun a => (eqC ts cs ds).map fun r => a && r := nr rfl
@[simp] theorem eq1_int (k : IntKind) (a b : Int) : eq1 0 (.lit (.int k a)) (.lit (.int k b)) = some (decide (a = b)) := by simp [eq1]
@[simp] theorem eq1_str (a b : ByteArray) : eq1 1 (.lit (.string a)) (.lit (.string b)) = some (decide (a = b)) := nr rfl
@[simp] theorem eq1_bool (a b : Bool) : eq1 2 (.lit (.bool a)) (.lit (.bool b)) = some (decide (a = b)) := nr rfl
@[simp] theorem strBin_eql (a b : ByteArray) : strBin .eql a b = some (.lit (.bool (decide (a = b)))) := nr rfl
@[simp] theorem strBin_neq (a b : ByteArray) : strBin .neq a b = some (.lit (.bool (!decide (a = b)))) := nr rfl
@[simp] theorem cellsAt_ep (cs : List PV) (n : Nat) : cellsAt s (.ep cs) n = if n ≤ cs.length then some (cs.take n) else none := nr rfl
@[simp] theorem cellsAt_pt (i j f n : Nat) : cellsAt s (.pt i j f) n = (match s i with
    | some (.row _ _ els) => match els[j]? with
      | some cs => if f + n ≤ cs.length then some ((cs.drop f).take n) else none
      | none => none
    | some (.ro cs) => if j = 0 ∧ f + n ≤ cs.length then some ((cs.drop f).take n) else none
    | _ => none) := nr rfl
@[simp] theorem lenOf_vec (t : TypeId) (k : VK) (xs : List PV) : lenOf P t (.vec k xs) = (sliceT P t).map fun _ => xs.length := nr rfl
@[simp] theorem lenOf_sl (t : TypeId) (i sz off len : Nat) : lenOf P t (.sl i sz off len) = (sliceT P t).map fun _ => len := nr rfl
@[simp] theorem lenOf_str (t : TypeId) (b : ByteArray) : lenOf P t (.lit (.string b)) = if isStrT P t then some b.size else none := nr rfl
@[simp] theorem idxAddr_vec (t : TypeId) (k : VK) (xs : List PV) (ik : IntKind) (i : Int) : idxAddr P t (.vec k xs) (.lit (.int ik i)) = if 0 ≤ i then ((sliceT P t).bind fun el => (tsz P el).bind fun n => (xs[i.toNat]?).bind fun y => if y.width = n then some (.ep y.cells) else none) else none := nr rfl
@[simp] theorem idxAddr_sl (t : TypeId) (b sz off len : Nat) (ik : IntKind) (i : Int) : idxAddr P t (.sl b sz off len) (.lit (.int ik i)) = if 0 ≤ i then ((sliceT P t).bind fun el => (tsz P el).bind fun n => if i.toNat < len ∧ sz = n then some (.pt b (off + i.toNat) 0) else none) else none := nr rfl
@[simp] theorem idx_str (t : TypeId) (s : ByteArray) (ik : IntKind) (i : Int) : idx P t (.lit (.string s)) (.lit (.int ik i)) = if 0 ≤ i then (if isStrT P t then (s[i.toNat]?).map fun b => .lit (.int .u8 b.toNat) else none) else none := nr rfl
@[simp] theorem spl_def (cs : List PV) (f : Nat) (ps : List PV) : spl cs f ps = cs.take f ++ ps ++ cs.drop (f + ps.length) := nr rfl
@[simp ↓] theorem callW_yld (i : Nat) (args : List PV) : callW P s (.yld i) args K Kp = (match fcc .junk args s with
    | some (_, a, s) => PYldL P i a s K tag
    | none => False) := nr rfl
@[simp ↓] theorem callW_fn (f : FuncId) (fs cs args : List PV) : callW P s (.fn f fs cs) args K Kp = (match fcc .junk (fs ++ args ++ cs) s with
    | some (_, a, s) => PCallsL P f a s (fun r s' => match r with
      | .ret p => K p s'
      | .pan c => Kp c s') tag
    | none => False) := nr rfl
@[simp ↓ high] theorem callW_fn0 (f : FuncId) (args : List PV) : callW P s (.fn f [] []) args K Kp = PCallsL P f args s (fun r s' => match r with
      | .ret p => K p s'
      | .pan c => Kp c s') tag := by
  simp [callW, PCallsL]
/-- A quiet call: one answer, no change. -/
def callQ (P : Program) (s : St) (f : PV) (args : List PV) (K : PV → Prop) : Prop := ∃ v, callW P s f args (fun p s' => p = v ∧ s' = s) (fun _ _ => False) ∧ K v
def PQuietL (P : Program) (f : FuncId) (args : List PV) (s : St) (K : PV → Prop) (t : Tag K) : Prop := ∃ v, PCalls P f args s (fun r s' => match r with | .ret p => p = v ∧ s' = s | .pan _ => False) ∧ K v
def PQuiet (P : Program) (f : FuncId) (args : List PV) (s : St) (K : PV → Prop) : Prop := ∃ v, PCalls P f args s (fun r s' => match r with | .ret p => p = v ∧ s' = s | .pan _ => False) ∧ K v
@[simp ↓] theorem callQ_fn (f : FuncId) (args : List PV) (K : PV → Prop) : callQ P s (.fn f [] []) args K = PQuietL P f args s K tag := by
  simp only [callQ, PQuietL, callW, List.nil_append, List.append_nil]
  rfl
theorem wrap_i64 {n : Int} (h1 : -9223372036854775808 ≤ n) (h2 : n ≤ 9223372036854775807) : IntKind.i64.wrap n = n := by
  rw [IntKind.wrap_i64]; omega
attribute [simp] bld fillP mkSlice
@[simp] theorem idxOk_nil (n : Nat) : idxOk n [] = true := nr rfl
@[simp] theorem idxOk_cons (n i : Nat) (x : Operand) (l : List (Nat × Operand)) : idxOk n ((i, x) :: l) = (i == n && idxOk (n + 1) l) := nr rfl
theorem sub_upd {s' : St} {i : Nat} {b : Option Blk} (h : s'.sub s) (hi : s' i = none) : s'.sub (s.upd i b) := by
  intro j c hj
  by_cases hji : j = i
  · subst hji; rw [hi] at hj; cases hj
  · rw [St.upd_ne _ _ hji]; exact h j c hj
/-! #### regions that draw their order -/
def opAt : List Oper → Nat → Option Oper
  | [], _ => none
  | o :: _, 0 => some o
  | _ :: l, n + 1 => opAt l n
theorem opAt_eq : ∀ (l : List Oper) (i : Nat), l[i]? = opAt l i
  | [], i => by simp [opAt]
  | o :: l, 0 => rfl
  | o :: l, i + 1 => by have := opAt_eq l i; simpa [opAt] using this
@[simp ↓] theorem opAt_zero (o : Oper) (l : List Oper) : opAt (o :: l) 0 = some o := nr rfl
@[simp ↓] theorem opAt_succ (o : Oper) (l : List Oper) (n : Nat) : opAt (o :: l) (n + 1) = opAt l n := nr rfl
def dwk (P : Program) (A : St) (q : Nat) (e : Env) (s : St) (K : PV → St → Prop) (Kp : List PanicEntry → St → Prop) (op : Go.Op) : Prop := dw P A (kindOf q op) e s K Kp op
def stepL (P : Program) (A : St) (dst : Nat → Option Tmp) (q : Nat) (N : Nat) (o : Oper) (e : Env) (s : St) (K : Env → St → Prop) (Kp : List PanicEntry → Env → St → Prop) : Prop :=
  dok N o.dst = true ∧ (match o.guard with
    | none => dwk P A q e s (fun v s' => K (e.put o.dst v) s') (fun c s' => Kp c e s') o.op
    | some (j, want) => okv (dst j) fun d => (match e d with
      | .lit (.bool t) => if t = want then dwk P A q e s (fun v s' => K (e.put o.dst v) s') (fun c s' => Kp c e s') o.op else K (e.put o.dst (.tup [])) s
      | .tup [] => K (e.put o.dst (.tup [])) s
      | _ => False))
theorem yb_match (p : PV) (want : Bool) (A B : Prop) : (okv (yb p) fun y => (y = some want → A) ∧ (y ≠ some want → B)) = (match p with
    | .lit (.bool t) => if t = want then A else B
    | .tup [] => B
    | _ => False) := by
  unfold yb
  split
  · rename_i t
    by_cases h : t = want <;> simp [okv, h]
  · simp [okv]
  · rename_i h1 h2
    simp only [okv]
section
variable {A : St} {dst : Nat → Option Tmp} {l : List Oper} {kd : Nat → Nat} {KE : Env → St → Prop} {KPE : List PanicEntry → Env → St → Prop} {q : Nat}
theorem pwD_step (i : Nat) (r : List Nat) : pwD P A l.toArray kd N (i :: r) e s KE KPE = okv (opAt l i) fun o => stepL P A (dstOf l) (kd i) N o e s (fun e s => pwD P A l.toArray kd N r e s KE KPE) KPE := by
  simp only [pwD, stepD, List.getElem?_toArray, opAt_eq]
  cases opAt l i with
  | none => rfl
  | some o =>
    simp only [okv, stepL, dok_iff]
    congr 1
    unfold gd dwk
    cases hg : o.guard with
    | none => rfl
    | some jw =>
      obtain ⟨j, want⟩ := jw
      have := congrFun (dstOf_eq l) j
      simp only [List.getElem?_toArray, this, yb_match]
      rfl
/-- The operations in the order told, with their marks: made plain once. -/
def pickL (l : List Oper) (kd : Nat → Nat) : List Nat → Option (List (Oper × Nat))
  | [] => some []
  | i :: p => (opAt l i).bind fun o => (pickL l kd p).map fun L => (o, kd i) :: L
@[simp] theorem pickL_nil (l : List Oper) (kd : Nat → Nat) : pickL l kd [] = some [] := nr rfl
@[simp] theorem pickL_cons (l : List Oper) (kd : Nat → Nat) (i : Nat) (p : List Nat) : pickL l kd (i :: p) = (opAt l i).bind fun o => (pickL l kd p).map fun L => (o, kd i) :: L := nr rfl
def pwP (P : Program) (A : St) (ds : List (Option Tmp)) (N : Nat) : List (Oper × Nat) → Env → St → (Env → St → Prop) → (List PanicEntry → Env → St → Prop) → Prop
  | [], e, s, K, _ => K e s
  | (o, q) :: r, e, s, K, Kp => stepL P A (nthD ds) q N o e s (fun e s => pwP P A ds N r e s K Kp) Kp
@[simp ↓] theorem pwP_nil (ds : List (Option Tmp)) : pwP P A ds N [] e s KE KPE = KE e s := nr rfl
@[simp ↓] theorem pwP_cons (ds : List (Option Tmp)) (o : Oper) (q : Nat) (r : List (Oper × Nat)) : pwP P A ds N ((o, q) :: r) e s KE KPE = stepL P A (nthD ds) q N o e s (fun e s => pwP P A ds N r e s KE KPE) KPE := nr rfl
theorem pwP_of : ∀ (p : List Nat) (L : List (Oper × Nat)) (e : Env) (s : St), pickL l kd p = some L → pwD P A l.toArray kd N p e s KE KPE = pwP P A (dsts l) N L e s KE KPE
  | [], L, e, s, h => by cases h; rfl
  | i :: p, L, e, s, h => by
    rw [pwD_step]
    simp only [pickL] at h
    cases ho : opAt l i with
    | none => rw [ho] at h; cases h
    | some o =>
      rw [ho] at h
      simp only [Option.bind_some] at h
      obtain ⟨L', h1, rfl⟩ := Option.map_eq_some_iff.1 h
      simp only [okv, pwP, nthD_eq]
      congr 1
      funext e s
      rw [pwP_of p L' e s h1]
def fcp (ds : List (Option Tmp)) (L : Option (List (Oper × Nat))) : Option (List (Option Tmp) × List (Oper × Nat)) := L.map fun L => (ds, L)
@[simp] theorem fcp_def (ds : List (Option Tmp)) (L : List (Oper × Nat)) : fcp ds (some L) = some (ds, L) := nr rfl
/-- The way in: the order is a list of places. -/
theorem pwD_of (p : List Nat) (h : match fcp (dsts l) (pickL l kd p) with
    | some (ds, L) => pwP P A ds N L e s KE KPE
    | none => False) : pwD P A l.toArray kd N p e s KE KPE := by
  cases hp : pickL l kd p with
  | none => rw [hp] at h; exact h.elim
  | some L => rw [hp] at h; rw [pwP_of p L e s hp]; exact h
@[simp ↓] theorem stepL_none (d : Option Tmp) (op : Go.Op) (ty : TypeId) (pos : String) (after : Array Edge) :
    stepL P A dst q N ⟨d, op, ty, pos, after, none⟩ e s KE KPE = (dok N d = true ∧ dwk P A q e s (fun v s' => KE (e.put d v) s') (fun c s' => KPE c e s') op) := nr rfl
@[simp ↓] theorem stepL_some (d : Option Tmp) (op : Go.Op) (ty : TypeId) (pos : String) (after : Array Edge) (j : Nat) (want : Bool) :
    stepL P A dst q N ⟨d, op, ty, pos, after, some (j, want)⟩ e s KE KPE = (dok N d = true ∧ okv (dst j) fun d' => (match e d' with
      | .lit (.bool t) => if t = want then dwk P A q e s (fun v s' => KE (e.put d v) s') (fun c s' => KPE c e s') op else KE (e.put d (.tup [])) s
      | .tup [] => KE (e.put d (.tup [])) s
      | _ => False)) := nr rfl
end
section
variable {A : St} {q : Nat}
@[simp ↓] theorem dwk_move (x : Operand) : dwk P A q e s K Kp (.move x) = (match fcv (e.ev x) s with
    | some (v, s) => K v s
    | none => False) := nr rfl
@[simp ↓] theorem dwk_assign (x : Operand) : dwk P A q e s K Kp (.assign x) = (match fcv (e.ev x) s with
    | some (v, s) => K v s
    | none => False) := nr rfl
@[simp ↓] theorem dwk_pick (c a b : Operand) : dwk P A q e s K Kp (.pick c a b) = (match e.ev c with
    | .lit (.bool t) => (match fcv (if t = true then e.ev a else e.ev b) s with
      | some (v, s) => K v s
      | none => False)
    | _ => False) := by
  simp only [dwk, dw, kindOf, pureV, fcv]
  split <;> simp_all [okv]
@[simp ↓] theorem dwk_alloc (t : TypeId) : dwk P A q e s K Kp (.alloc t) = okv (tzero P t) fun z => (ofVal z).solid = true ∧ ∀ i, Fresh s i → K (.pt i 0 0) (s.upd i (some (.row t (ofVal z).width [(ofVal z).cells]))) := by
  simp only [dwk, dw, kindOf, opw]
  cases tzero P t with
  | none => rfl
  | some z =>
    simp only [okv]
    apply propext
    exact ⟨fun h => ⟨h.1, fun i hi => (h.2 i hi).2⟩, fun h => ⟨h.1, fun i hi => ⟨sub_upd (fun _ _ h => h) hi, h.2 i hi⟩⟩⟩
@[simp ↓] theorem dwk_box (t : TypeId) (x : Operand) : dwk P A q e s K Kp (.box t x) = ((e.ev x).solid = true ∧ ∀ i, Fresh s i → K (.pt i 0 0) (s.upd i (some (.row t (e.ev x).width [(e.ev x).cells])))) := by
  simp only [dwk, dw, kindOf, opw]
  apply propext
  exact ⟨fun h => ⟨h.1, fun i hi => (h.2 i hi).2⟩, fun h => ⟨h.1, fun i hi => ⟨sub_upd (fun _ _ h => h) hi, h.2 i hi⟩⟩⟩
@[simp ↓] theorem dwk_store (t : TypeId) (a x : Operand) : dwk P A q e s K Kp (.store t a x) = (match fcb (e.ev a) (e.ev x) s with
    | some (a, x, s) => storeW P s t a x (fun s' => A.sub s' ∧ K .junk s')
    | none => False) := nr rfl
@[simp ↓] theorem dwk_build (t : TypeId) (parts : List (Nat × Operand)) : dwk P A q e s K Kp (.build t parts.toArray) = okv (bld P e t parts) fun v => K v s := by simp [dwk, dw, kindOf, pureV]
@[simp ↓] theorem dwk_buildSlice (t : TypeId) (len : Nat) (parts : List (Nat × Operand)) : dwk P A q e s K Kp (.buildSlice t len parts.toArray) = okv (mkSlice P e t len parts) fun v => K v s := by simp [dwk, dw, kindOf, pureV]
@[simp ↓] theorem dwk_load0 (t : TypeId) (a : Operand) : dwk P A 0 e s K Kp (.load t a) = okv ((tsz P t).bind fun n => (aggT P t).bind fun ag => (cellsAt s (e.ev a) n).bind fun cs => pack ag cs) fun v => K v s := nr rfl
@[simp ↓] theorem dwk_load3 (t : TypeId) (a : Operand) : dwk P A 3 e s K Kp (.load t a) = okv ((tsz P t).bind fun n => (aggT P t).bind fun ag => (cellsAt A (e.ev a) n).bind fun cs => pack ag cs) fun v => K v s := nr rfl
@[simp ↓] theorem dwk_nilCheck (x : Operand) : dwk P A q e s K Kp (.nilCheck x) = okv (match e.ev x with
    | .pt i j f => some (.pt i j f)
    | .ep cs => some (.ep cs)
    | .fn f a b => some (.fn f a b)
    | _ => none) fun v => K v s := nr rfl
@[simp ↓] theorem dwk_bin (op : BinOp) (t t2 : TypeId) (x y : Operand) : dwk P A q e s K Kp (.binOp op t x y t2) = okv (bin P op t (e.ev x) (e.ev y)) fun v => K v s := nr rfl
@[simp ↓] theorem dwk_un (op : UnOp) (t : TypeId) (x : Operand) : dwk P A q e s K Kp (.unOp op t x) = okv (un op (e.ev x)) fun v => K v s := nr rfl
@[simp ↓] theorem dwk_slice (t : TypeId) (x : Operand) (lo hi : Option Operand) : dwk P A q e s K Kp (.slice t x lo hi none) = okv (slc P t (e.ev x) (lo.map e.ev) (hi.map e.ev)) fun v => K v s := nr rfl
@[simp ↓] theorem dwk_fieldAddr (t : TypeId) (x : Operand) (f : Nat) : dwk P A q e s K Kp (.fieldAddr t x f) = okv ((fld P t f).bind fun (o, ft) => (tsz P ft).bind fun n => if n = 0 then none else (match e.ev x with
    | .pt i j g => some (.pt i j (g + o))
    | .ep cs => some (.ep (cs.drop o))
    | _ => none)) fun v => K v s := nr rfl
@[simp ↓] theorem dwk_field (t : TypeId) (x : Operand) (f : Nat) : dwk P A q e s K Kp (.field t x f) = okv ((fld P t f).bind fun (o, ft) => (tsz P ft).bind fun n => (aggT P ft).bind fun ag => (match e.ev x with
    | .agg cs => pack ag ((cs.drop o).take n)
    | _ => none)) fun v => K v s := nr rfl
@[simp ↓] theorem dwk_indexAddr (t : TypeId) (x i : Operand) : dwk P A q e s K Kp (.indexAddr t x i) = okv (idxAddr P t (e.ev x) (e.ev i)) fun v => K v s := nr rfl
@[simp ↓] theorem dwk_index (t : TypeId) (x i : Operand) : dwk P A q e s K Kp (.index t x i) = okv (idx P t (e.ev x) (e.ev i)) fun v => K v s := nr rfl
@[simp ↓] theorem dwk_extract (x : Operand) (k : Nat) : dwk P A q e s K Kp (.extract x k) = okv (match e.ev x with
    | .tup vs => vs[k]?
    | _ => none) fun v => K v s := nr rfl
@[simp ↓] theorem dwk_len (x : Operand) (t : TypeId) : dwk P A q e s K Kp (.call ⟨.builtin .len, #[x], #[t]⟩) = okv (lenOf P t (e.ev x)) fun n => K (.lit (.int .i64 n)) s := by
  simp only [dwk, dw, kindOf, pureV, qcall]
  cases lenOf P t (e.ev x) <;> rfl
@[simp ↓] theorem dwk_cap (x : Operand) (t : TypeId) : dwk P A q e s K Kp (.call ⟨.builtin .cap, #[x], #[t]⟩) = okv (match e.ev x with
    | .vec k xs => if k = .any then none else (sliceT P t).map fun _ => .lit (.int .i64 xs.length)
    | _ => none) fun v => K v s := nr rfl
@[simp ↓] theorem dwk_uSliceData (x : Operand) (ts : Array TypeId) : dwk P A q e s K Kp (.call ⟨.builtin .unsafeSliceData, #[x], ts⟩) = okv (match e.ev x with
    | .sl i sz off len => if len = 0 then none else some (.pt i off 0)
    | .vec .nil _ => some (.lit (.pointer none))
    | _ => none) fun v => K v s := nr rfl
@[simp ↓] theorem dwk_uString (x n : Operand) (t t2 : TypeId) : dwk P A q e s K Kp (.call ⟨.builtin .unsafeString, #[x, n], #[t, t2]⟩) = (match fcb (e.ev x) (e.ev n) s with
    | some (x, n, s) => ustrW P s t x n (fun v s' => A.sub s' ∧ K v s')
    | none => False) := nr rfl
@[simp ↓] theorem dwk_lookup (t : TypeId) (x k : Operand) (c : Bool) : dwk P A q e s K Kp (.lookup t x k c) = okv (lookV P s t (e.ev x) (e.ev k) c) fun v => K v s := nr rfl
@[simp ↓] theorem dwk_append (x y : Operand) (t t2 : TypeId) : dwk P A q e s K Kp (.call ⟨.builtin .append, #[x, y], #[t, t2]⟩) = (match fcb (e.ev x) (e.ev y) s with
    | some (x, y, s) => appW P s t t2 x y (fun v s' => A.sub s' ∧ K v s')
    | none => False) := nr rfl
@[simp ↓] theorem dwk_call0 (f : Operand) (args : List Operand) (ts : Array TypeId) : dwk P A 0 e s K Kp (.call ⟨.value f, args.toArray, ts⟩) = (match fcc (e.ev f) (args.map e.ev) s with
    | some (f, a, s) => callW P s f a (fun v s' => A.sub s' ∧ K v s') Kp
    | none => False) := by simp [dwk, dw, kindOf, opw]
@[simp ↓] theorem dwk_call1 (f : Operand) (args : List Operand) (ts : Array TypeId) : dwk P A 1 e s K Kp (.call ⟨.value f, args.toArray, ts⟩) = (match fcc (e.ev f) (args.map e.ev) s with
    | some (f, a, s) => callQ P s f a fun v => K v s
    | none => False) := by simp [dwk, dw, kindOf, detV, opw, callQ]
@[simp ↓] theorem dwk_call2 (f : Operand) (args : List Operand) (ts : Array TypeId) : dwk P A 2 e s K Kp (.call ⟨.value f, args.toArray, ts⟩) = (match fcc (e.ev f) (args.map e.ev) s with
    | some (f, a, s) => callW P s f a (fun v s' => s.sub s' ∧ K v s') Kp
    | none => False) := by simp [dwk, dw, kindOf, opw]
end
def callS (P : Program) (A : St) (f : PV) (args : List PV) (K : PV → Prop) : Prop := ∃ v, (∀ s, A.sub s → callW P s f args (fun p s' => p = v ∧ s' = s) (fun _ _ => False)) ∧ K v
def PSteadyL (P : Program) (A : St) (f : FuncId) (args : List PV) (K : PV → Prop) (t : Tag K) : Prop := ∃ v, (∀ s, A.sub s → PCalls P f args s (fun r s' => match r with | .ret p => p = v ∧ s' = s | .pan _ => False)) ∧ K v
def PSteady (P : Program) (A : St) (f : FuncId) (args : List PV) (K : PV → Prop) : Prop := ∃ v, (∀ s, A.sub s → PCalls P f args s (fun r s' => match r with | .ret p => p = v ∧ s' = s | .pan _ => False)) ∧ K v
@[simp ↓] theorem callS_fn0 (A : St) (f : FuncId) (args : List PV) (K : PV → Prop) : callS P A (.fn f [] []) args K = PSteadyL P A f args K tag := by
  simp only [callS, PSteadyL, callW, List.nil_append, List.append_nil]; rfl
@[simp ↓] theorem dwk_call4 {A : St} (f : Operand) (args : List Operand) (ts : Array TypeId) : dwk P A 4 e s K Kp (.call ⟨.value f, args.toArray, ts⟩) = (match fcc (e.ev f) (args.map e.ev) s with
    | some (f, a, s) => callS P A f a fun v => K v s
    | none => False) := by simp [dwk, dw, kindOf, detV, opw, callS]
theorem steady_ofA {A : St} {f : FuncId} {args : List PV} {v : PV} {K : PV → Prop} (h : ∀ s, A.sub s → PCalls P f args s fun r s' => s' = s ∧ r = .ret v) (hK : K v) : PSteady P A f args K :=
  ⟨v, fun s hs => (h s hs).mono fun r s' ⟨h1, h2⟩ => by subst h2; exact ⟨rfl, h1⟩, hK⟩
theorem steady_of {A : St} {f : FuncId} {args : List PV} {v : PV} {K : PV → Prop} (h : ∀ s, PCalls P f args s fun r s' => s' = s ∧ r = .ret v) (hK : K v) : PSteady P A f args K := steady_ofA (fun s _ => h s) hK
theorem quiet_of {f : FuncId} {args : List PV} {v : PV} {K : PV → Prop} (h : PCalls P f args s fun r s' => s' = s ∧ r = .ret v) (hK : K v) : PQuiet P f args s K :=
  ⟨v, h.mono fun r s' ⟨h1, h2⟩ => by subst h2; exact ⟨rfl, h1⟩, hK⟩
/-! #### ends -/
@[simp ↓] theorem retQ_normal (rs : List ResultVar) (R : Res → St → Prop) : retQ P rs R .normal e s = ∃ ps, resP P e s rs = some ps ∧ ∃ s', s'.sub s ∧ R (.ret (one ps)) s' := nr rfl
@[simp ↓] theorem retQ_ret (rs : List ResultVar) (R : Res → St → Prop) : retQ P rs R .ret e s = ∃ ps, resP P e s rs = some ps ∧ ∃ s', s'.sub s ∧ R (.ret (one ps)) s' := nr rfl
@[simp] theorem resP_nil : resP P e s [] = some [] := nr rfl
@[simp] theorem resP_tmp (t : Tmp) (rs : List ResultVar) : resP P e s (.tmp t :: rs) = (resP P e s rs).map fun ps => e t :: ps := nr rfl
@[simp] theorem resP_cell (a : Tmp) (t : TypeId) (rs : List ResultVar) : resP P e s (.cell a t :: rs) = ((tsz P t).bind fun n => (aggT P t).bind fun ag => (cellsAt s (e a) n).bind fun cs => pack ag cs).bind fun p => (resP P e s rs).map fun ps => p :: ps := nr rfl
@[simp] theorem one_nil : one [] = .tup [] := nr rfl
@[simp] theorem one_one (p : PV) : one [p] = p := nr rfl
@[simp] theorem one_two (p q : PV) (r : List PV) : one (p :: q :: r) = .tup (p :: q :: r) := nr rfl
@[simp] theorem sub_refl : s.sub s := fun _ _ h => h
theorem St.sub.upd {s' : St} {i : Nat} {b : Option Blk} (h : s.sub s') (hi : Fresh s' i) : s.sub (s'.upd i b) := by
  intro j c hj
  have := h j c hj
  by_cases hji : j = i
  · subst hji; rw [show s' j = none from hi] at this; cases this
  · rw [St.upd_ne _ _ hji]; exact this
theorem St.sub.trans {s1 s2 s3 : St} (h : s1.sub s2) (h' : s2.sub s3) : s1.sub s3 := fun i b hi => h' i b (h i b hi)
theorem St.sub.fresh {s' : St} {i : Nat} (h : s.sub s') (hi : Fresh s' i) : Fresh s i := by
  unfold Fresh at hi ⊢
  cases hs : s i with
  | none => rfl
  | some b => rw [h i b hs] at hi; cases hi
@[simp] theorem sub_fresh {i : Nat} {b : Option Blk} {s' : St} (hi : Fresh s' i) : s'.sub (s.upd i b) = s'.sub s := by
  apply propext
  constructor
  · intro h j c hj
    have := h j c hj
    by_cases hji : j = i
    · subst hji; rw [show s' j = none from hi] at hj; cases hj
    · rwa [St.upd_ne _ _ hji] at this
  · exact fun h => sub_upd h hi
end
end Go.Pv

/- A logic over plain values: what may be done to values and blocks between the lines. -/
namespace Go.Pv
set_option linter.unusedVariables false
set_option linter.unusedSimpArgs false
/-- In these blocks these values may be taken for those, in those blocks. -/
def Conv (s : St) (ps : List PV) (s' : St) (ps' : List PV) : Prop := ∀ (g : G) (w : World), Holds g s w →
  ∃ g', LE g w g' w ∧ Holds g' s' w ∧ ps'.length = ps.length ∧ ∀ (i : Nat) (p p' : PV) (v : Value), ps[i]? = some p → ps'[i]? = some p' → VR w g p v → VR w g' p' v
theorem Conv.refl (s : St) (ps : List PV) : Conv s ps s ps := fun g w hH => ⟨g, .refl _ _, hH, rfl, fun i p p' v h h' hv => by rw [h] at h'; cases h'; exact hv⟩
theorem Conv.sub {s s' : St} (h : s'.sub s) (ps : List PV) : Conv s ps s' ps := fun g w hH => ⟨g, .refl _ _, hH.sub h, rfl, fun i p p' v h h' hv => by rw [h] at h'; cases h'; exact hv⟩
theorem Conv.trans {s1 s2 s3 : St} {a b c : List PV} (h : Conv s1 a s2 b) (h' : Conv s2 b s3 c) : Conv s1 a s3 c := by
  intro g w hH
  obtain ⟨g1, l1, H1, n1, r1⟩ := h g w hH
  obtain ⟨g2, l2, H2, n2, r2⟩ := h' g1 w H1
  refine ⟨g2, l1.trans l2, H2, n2.trans n1, fun i p p' v hp hp' hv => ?_⟩
  have hlt : i < b.length := by rw [n1]; exact (List.getElem?_eq_some_iff.1 hp).1
  exact r2 i _ p' v (List.getElem?_eq_getElem hlt) hp' (r1 i p _ v hp (List.getElem?_eq_getElem hlt) hv)
section
variable {P : Program} {w : World} {g : G} {s : St} {N : Nat} {e : Env} {a : Act}
theorem PCalls.conv {f : FuncId} {args : List PV} {R R' : Res → St → Prop} (h : PCalls P f args s R) (hr : ∀ p s', R (.ret p) s' → ∃ p' s2, Conv s' [p] s2 [p'] ∧ R' (.ret p') s2) (hp : ∀ c s', R (.pan c) s' → R' (.pan c) s') : PCalls P f args s R' := by
  rcases h with h | h
  · refine .inl ⟨h.1, fun g w vs hH hA => (h.2 g w vs hH hA).mono ?_⟩
    rintro e w' ⟨res, s', g', h1, h2, h3, h4⟩
    cases h3 with
    | ret p v hv =>
      obtain ⟨p', s2, hc, hR⟩ := hr p s' h4
      obtain ⟨g2, l2, H2, _, r2⟩ := hc g' w' h2
      exact ⟨_, s2, g2, h1.trans l2, H2, .ret p' v (r2 0 p p' v rfl rfl hv), hR⟩
    | pan c => exact ⟨_, s', g', h1, h2, .pan c, hp c s' h4⟩
  · refine .inr fun g w vs hH hA => ?_
    obtain ⟨p, v, s', g', w', h1, h2, h3, h4, h5⟩ := h g w vs hH hA
    obtain ⟨p', s2, hc, hR⟩ := hr p s' h5
    obtain ⟨g2, l2, H2, _, r2⟩ := hc g' w' h3
    exact ⟨p', v, s2, g2, w', h1, h2.trans l2, H2, r2 0 p p' v rfl rfl h4, hR⟩
theorem PCalls.args {f : FuncId} {ps ps' : List PV} {s' : St} {R : Res → St → Prop} (hc : Conv s ps s' ps') (h : PCalls P f ps' s' R) : PCalls P f ps s R := by
  have tr : ∀ (g : G) (w : World) (vs : Array Value), Holds g s w → Args w g ps vs → ∃ g1, LE g w g1 w ∧ Holds g1 s' w ∧ Args w g1 ps' vs := by
    intro g w vs hH hA
    obtain ⟨g1, l1, H1, n1, r1⟩ := hc g w hH
    refine ⟨g1, l1, H1, hA.1.trans n1.symm, fun i p v hp hv => ?_⟩
    have hlt : i < ps.length := by rw [← n1]; exact (List.getElem?_eq_some_iff.1 hp).1
    exact r1 i _ p v (List.getElem?_eq_getElem hlt) hp (hA.2 i _ v (List.getElem?_eq_getElem hlt) hv)
  rcases h with h | h
  · refine .inl ⟨h.1, fun g w vs hH hA => ?_⟩
    obtain ⟨g1, l1, H1, A1⟩ := tr g w vs hH hA
    refine (h.2 g1 w vs H1 A1).mono ?_
    rintro e w' ⟨res, s', g', h1, h2, h3, h4⟩
    exact ⟨res, s', g', l1.trans h1, h2, h3, h4⟩
  · refine .inr fun g w vs hH hA => ?_
    obtain ⟨g1, l1, H1, A1⟩ := tr g w vs hH hA
    obtain ⟨p, v, s2, g', w', h1, h2, h3, h4, h5⟩ := h g1 w vs H1 A1
    exact ⟨p, v, s2, g', w', h1, l1.trans h2, h3, h4, h5⟩
/-- Less is known of a value. -/
inductive Wk : PV → PV → Prop where
  | refl (p : PV) : Wk p p
  | any (k : VK) (xs : List PV) : Wk (.vec k xs) (.vec .any xs)
  | nil (k : VK) : Wk (.vec .nil []) (.vec .tight [])
  | agg (cs ds : List PV) (hl : ds.length = cs.length) (h : ∀ (i : Nat) (c d : PV), cs[i]? = some c → ds[i]? = some d → Wk c d) : Wk (.agg cs) (.agg ds)
  | elems (k : VK) (xs ys : List PV) (hl : ys.length = xs.length) (hw : ∀ (i : Nat) (x y : PV), xs[i]? = some x → ys[i]? = some y → y.width = x.width) (h : ∀ (i : Nat) (x y : PV) (j : Nat) (c d : PV), xs[i]? = some x → ys[i]? = some y → x.cells[j]? = some c → y.cells[j]? = some d → Wk c d) : Wk (.vec k xs) (.vec .any ys)
  | tup (cs ds : List PV) (hl : ds.length = cs.length) (h : ∀ (i : Nat) (c d : PV), cs[i]? = some c → ds[i]? = some d → Wk c d) : Wk (.tup cs) (.tup ds)
theorem VR.wk {p q : PV} (h : Wk p q) : ∀ {v : Value}, VR w g p v → VR w g q v := by
  induction h with
  | refl p => exact fun h => h
  | any k xs =>
    intro v hv
    cases hv with
    | vec _ _ A cap sz f hc hk hn h0 hs hm hr => exact .vec .any xs A cap sz f hc (fun h => absurd rfl h) (fun h => by cases h) h0 hs hm hr
  | nil k =>
    intro v hv
    cases hv with
    | vec _ _ A cap sz f hc hk hn h0 hs hm hr => exact .vec .tight [] A cap sz f hc (fun _ => hk (by simp)) (fun h => by cases h) h0 hs hm hr
  | agg cs ds hl h ih =>
    intro v hv
    cases hv with
    | agg _ vs h1 h2 h3 =>
      refine .agg ds vs (by omega) h2 (fun i c v hc hv => ?_)
      have hlt : i < cs.length := by rw [← hl]; exact (List.getElem?_eq_some_iff.1 hc).1
      exact ih i _ c (List.getElem?_eq_getElem hlt) hc (h3 i _ v (List.getElem?_eq_getElem hlt) hv)
  | elems k xs ys hl hw h ih =>
    intro v hv
    cases hv with
    | vec _ _ A cap sz f hc hk hn h0 hs hm hr =>
      have get : ∀ (i : Nat) (y : PV) (j : Nat) (d : PV), ys[i]? = some y → y.cells[j]? = some d → ∃ x c, xs[i]? = some x ∧ x.cells[j]? = some c := by
        intro i y j d hy hd
        have hlt : i < xs.length := by rw [← hl]; exact (List.getElem?_eq_some_iff.1 hy).1
        have hx := List.getElem?_eq_getElem hlt
        have hwj := hw i _ y hx hy
        have hj : j < (xs[i]).cells.length := by
          have := (List.getElem?_eq_some_iff.1 hd).1
          unfold PV.width at hwj; omega
        exact ⟨_, _, hx, List.getElem?_eq_getElem hj⟩
      rw [← hl]
      refine .vec .any ys A cap sz f (by omega) (fun h => absurd rfl h) (fun h => by cases h) h0 (fun i y hy => ?_) (fun i y j d hy hd => ?_) (fun i y j d hy hd => ?_)
      · have hlt : i < xs.length := by rw [← hl]; exact (List.getElem?_eq_some_iff.1 hy).1
        have hx := List.getElem?_eq_getElem hlt
        rw [hw i _ y hx hy]; exact hs i _ hx
      · obtain ⟨x, c, hx, hcx⟩ := get i y j d hy hd
        exact hm i x j c hx hcx
      · obtain ⟨x, c, hx, hcx⟩ := get i y j d hy hd
        exact ih i x y j c d hx hy hcx hd (hr i x j c hx hcx)
  | tup cs ds hl h ih =>
    intro v hv
    cases hv with
    | tup _ vs h1 h3 =>
      refine .tup ds vs (by omega) (fun i c v hc hv => ?_)
      have hlt : i < cs.length := by rw [← hl]; exact (List.getElem?_eq_some_iff.1 hc).1
      exact ih i _ c (List.getElem?_eq_getElem hlt) hc (h3 i _ v (List.getElem?_eq_getElem hlt) hv)
inductive Wks : List PV → List PV → Prop where
  | nil : Wks [] []
  | cons {p q : PV} {ps qs : List PV} (h : Wk p q) (t : Wks ps qs) : Wks (p :: ps) (q :: qs)
theorem Wks.length_eq {cs ds : List PV} (h : Wks cs ds) : cs.length = ds.length := by
  induction h with
  | nil => rfl
  | cons _ _ ih => simp [ih]
theorem Wk.aggs {cs ds : List PV} (h : Wks cs ds) : Wk (.agg cs) (.agg ds) := by
  refine .agg cs ds h.length_eq.symm ?_
  induction h with
  | nil => intro i c d hc; simp at hc
  | cons h _ ih =>
    intro i c d hc hd
    cases i with
    | zero => cases hc; cases hd; exact h
    | succ i => exact ih i c d hc hd
theorem Wk.cells {x y : PV} (h : Wk x y) : y.width = x.width ∧ ∀ (j : Nat) (c d : PV), x.cells[j]? = some c → y.cells[j]? = some d → Wk c d := by
  have one : ∀ {x y : PV}, Wk x y → x.cells = [x] → y.cells = [y] → y.width = x.width ∧ ∀ (j : Nat) (c d : PV), x.cells[j]? = some c → y.cells[j]? = some d → Wk c d := by
    intro x y h hx hy
    refine ⟨by simp [PV.width, hx, hy], fun j c d hc hd => ?_⟩
    rw [hx] at hc; rw [hy] at hd
    cases j with
    | zero => cases hc; cases hd; exact h
    | succ j => simp at hc
  cases h with
  | refl p => exact ⟨rfl, fun j c d hc hd => by rw [hc] at hd; cases hd; exact .refl _⟩
  | agg cs ds hl h => exact ⟨hl, h⟩
  | any k xs => exact one (.any k xs) rfl rfl
  | nil k => exact one (.nil k) rfl rfl
  | elems k xs ys a b c => exact one (.elems k xs ys a b c) rfl rfl
  | tup cs ds hl h => exact one (.tup cs ds hl h) rfl rfl
theorem Wk.elemsL {k : VK} {xs ys : List PV} (h : Wks xs ys) : Wk (.vec k xs) (.vec .any ys) := by
  have key : ∀ (i : Nat) (x y : PV), xs[i]? = some x → ys[i]? = some y → Wk x y := by
    induction h with
    | nil => intro i x y hx; simp at hx
    | cons h _ ih =>
      intro i x y hx hy
      cases i with
      | zero => cases hx; cases hy; exact h
      | succ i => exact ih i x y hx hy
  exact .elems k xs ys h.length_eq.symm (fun i x y hx hy => (key i x y hx hy).cells.1) (fun i x y j c d hx hy hc hd => (key i x y hx hy).cells.2 j c d hc hd)
theorem Conv.wk {ps ps' : List PV} (h : Wks ps ps') : Conv s ps s ps' := by
  refine fun g w hH => ⟨g, .refl _ _, hH, h.length_eq.symm, ?_⟩
  clear hH
  induction h with
  | nil => intro i p p' v hp; simp at hp
  | cons h _ ih =>
    intro i p p' v hp hp' hv
    cases i with
    | zero => cases hp; cases hp'; exact hv.wk h
    | succ i => exact ih i p p' v hp hp' hv
theorem PCalls.wk {f : FuncId} {ps ps' : List PV} {R : Res → St → Prop} (h : PCalls P f ps' s R) (hw : Wks ps ps') : PCalls P f ps s R := PCalls.args (Conv.wk hw) h
/-- Slices into block i, as lists. -/
def fz1 (i : Nat) (xs : List PV) : PV → PV
  | .sl j sz off len => if j = i then .vec .any ((xs.drop off).take len) else .sl j sz off len
  | p => p
def fz (i : Nat) (xs : List PV) : PV → PV
  | .agg cs => .agg (cs.map (fz1 i xs))
  | .tup cs => .tup (cs.map fun c => match c with | .agg ds => .agg (ds.map (fz1 i xs)) | c => fz1 i xs c)
  | p => fz1 i xs p
/-- A block is never written again: its slices are lists. -/
theorem fz1_vr {g' : G} {i : Nat} {ty : TypeId} {sz : Nat} {els : List (List PV)} {xs : List PV} (hH : Holds g s w) (hs : s i = some (.row ty sz els)) (hx : xs.map PV.cells = els) (hle : LEv g w g' w) (hZ : g'.Z (g.mu i).blk) :
    ∀ {p : PV} {v : Value}, (∀ j z off len, p = .sl j z off len → j = i → off + len ≤ els.length) → VR w g p v → VR w g' (fz1 i xs p) v := by
  intro p v hb hv
  unfold fz1
  split
  · rename_i j z off len
    split
    · rename_i hji
      subst hji
      have hbd := hb _ _ _ _ rfl rfl
      cases hv with
      | sl _ _ _ _ cap hi hc hz hbb =>
        obtain ⟨_, _, _, arr, hz2, hblk, hsz, hl, he, h5⟩ := hH.blk j _ hs
        have hxl : xs.length = els.length := by rw [← hx]; simp
        have hzz : z = sz := by rw [← hz, hz2]
        subst hzz
        have hlen : ((xs.drop off).take len).length = len := by simp; omega
        have hget : ∀ (k : Nat) (x : PV), ((xs.drop off).take len)[k]? = some x → els[off + k]? = some x.cells ∧ k < len := by
          intro k x hk
          rw [List.getElem?_take] at hk
          split at hk
          · rw [List.getElem?_drop] at hk
            rw [← hx, List.getElem?_map, hk]
            exact ⟨rfl, ‹_›⟩
          · cases hk
        have key : ∀ (k : Nat) (x : PV) (f : Nat) (c : PV), ((xs.drop off).take len)[k]? = some x → x.cells[f]? = some c → arr[(off + k) * z + f]? = some (arr.getD ((off + k) * z + f) undef) ∧ Value.oneCell' (arr.getD ((off + k) * z + f) undef) = true ∧ VR w g c (arr.getD ((off + k) * z + f) undef) := by
          intro k x f c hk hf
          obtain ⟨u, q1, q2, q3⟩ := h5 _ _ f c (hget k x hk).1 hf
          have : arr.getD ((off + k) * z + f) undef = u := by rw [Array.getD_eq_getD_getElem?, q1]; rfl
          rw [this]; exact ⟨q1, q2, q3⟩
        have := VR.vec (w := w) (g := g') .any ((xs.drop off).take len) (some ⟨(g.mu j).blk, off * z, none⟩) cap z (fun k f => arr.getD ((off + k) * z + f) undef) (by omega) (fun h => absurd rfl h) (fun h => by cases h) (fun h => by cases h) (fun k x hk => by
            have := he _ _ (hget k x hk).1
            exact this) (fun k x f c hk hf => ⟨_, rfl, hZ, by
              obtain ⟨q1, q2, q3⟩ := key k x f c hk hf
              rw [Pv.add_plain]
              simp only [World.cell?, hblk]
              rw [← q1, Nat.add_mul, Nat.add_assoc]
              rfl, (key k x f c hk hf).2.1⟩) (fun k x f c hk hf => ((key k x f c hk hf).2.2).le hle)
        rw [hlen] at this
        exact this
    · exact hv.le hle
  · exact hv.le hle
theorem Conv.freeze {i : Nat} {ty : TypeId} {sz : Nat} {els : List (List PV)} {xs : List PV} (hs : s i = some (.row ty sz els)) (hx : xs.map PV.cells = els) (p : PV)
    (hb : ∀ j z off len, (p = .sl j z off len ∨ ∃ cs, p = .agg cs ∧ .sl j z off len ∈ cs) → j = i → off + len ≤ els.length) (ht : ∀ cs, p ≠ .tup cs) : Conv s [p] (s.upd i none) [fz i xs p] := by
  intro g w hH
  have hne : s i ≠ none := by rw [hs]; simp
  have hsub : (s.upd i none).sub s := by
    intro k b hk
    by_cases h : k = i
    · subst h; rw [St.upd_same] at hk; cases hk
    · rwa [St.upd_ne _ _ h] at hk
  have hlt := (hH.blk i _ hs).lt
  refine ⟨g.freeze (g.mu i).blk, LE.freeze _, (hH.sub hsub).freeze hlt (fun k hk hb => ?_), rfl, ?_⟩
  · by_cases h : k = i
    · subst h; rw [St.upd_same] at hk; exact hk rfl
    · rw [St.upd_ne _ _ h] at hk; exact h (hH.inj k i hk hne hb)
  · intro k q q' v hq hq' hv
    cases k with
    | succ k => simp at hq
    | zero =>
      cases hq; cases hq'
      have hle := LEv.freeze (g := g) (w := w) (g.mu i).blk
      have hZ : (g.freeze (g.mu i).blk).Z (g.mu i).blk := .inr rfl
      unfold fz
      split
      · rename_i cs
        cases hv with
        | agg _ vs h1 h2 h3 =>
          refine .agg _ vs (by simpa using h1) h2 (fun j c u hc hu => ?_)
          rw [List.getElem?_map] at hc
          cases hcj : cs[j]? with
          | none => rw [hcj] at hc; cases hc
          | some c0 =>
            rw [hcj] at hc
            cases hc
            exact fz1_vr hH hs hx hle hZ (fun a b c d he hji => hb a b c d (.inr ⟨cs, rfl, by rw [← he]; exact List.mem_of_getElem? hcj⟩) hji) (h3 j c0 u hcj hu)
      · exact absurd rfl (ht _)
      · exact fz1_vr hH hs hx hle hZ (fun a b c d he hji => hb a b c d (.inl he) hji) hv
theorem PW.drawn {ops : List Oper} {id : Nat} {Q : Exit → Env → St → Prop} (kd : Nat → Nat) (p : List Nat) (hm : P.follows .mixedOrders = true) (hQ : ∀ c e e' s, Q (.panic c) e s → Q (.panic c) e' s) (hc : chk ops.toArray kd p (ancs ops.toArray) = true)
    (h : match fcp (dsts ops) (pickL ops kd p) with
      | some (ds, L) => pwP P St.empty ds N L e s (Q .normal) (fun c e s => Q (.panic c) e s)
      | none => False) : PW P N (.region id ops.toArray true) e s Q := PW.draw hm hQ hc (fun _ _ h => by cases h) (pwD_of p h)
/-- What lies in A stays as it is: loads of it may come behind what writes elsewhere. -/
theorem PW.drawnA {ops : List Oper} {id : Nat} {Q : Exit → Env → St → Prop} (A : St) (kd : Nat → Nat) (p : List Nat) (hm : P.follows .mixedOrders = true) (hQ : ∀ c e e' s, Q (.panic c) e s → Q (.panic c) e' s) (hc : chk ops.toArray kd p (ancs ops.toArray) = true) (hA : A.sub s)
    (h : match fcp (dsts ops) (pickL ops kd p) with
      | some (ds, L) => pwP P A ds N L e s (Q .normal) (fun c e s => Q (.panic c) e s)
      | none => False) : PW P N (.region id ops.toArray true) e s Q := PW.draw hm hQ hc hA (pwD_of p h)
/-- What comes behind is closed while a piece is told. -/
theorem pwC_cut {x y : Code} {Q : Exit → Env → St → Prop} (h : ∀ K : Env → St → Prop, (∀ e s, pwC P N y e s Q → K e s) → pwC P N x e s (thenQ K Q)) : pwC P N (.seq x y) e s Q :=
  h (fun e s => pwC P N y e s Q) fun _ _ h => h
/-- Between two lines of a function, too. -/
theorem PW.conv {c : Code} {Q : Exit → Env → St → Prop} {e' : Env} {s' : St} (h : ∀ (g : G) (w : World), Holds g s w → ∃ g', LE g w g' w ∧ Holds g' s' w ∧ ∀ t v, VR w g (e t) v → VR w g' (e' t) v) (hq : PW P N c e' s' Q) : PW P N c e s Q := by
  intro r B g a w hr hH hE hd
  obtain ⟨g', hle, hH', hv⟩ := h g w hH
  exact wpIn_mono (hq r B g' a w hr hH' ⟨hE.size, fun t => hv t _ (hE.vr t)⟩ (hd.le hle)) fun _ _ _ => PQ.trans hle
end
end Go.Pv

/- A logic over plain values: a block that lies inside another is frozen. -/
namespace Go.Pv
set_option linter.unusedVariables false
set_option linter.unusedSimpArgs false
section
variable {w : World} {g : G} {s : St}
theorem Conv.inner {i b m : Nat} {ty ty2 : TypeId} {sz sz2 : Nat} {els els2 : List (List PV)} {xs cs : List PV} (hib : i ≠ b) (hs : s i = some (.row ty sz els)) (hx : xs.map PV.cells = els) (hb : s b = some (.row ty2 sz2 els2)) (hm : els2[m]? = some cs)
    (hl : ∀ j z off len, .sl j z off len ∈ cs → j = i → off + len ≤ els.length) (p : PV) : Conv s [p] ((s.upd i none).upd b (some (.row ty2 sz2 (els2.set m (cs.map (fz1 i xs)))))) [p] := by
  intro g w hH
  have hne : s i ≠ none := by rw [hs]; simp
  have hnb : s b ≠ none := by rw [hb]; simp
  have hsub : (s.upd i none).sub s := by
    intro k c hk
    by_cases h : k = i
    · subst h; rw [St.upd_same] at hk; cases hk
    · rwa [St.upd_ne _ _ h] at hk
  have hlt := (hH.blk i _ hs).lt
  have hle := LEv.freeze (g := g) (w := w) (g.mu i).blk
  have hZ : (g.freeze (g.mu i).blk).Z (g.mu i).blk := .inr rfl
  have hF : Holds (g.freeze (g.mu i).blk) (s.upd i none) w := (hH.sub hsub).freeze hlt (fun k hk hb => by
    by_cases h : k = i
    · subst h; rw [St.upd_same] at hk; exact hk rfl
    · rw [St.upd_ne _ _ h] at hk; exact h (hH.inj k i hk hne hb))
  have hin : ∀ k, ((s.upd i none).upd b (some (.row ty2 sz2 (els2.set m (cs.map (fz1 i xs)))))) k ≠ none → (s.upd i none) k ≠ none := by
    intro k hk
    by_cases h : k = b
    · subst h; rw [St.upd_ne _ _ (Ne.symm hib)]; exact hnb
    · rwa [St.upd_ne _ _ h] at hk
  have hole : ∀ k bb, ((s.upd i none).upd b (some (.row ty2 sz2 (els2.set m (cs.map (fz1 i xs)))))) k = some bb → bb.isRo = false → ∃ b', (s.upd i none) k = some b' ∧ b'.isRo = false := fun k bb hk hr => by
    by_cases h : k = b
    · subst h; rw [St.upd_ne _ _ (Ne.symm hib)]; exact ⟨_, hb, rfl⟩
    · rw [St.upd_ne _ _ h] at hk; exact ⟨bb, hk, hr⟩
  refine ⟨g.freeze (g.mu i).blk, LE.freeze _, ⟨fun k hk => ?_, hF.zlt, fun k c hk => ?_, fun k l hk hl => hF.inj k l (hin k hk) (hin l hl), fun k bb hk hr => (hole k bb hk hr).elim fun b' h => hF.apart k b' h.1 h.2⟩, rfl, ?_⟩
  · by_cases h : k = b
    · subst h
      have := hF.fresh _ hk
      rw [St.upd_ne _ _ (Ne.symm hib)] at this
      exact absurd this hnb
    · rw [St.upd_ne _ _ h]; exact hF.fresh k hk
  · by_cases h : k = b
    · subst h
      rw [St.upd_same] at hk
      cases hk
      obtain ⟨_, _, _, arr, hz, h1, h2, h3, h4, h5⟩ := hH.blk k _ hb
      refine .row _ _ _ arr hz h1 h2 (by simpa using h3) (fun j c hj => ?_) (fun j c f d hj hf => ?_)
      · rw [List.getElem?_set] at hj
        split at hj
        · split at hj
          · cases hj; rw [List.length_map]; exact h4 m cs hm
          · cases hj
        · exact h4 j c hj
      · rw [List.getElem?_set] at hj
        split at hj
        · rename_i hmj
          subst hmj
          split at hj
          · cases hj
            rw [List.getElem?_map] at hf
            cases hc : cs[f]? with
            | none => rw [hc] at hf; cases hf
            | some q =>
              rw [hc] at hf
              cases hf
              obtain ⟨u, q1, q2, q3⟩ := h5 m cs f q hm hc
              refine ⟨u, q1, q2, fz1_vr hH hs hx hle hZ (fun a z o l he hji => hl a z o l ?_ hji) q3⟩
              rw [← he]; exact List.mem_of_getElem? hc
          · cases hj
        · obtain ⟨u, q1, q2, q3⟩ := h5 j c f d hj hf
          exact ⟨u, q1, q2, q3.le hle⟩
    · rw [St.upd_ne _ _ h] at hk
      exact hF.blk k c hk
  · intro k q q' v hq hq' hv
    rw [hq] at hq'
    cases hq'
    exact hv.le hle
theorem set_same {α : Type} {l : List α} {k : Nat} {a : α} (h : l[k]? = some a) : l.set k a = l := by
  obtain ⟨h1, h2⟩ := List.getElem?_eq_some_iff.1 h
  subst h2
  exact List.set_getElem_self h1
/-- The same in a tuple. -/
theorem Conv.freezeT {i : Nat} {ty : TypeId} {sz : Nat} {els : List (List PV)} {xs : List PV} (hs : s i = some (.row ty sz els)) (hx : xs.map PV.cells = els) (ts : List PV)
    (hb : ∀ j z off len, (.sl j z off len ∈ ts ∨ ∃ cs, .agg cs ∈ ts ∧ .sl j z off len ∈ cs) → j = i → off + len ≤ els.length) : Conv s [.tup ts] (s.upd i none) [fz i xs (.tup ts)] := by
  intro g w hH
  have hne : s i ≠ none := by rw [hs]; simp
  have hsub : (s.upd i none).sub s := by
    intro k b hk
    by_cases h : k = i
    · subst h; rw [St.upd_same] at hk; cases hk
    · rwa [St.upd_ne _ _ h] at hk
  have hlt := (hH.blk i _ hs).lt
  refine ⟨g.freeze (g.mu i).blk, LE.freeze _, (hH.sub hsub).freeze hlt (fun k hk hb => ?_), rfl, ?_⟩
  · by_cases h : k = i
    · subst h; rw [St.upd_same] at hk; exact hk rfl
    · rw [St.upd_ne _ _ h] at hk; exact h (hH.inj k i hk hne hb)
  · intro k q q' v hq hq' hv
    cases k with
    | succ k => simp at hq
    | zero =>
      cases hq; cases hq'
      have hle := LEv.freeze (g := g) (w := w) (g.mu i).blk
      have hZ : (g.freeze (g.mu i).blk).Z (g.mu i).blk := .inr rfl
      cases hv with
      | tup _ vs h1 h3 =>
        refine .tup _ vs (by simpa using h1) (fun j c u hc hu => ?_)
        rw [List.getElem?_map] at hc
        cases hcj : ts[j]? with
        | none => rw [hcj] at hc; cases hc
        | some c0 =>
          rw [hcj] at hc
          cases hc
          have hu' := h3 j c0 u hcj hu
          have hm := List.mem_of_getElem? hcj
          dsimp only
          split
          · rename_i ds
            cases hu' with
            | agg _ us k1 k2 k3 =>
              refine .agg _ us (by simpa using k1) k2 (fun l c x hc hx' => ?_)
              rw [List.getElem?_map] at hc
              cases hcl : ds[l]? with
              | none => rw [hcl] at hc; cases hc
              | some c1 =>
                rw [hcl] at hc
                cases hc
                exact fz1_vr hH hs hx hle hZ (fun a b c d he hji => hb a b c d (.inr ⟨ds, hm, by rw [← he]; exact List.mem_of_getElem? hcl⟩) hji) (k3 l c1 x hcl hx')
          · exact fz1_vr hH hs hx hle hZ (fun a b c d he hji => hb a b c d (.inl (by rw [← he]; exact hm)) hji) hu'
end
end Go.Pv

/- A logic over plain values: slices of one's own that grow, and end as lists. -/
namespace Go.Pv
set_option linter.unusedVariables false
set_option linter.unusedSimpArgs false
/-- A slice that has been appended to: nil as long as it is empty, else a block of its own. -/
def OwnL (ty : TypeId) (sz : Nat) (base : St) (els : List (List PV)) (v : PV) (s : St) : Prop :=
  (els = [] ∧ v = .vec .nil [] ∧ s = base) ∨ (els ≠ [] ∧ ∃ j, Fresh base j ∧ v = .sl j sz 0 els.length ∧ s = base.upd j (some (.row ty sz els)))
theorem OwnL.nil (ty : TypeId) (sz : Nat) (base : St) : OwnL ty sz base [] (.vec .nil []) base := .inl ⟨rfl, rfl, rfl⟩
section
variable {P : Program} {s base : St} {ty sz : Nat} {els : List (List PV)} {v : PV}
theorem OwnL.sub (h : OwnL ty sz base els v s) : base.sub s := by
  rcases h with ⟨_, _, rfl⟩ | ⟨_, j, hj, _, rfl⟩
  · exact sub_refl
  · exact sub_refl.upd hj
theorem OwnL.at (h : OwnL ty sz base els v s) {k : Nat} {b : Blk} (hk : base k = some b) : s k = some b := h.sub k b hk
theorem appOwn {t t2 b : Nat} {z : Value} {y : PV} {ys : List (List PV)} {K : PV → St → Prop} (h : OwnL ty sz base els v s) (h1 : sliceT P t = some ty) (h2 : tsz P ty = some sz) (h3 : tby P ty = some b) (h4 : tzero P ty = some z) (h5 : z.cells.size = sz) (h6 : b ≠ 0)
    (h7 : ((sliceT P t2).isSome || isStrT P t2) = true) (hy : ∀ s, elemsOf s sz y = some ys) (hl : (2 * (els.length + ys.length) + 1000) * b ≤ 281474976710656) (hK : ∀ v' s', OwnL ty sz base (els ++ ys) v' s' → K v' s') : appW P s t t2 v y K := by
  unfold appW
  refine ex_okv h1 (ex_okv h2 (ex_okv h3 (ex_okv h4 (ex_okv (hy s) ⟨h5, h6, h7, fun he => ?_, fun he => ?_⟩))))
  · subst he
    rw [List.append_nil] at hK
    rcases h with ⟨rfl, rfl, rfl⟩ | ⟨h0, j, hj, rfl, rfl⟩
    · exact ⟨rfl, hK _ _ (.inl ⟨rfl, rfl, rfl⟩)⟩
    · exact ⟨rfl, hK _ _ (.inr ⟨h0, j, hj, rfl, rfl⟩)⟩
  · rcases h with ⟨rfl, rfl, rfl⟩ | ⟨h0, j, hj, rfl, rfl⟩
    · simp only
      refine ex_okv (v := []) rfl ⟨by simp, by simpa using hl, fun i hi => hK _ _ (.inr ⟨by simpa using he, i, hi, by simp, by simp⟩)⟩
    · simp only [St.upd_same]
      refine ⟨trivial, trivial, trivial, trivial, trivial, hl, fun i hi => hK _ _ (.inr ⟨by simp [h0], i, ?_, by simp, ?_⟩)⟩
      · by_cases hij : i = j
        · subst hij; rw [St.upd_same] at hi; cases hi
        · rw [St.upd_ne _ _ hij] at hi; exact hi
      · congr 1
        rw [St.upd_upd]
        exact St.upd_none hj
/-- Such a slice ends as a list. -/
theorem Conv.own (h : OwnL ty sz base els v s) {xs : List PV} (hx : xs.map PV.cells = els) (rest : List PV) : Conv s (v :: rest) base (.vec .any xs :: rest) := by
  rcases h with ⟨rfl, rfl, rfl⟩ | ⟨h0, i, hi, rfl, rfl⟩
  · have : xs = [] := by simpa using hx
    subst this
    refine .wk (.cons (.any .nil []) ?_)
    clear hx
    induction rest with
    | nil => exact .nil
    | cons p r ih => exact .cons (.refl p) ih
  · intro g w hH
    have hs : (base.upd i (some (.row ty sz els))) i = some (.row ty sz els) := St.upd_same _ _ _
    have hne : (base.upd i (some (.row ty sz els))) i ≠ none := by rw [hs]; simp
    have hsub : base.sub (base.upd i (some (.row ty sz els))) := sub_refl.upd hi
    have hlt := (hH.blk i _ hs).lt
    have hxl : xs.length = els.length := by rw [← hx]; simp
    refine ⟨g.freeze (g.mu i).blk, LE.freeze _, (hH.sub hsub).freeze hlt (fun k hk hb => ?_), rfl, fun k q q' u hq hq' hu => ?_⟩
    · have hki : k ≠ i := fun e => hk (by subst e; exact hi)
      exact hki (hH.inj k i (by rw [St.upd_ne _ _ hki]; exact hk) hne hb)
    · have hle := LEv.freeze (g := g) (w := w) (g.mu i).blk
      have hZ : (g.freeze (g.mu i).blk).Z (g.mu i).blk := .inr rfl
      cases k with
      | zero =>
        cases hq; cases hq'
        have := fz1_vr hH hs hx hle hZ (p := .sl i sz 0 els.length) (fun a b c d he _ => by cases he; omega) hu
        have he : fz1 i xs (.sl i sz 0 els.length) = .vec .any xs := by simp [fz1]; rw [List.take_of_length_le (by omega)]
        rw [he] at this
        exact this
      | succ k =>
        rw [List.getElem?_cons_succ] at hq hq'
        rw [hq] at hq'
        cases hq'
        exact hu.le hle
end
end Go.Pv

/- A logic over plain values: blocks told otherwise between two lines. -/
namespace Go.Pv
set_option linter.unusedVariables false
set_option linter.unusedSimpArgs false
section
variable {P : Program} {N : Nat} {e : Env} {Q : Exit → Env → St → Prop} {s s' : St}
theorem PW.convS {c : Code} (h : Conv s [] s' []) (hq : PW P N c e s' Q) : PW P N c e s Q :=
  PW.conv (fun g w hH => by
    obtain ⟨g', hle, hH', _, _⟩ := h g w hH
    exact ⟨g', hle, hH', fun t v hv => hv.le hle.toLEv⟩) hq
theorem Conv.drop0 {p : List PV} (h : Conv s p s' p) : Conv s [] s' [] := fun g w hH => by
  obtain ⟨g', hle, hH', _, _⟩ := h g w hH
  exact ⟨g', hle, hH', rfl, fun i p p' v hp => by simp at hp⟩
/-- What comes behind is closed, as a triple. -/
theorem PW.cut {x y : Code} (h : ∀ K : Env → St → Prop, (∀ e s, PW P N y e s Q → K e s) → pwC P N x e s (thenQ K Q)) : PW P N (.seq x y) e s Q :=
  PW.seq (pwC_sound _ _ _ _ (h (fun e s => PW P N y e s Q) fun _ _ h => h))
/-- .. under one name, which allows that blocks are told otherwise. -/
theorem PW.cutR {x y : Code} (h : ∀ R : Env → St → Prop, (∀ e s, PW P N y e s Q → R e s) → (∀ e s s', Conv s [] s' [] → R e s' → R e s) → pwC P N x e s (thenQ R Q)) : PW P N (.seq x y) e s Q :=
  PW.seq (pwC_sound _ _ _ _ (h (fun e s => PW P N y e s Q) (fun _ _ h => h) fun _ _ _ hc h => PW.convS hc h))
theorem Conv.mid {v x : PV} {pre post : List PV} (h : Conv s (v :: (pre ++ post)) s' (x :: (pre ++ post))) : Conv s (pre ++ v :: post) s' (pre ++ x :: post) := by
  intro g w hH
  obtain ⟨g', hle, hH', _, hr⟩ := h g w hH
  refine ⟨g', hle, hH', by simp, fun i p p' u hp hp' hu => ?_⟩
  rcases Nat.lt_trichotomy i pre.length with hi | hi | hi
  · rw [List.getElem?_append_left hi] at hp hp'
    exact hr (i + 1) p p' u (by rw [List.getElem?_cons_succ, List.getElem?_append_left hi]; exact hp) (by rw [List.getElem?_cons_succ, List.getElem?_append_left hi]; exact hp') hu
  · subst hi
    simp at hp hp'
    subst hp hp'
    exact hr 0 _ _ u rfl rfl hu
  · rw [List.getElem?_append_right (by omega)] at hp hp'
    obtain ⟨d, hd⟩ : ∃ d, i - pre.length = d + 1 := ⟨i - pre.length - 1, by omega⟩
    rw [hd, List.getElem?_cons_succ] at hp hp'
    have hid : i - 1 + 1 = i := by omega
    refine hr (i - 1 + 1) p p' u ?_ ?_ hu
    · rw [List.getElem?_cons_succ, List.getElem?_append_right (by omega), show i - 1 - pre.length = d by omega]; exact hp
    · rw [List.getElem?_cons_succ, List.getElem?_append_right (by omega), show i - 1 - pre.length = d by omega]; exact hp'
/-- A slice that began as an empty literal. -/
def OwnT (ty : TypeId) (sz : Nat) (base : St) (els : List (List PV)) (v : PV) (s : St) : Prop :=
  (els = [] ∧ v = .vec .tight [] ∧ s = base) ∨ (els ≠ [] ∧ ∃ j, Fresh base j ∧ v = .sl j sz 0 els.length ∧ s = base.upd j (some (.row ty sz els)))
theorem OwnT.sub {ty : TypeId} {sz : Nat} {base : St} {els : List (List PV)} {v : PV} (h : OwnT ty sz base els v s) : base.sub s := by
  rcases h with ⟨_, _, rfl⟩ | ⟨_, j, hj, _, rfl⟩
  · exact sub_refl
  · exact sub_refl.upd hj
theorem appT {t t2 b ty sz : Nat} {z : Value} {y : PV} {ys : List (List PV)} {K : PV → St → Prop} (h1 : sliceT P t = some ty) (h2 : tsz P ty = some sz) (h3 : tby P ty = some b) (h4 : tzero P ty = some z) (h5 : z.cells.size = sz) (h6 : b ≠ 0)
    (h7 : ((sliceT P t2).isSome || isStrT P t2) = true) (hy : elemsOf s sz y = some ys) (hl : (2 * ys.length + 1000) * b ≤ 281474976710656) (hK : ∀ v' s', OwnT ty sz s ys v' s' → K v' s') : appW P s t t2 (.vec .tight []) y K := by
  unfold appW
  refine ex_okv h1 (ex_okv h2 (ex_okv h3 (ex_okv h4 (ex_okv hy ⟨h5, h6, h7, fun he => ?_, fun he => ?_⟩))))
  · exact ⟨rfl, hK _ _ (.inl ⟨he, rfl, rfl⟩)⟩
  · refine ex_okv (v := []) rfl ⟨by simp, by simpa using hl, fun i hi => hK _ _ (.inr ⟨he, i, hi, by simp, by simp⟩)⟩
theorem appT2 {t t2 b ty sz : Nat} {z : Value} {base : St} {els : List (List PV)} {v y : PV} {ys : List (List PV)} {K : PV → St → Prop} (h : OwnT ty sz base els v s) (h1 : sliceT P t = some ty) (h2 : tsz P ty = some sz) (h3 : tby P ty = some b) (h4 : tzero P ty = some z) (h5 : z.cells.size = sz) (h6 : b ≠ 0)
    (h7 : ((sliceT P t2).isSome || isStrT P t2) = true) (hy : ∀ s, elemsOf s sz y = some ys) (hne : ys ≠ []) (hl : (2 * (els.length + ys.length) + 1000) * b ≤ 281474976710656) (hK : ∀ v' s', OwnL ty sz base (els ++ ys) v' s' → K v' s') : appW P s t t2 v y K := by
  rcases h with ⟨rfl, rfl, rfl⟩ | ⟨h0, j, hj, rfl, rfl⟩
  · refine appT h1 h2 h3 h4 h5 h6 h7 (hy _) (by simpa using hl) fun v' s' h => hK v' s' ?_
    rcases h with ⟨q, _⟩ | ⟨q, k, hk, rfl, rfl⟩
    · exact absurd q hne
    · exact .inr ⟨by simpa using hne, k, hk, by simp, by simp⟩
  · exact appOwn (.inr ⟨h0, j, hj, rfl, rfl⟩) h1 h2 h3 h4 h5 h6 h7 hy hl hK
/-- Fewer blocks, in a part of the state. -/
theorem OwnL.shrink {ty : TypeId} {sz : Nat} {b b1 : St} {els : List (List PV)} {v : PV} (h : OwnL ty sz b1 els v s) (hb : b.sub b1) : ∃ s2 : St, s2.sub s ∧ OwnL ty sz b els v s2 := by
  rcases h with ⟨h1, h2, rfl⟩ | ⟨h0, j, hj, rfl, rfl⟩
  · exact ⟨b, hb, .inl ⟨h1, h2, rfl⟩⟩
  · refine ⟨b.upd j (some (.row ty sz els)), fun k z hk => ?_, .inr ⟨h0, j, hb.fresh hj, rfl, rfl⟩⟩
    by_cases h : k = j
    · subst h; rw [St.upd_same] at hk ⊢; exact hk
    · rw [St.upd_ne _ _ h] at hk ⊢; exact hb k z hk
theorem St.sub.upd_of {s t : St} {i : Nat} {b : Option Blk} (h : s.sub t) (hi : s i = none) : s.sub (t.upd i b) := fun j c hj => by
  by_cases hji : j = i
  · subst hji; rw [hi] at hj; cases hj
  · rw [St.upd_ne _ _ hji]; exact h j c hj
/-- Less is known of a block's cells. -/
theorem Conv.wkBlk {b : Nat} {ty : TypeId} {sz : Nat} {els els' : List (List PV)} (hs : s b = some (.row ty sz els)) (hl : els'.length = els.length) (hw : ∀ (j : Nat) (cs : List PV), els[j]? = some cs → ∃ cs', els'[j]? = some cs' ∧ cs'.length = cs.length ∧ ∀ (f : Nat) (c c' : PV), cs[f]? = some c → cs'[f]? = some c' → Wk c c') :
    Conv s [] (s.upd b (some (.row ty sz els'))) [] := by
  intro g w hH
  refine ⟨g, .refl _ _, ?_, rfl, fun i p p' v hp => by simp at hp⟩
  have hne : s b ≠ none := by rw [hs]; simp
  have hold : ∀ k, (s.upd b (some (.row ty sz els'))) k ≠ none → s k ≠ none := fun k hk => by
    by_cases h1 : k = b
    · rw [h1]; exact hne
    · rwa [St.upd_ne _ _ h1] at hk
  refine ⟨fun k hk => ?_, hH.zlt, fun k c hk => ?_, fun k j hk hj => hH.inj k j (hold k hk) (hold j hj), fun k c hk hr => ?_⟩
  · have := hH.fresh k hk
    by_cases h1 : k = b
    · subst h1; exact absurd this hne
    · rw [St.upd_ne _ _ h1]; exact this
  · by_cases h1 : k = b
    · subst h1
      rw [St.upd_same] at hk
      cases hk
      obtain ⟨_, _, _, arr, hz, h2, h3, h4, h5, h6⟩ := hH.blk k _ hs
      have get : ∀ (j : Nat) (cs' : List PV), els'[j]? = some cs' → ∃ cs, els[j]? = some cs ∧ cs'.length = cs.length ∧ ∀ (f : Nat) (c c' : PV), cs[f]? = some c → cs'[f]? = some c' → Wk c c' := fun j cs' hj => by
        have hlt : j < els.length := by rw [← hl]; exact (List.getElem?_eq_some_iff.1 hj).1
        obtain ⟨cs2, q1, q2, q3⟩ := hw j _ (List.getElem?_eq_getElem hlt)
        rw [hj] at q1
        cases q1
        exact ⟨_, List.getElem?_eq_getElem hlt, q2, q3⟩
      refine .row _ _ _ arr hz h2 h3 (by rw [hl]; exact h4) (fun j cs' hj => ?_) (fun j cs' f c' hj hf => ?_)
      · obtain ⟨cs, q1, q2, _⟩ := get j cs' hj
        rw [q2]; exact h5 j cs q1
      · obtain ⟨cs, q1, q2, q3⟩ := get j cs' hj
        have hlt : f < cs.length := by rw [← q2]; exact (List.getElem?_eq_some_iff.1 hf).1
        obtain ⟨v, r1, r2, r3⟩ := h6 j cs f _ q1 (List.getElem?_eq_getElem hlt)
        exact ⟨v, r1, r2, r3.wk (q3 f _ c' (List.getElem?_eq_getElem hlt) hf)⟩
    · rw [St.upd_ne _ _ h1] at hk
      exact hH.blk k c hk
  · by_cases h1 : k = b
    · subst h1
      exact hH.apart k _ hs rfl
    · rw [St.upd_ne _ _ h1] at hk
      exact hH.apart k c hk hr
theorem fz1_off {j : Nat} {xs : List PV} : ∀ {l : List PV}, (∀ i z o n, PV.sl i z o n ∉ l) → l.map (fz1 j xs) = l
  | [], _ => rfl
  | c :: l, h => by
    rw [List.map_cons, fz1_off (fun i z o n hm => h i z o n (List.mem_cons_of_mem _ hm))]
    congr 1
    cases c with
    | sl i z o n => exact absurd List.mem_cons_self (h i z o n)
    | _ => rfl
/-- A slice of one's own, inside a struct, ends as a list. -/
theorem Conv.ownAgg {ty : TypeId} {sz : Nat} {base : St} {els : List (List PV)} {v : PV} (h : OwnL ty sz base els v s) {xs : List PV} (hx : xs.map PV.cells = els) (pre post : List PV) (h1 : ∀ i z o n, PV.sl i z o n ∉ pre) (h2 : ∀ i z o n, PV.sl i z o n ∉ post) :
    Conv s [.agg (pre ++ v :: post)] base [.agg (pre ++ .vec .any xs :: post)] := by
  rcases h with ⟨rfl, rfl, rfl⟩ | ⟨h0, j, hj, rfl, rfl⟩
  · have : xs = [] := by simpa using hx
    subst this
    refine Conv.wk (.cons (Wk.aggs ?_) .nil)
    clear hx h1 h2
    induction pre with
    | nil =>
      refine .cons (.any .nil []) ?_
      induction post with
      | nil => exact .nil
      | cons c r ih => exact .cons (.refl _) ih
    | cons c r ih => exact .cons (.refl _) ih
  · have := Conv.freeze (s := base.upd j (some (.row ty sz els))) (i := j) (St.upd_same _ _ _) hx (.agg (pre ++ PV.sl j sz 0 els.length :: post)) (fun a z o l hp hj => by
      rcases hp with hp | ⟨cs, hp, hm⟩
      · cases hp
      · cases hp
        rcases List.mem_append.1 hm with hm | hm
        · exact absurd hm (h1 _ _ _ _)
        · rcases List.mem_cons.1 hm with hm | hm
          · cases hm; simp
          · exact absurd hm (h2 _ _ _ _)) (fun cs h => by cases h)
    rw [St.upd_upd, St.upd_none hj] at this
    have hl : xs.length = els.length := by rw [← hx]; simp
    have he : fz j xs (.agg (pre ++ PV.sl j sz 0 els.length :: post)) = .agg (pre ++ .vec .any xs :: post) := by
      simp only [fz, List.map_append, List.map_cons, fz1_off h1, fz1_off h2]
      congr 3
      simp [fz1]
      rw [List.take_of_length_le (by omega)]
    rw [he] at this
    exact this
/-- What holds no slice into a block. -/
def plainP : PV → Prop
  | .agg ds => ∀ i z o n, PV.sl i z o n ∉ ds
  | .sl _ _ _ _ => False
  | _ => True
def fzT (j : Nat) (xs : List PV) (c : PV) : PV := match c with | .agg ds => .agg (ds.map (fz1 j xs)) | c => fz1 j xs c
theorem fzT_off {j : Nat} {xs : List PV} : ∀ {l : List PV}, (∀ c ∈ l, plainP c) → l.map (fzT j xs) = l
  | [], _ => rfl
  | c :: l, h => by
    rw [List.map_cons, fzT_off (fun d hd => h d (List.mem_cons_of_mem _ hd))]
    have hc := h c List.mem_cons_self
    congr 1
    cases c with
    | agg ds => simp only [fzT]; rw [fz1_off hc]
    | sl i z o n => exact hc.elim
    | _ => rfl
theorem fz_tup (j : Nat) (xs : List PV) (l : List PV) : fz j xs (.tup l) = .tup (l.map (fzT j xs)) := rfl
/-- A slice of one's own, among a function's results, ends as a list. -/
theorem Conv.ownTup {ty : TypeId} {sz : Nat} {base : St} {els : List (List PV)} {v : PV} (h : OwnL ty sz base els v s) {xs : List PV} (hx : xs.map PV.cells = els) (pre post : List PV) (h1 : ∀ c ∈ pre, plainP c) (h2 : ∀ c ∈ post, plainP c) :
    Conv s [.tup (pre ++ v :: post)] base [.tup (pre ++ .vec .any xs :: post)] := by
  rcases h with ⟨rfl, rfl, rfl⟩ | ⟨h0, j, hj, rfl, rfl⟩
  · have : xs = [] := by simpa using hx
    subst this
    have hw : Wks (pre ++ PV.vec .nil [] :: post) (pre ++ PV.vec .any [] :: post) := by
      clear hx h1 h2
      induction pre with
      | nil =>
        refine .cons (.any .nil []) ?_
        induction post with
        | nil => exact .nil
        | cons c r ih => exact .cons (.refl _) ih
      | cons c r ih => exact .cons (.refl _) ih
    refine Conv.wk (.cons (.tup _ _ hw.length_eq.symm ?_) .nil)
    clear h1 h2 hx
    generalize pre ++ PV.vec .nil [] :: post = a at hw
    generalize pre ++ PV.vec .any [] :: post = b at hw
    induction hw with
    | nil => intro i c d hc; simp at hc
    | cons h _ ih =>
      intro i c d hc hd
      cases i with
      | zero => cases hc; cases hd; exact h
      | succ i => exact ih i c d hc hd
  · have := Conv.freezeT (s := base.upd j (some (.row ty sz els))) (i := j) (St.upd_same _ _ _) hx (pre ++ PV.sl j sz 0 els.length :: post) (fun a z o l hp hj => by
      rcases hp with hp | ⟨cs, hp, hm⟩
      · rcases List.mem_append.1 hp with hm | hm
        · exact (h1 _ hm).elim
        · rcases List.mem_cons.1 hm with hm | hm
          · cases hm; simp
          · exact (h2 _ hm).elim
      · rcases List.mem_append.1 hp with hq | hq
        · exact absurd hm (h1 _ hq _ _ _ _)
        · rcases List.mem_cons.1 hq with hq | hq
          · cases hq
          · exact absurd hm (h2 _ hq _ _ _ _))
    rw [St.upd_upd, St.upd_none hj] at this
    have hl : xs.length = els.length := by rw [← hx]; simp
    rw [fz_tup] at this
    have he : (pre ++ PV.sl j sz 0 els.length :: post).map (fzT j xs) = pre ++ .vec .any xs :: post := by
      rw [List.map_append, List.map_cons, fzT_off h1, fzT_off h2]
      congr 2
      simp [fzT, fz1]
      rw [List.take_of_length_le (by omega)]
    rw [he] at this
    exact this
end
end Go.Pv

/- Trees as plain data. -/
namespace Go.Pv
set_option linter.unusedVariables false
set_option linter.unusedSimpArgs false
structure Nd where
  op : Int
  s : ByteArray
  n : Int
  fr : Int
  to : Int
  l : List Nd
def enc : Nd → PV
  | ⟨op, s, n, fr, to, l⟩ => .agg [.lit (.int .i64 op), .lit (.string s), .lit (.int .i64 n), .lit (.int .i64 fr), .lit (.int .i64 to), .vec .any (l.attach.map fun ⟨x, _⟩ => enc x)]
@[reducible] def encC (x : Nd) : List PV := [.lit (.int .i64 x.op), .lit (.string x.s), .lit (.int .i64 x.n), .lit (.int .i64 x.fr), .lit (.int .i64 x.to), .vec .any (x.l.map enc)]
@[reducible] def encU (x : Nd) : PV := .agg [.lit (.int .i64 x.op), .lit (.string x.s), .lit (.int .i64 x.n), .lit (.int .i64 x.fr), .lit (.int .i64 x.to), .vec .any (x.l.map enc)]
@[simp] theorem enc_eq (x : Nd) : enc x = encU x := by
  obtain ⟨op, s, n, fr, to, l⟩ := x
  rw [enc]
  simp only [encU, List.map_attach_eq_pmap, List.pmap_eq_map]
@[simp] theorem cells_enc : PV.cells ∘ enc = encC := by funext x; simp
@[simp] theorem width_enc : PV.width ∘ enc = fun _ => 6 := by funext x; simp
def zeroN : PV := .agg [.lit (.int .i64 0), .lit (.string ⟨#[]⟩), .lit (.int .i64 0), .lit (.int .i64 0), .lit (.int .i64 0), .vec .nil []]
@[reducible] def encI (l : List Int) : List PV := l.map fun n => .lit (.int .i64 n)
@[reducible] def ints (k : VK) (l : List Int) : PV := .vec k (l.map fun n => .lit (.int .i64 n))
def Nd.size : Nd → Nat
  | ⟨_, _, _, _, _, l⟩ => 1 + (l.attach.map fun ⟨x, _⟩ => x.size).sum
theorem Nd.size_eq (x : Nd) : x.size = 1 + (x.l.map Nd.size).sum := by
  obtain ⟨op, s, n, fr, to, l⟩ := x
  rw [Nd.size]
  simp only [List.map_attach_eq_pmap, List.pmap_eq_map]
theorem Nd.size_pos (x : Nd) : 1 ≤ x.size := by rw [x.size_eq]; omega
theorem sum_take_succ {l : List Nat} {k : Nat} (h : k < l.length) : (l.take (k + 1)).sum = (l.take k).sum + l[k] := by
  rw [List.take_succ_eq_append_getElem h, List.sum_append]; simp
theorem sum_take_le (l : List Nat) (k : Nat) : (l.take k).sum ≤ l.sum := by
  conv => rhs; rw [← List.take_append_drop k l]
  rw [List.sum_append]; omega
theorem len_le_size (l : List Nd) : l.length ≤ (l.map Nd.size).sum := by
  induction l with
  | nil => simp
  | cons a l ih => have := a.size_pos; simp; omega
theorem mem_le_sum {l : List Nd} {y : Nd} (h : y ∈ l) : y.size ≤ (l.map Nd.size).sum := by
  induction l with
  | nil => cases h
  | cons a l ih =>
    rcases List.mem_cons.1 h with rfl | h
    · simp
    · have := ih h; simp; omega
theorem Nd.mem_lt {x y : Nd} (h : y ∈ x.l) : y.size < x.size := by
  have := mem_le_sum h
  rw [x.size_eq]; omega
theorem Nd.len_lt (x : Nd) : x.l.length < x.size := by
  have := len_le_size x.l
  rw [x.size_eq]; omega
/-- The node at a path. -/
def atN : Nd → List Int → Option Nd
  | x, [] => some x
  | x, i :: p => if 0 ≤ i then (match x.l[i.toNat]? with
    | some y => atN y p
    | none => none) else none
/-- A node exchanged. -/
def repN : Nd → List Int → Nd → Option Nd
  | x, [], m => some m
  | x, i :: p, m => if 0 ≤ i then (match x.l[i.toNat]? with
    | some y => (repN y p m).map fun y' => { x with l := x.l.set i.toNat y' }
    | none => none) else none
theorem fresh_ne {s : St} {i k : Nat} {b : Blk} (h : Fresh s i) (hk : s k = some b) : i ≠ k := fun e => by subst e; rw [show s i = none from h] at hk; cases hk
theorem St.sub.set {s s' : St} {i : Nat} {b : Option Blk} (h : s.sub s') (hi : Fresh s i) : s.sub (s'.upd i b) := by
  intro j c hj
  by_cases hji : j = i
  · subst hji; rw [show s j = none from hi] at hj; cases hj
  · rw [St.upd_ne _ _ hji]; exact h j c hj
end Go.Pv

/- Two parts of a state; a tree's nodes with their paths, in the order of a walk. -/
namespace Go.Pv
set_option linter.unusedVariables false
set_option linter.unusedSimpArgs false
/-- One part, and another one beside it. -/
def join (b o : St) : St := fun i => match b i with
  | some x => some x
  | none => o i
def Disj (b o : St) : Prop := ∀ i, b i ≠ none → o i = none
theorem join_base {b o : St} {i : Nat} {x : Blk} (h : b i = some x) : join b o i = some x := by simp [join, h]
theorem join_own {b o : St} {i : Nat} {x : Blk} (hd : Disj b o) (h : o i = some x) : join b o i = some x := by
  unfold join
  cases hb : b i with
  | none => exact h
  | some y => have := hd i (by rw [hb]; simp); rw [h] at this; cases this
theorem Disj.off {b o : St} (hd : Disj b o) {i : Nat} {x : Blk} (h : o i = some x) : b i = none := by
  cases hb : b i with
  | none => rfl
  | some y => have := hd i (by rw [hb]; simp); rw [h] at this; cases this
theorem join_none {b o : St} {i : Nat} (h : Fresh (join b o) i) : Fresh b i ∧ Fresh o i := by
  unfold Fresh join at h
  cases hb : b i with
  | none => rw [hb] at h; exact ⟨hb, h⟩
  | some y => rw [hb] at h; cases h
theorem join_upd {b o : St} {i : Nat} (x : Option Blk) (h : o i = none) : (join b o).upd i x = join (b.upd i x) o := by
  funext j
  unfold join St.upd
  by_cases hj : j = i
  · subst hj
    simp only [if_true]
    cases x with
    | none => simp [h]
    | some y => rfl
  · simp [hj]
theorem join_updO {b o : St} {i : Nat} (x : Option Blk) (h : b i = none) : (join b o).upd i x = join b (o.upd i x) := by
  funext j
  unfold join St.upd
  by_cases hj : j = i
  · subst hj; simp [h]
  · simp [hj]
theorem Disj.upd {b o : St} {i : Nat} {x : Option Blk} (h : Disj b o) (ho : o i = none) : Disj (b.upd i x) o := fun j hj => by
  by_cases hji : j = i
  · subst hji; exact ho
  · rw [St.upd_ne _ _ hji] at hj; exact h j hj
theorem Disj.updO {b o : St} {i : Nat} {x : Option Blk} (h : Disj b o) (hb : b i = none) : Disj b (o.upd i x) := fun j hj => by
  by_cases hji : j = i
  · subst hji; exact absurd hb hj
  · rw [St.upd_ne _ _ hji]; exact h j hj
theorem join_sub (b o : St) : b.sub (join b o) := fun i x h => join_base h
theorem join_mono {b b' o : St} (h : b'.sub b) (hd : Disj b o) : (join b' o).sub (join b o) := fun i x hx => by
  unfold join at hx
  cases hb : b' i with
  | none =>
    rw [hb] at hx
    exact join_own hd hx
  | some y => rw [hb] at hx; cases hx; exact join_base (h i _ hb)
theorem Disj.sub {b b' o : St} (hd : Disj b o) (h : b'.sub b) : Disj b' o := fun i hi => by
  obtain ⟨y, hy⟩ := Option.ne_none_iff_exists'.1 hi
  exact hd i (by rw [h i y hy]; simp)
/-- A slice of one's own, in a part of a state; with a block more. -/
theorem OwnL.join {ty : TypeId} {sz : Nat} {base b o : St} {els : List (List PV)} {v : PV} (h : OwnL ty sz b els v o) (hd : Disj base o) : OwnL ty sz (Pv.join base b) els v (Pv.join base o) := by
  rcases h with ⟨h1, h2, rfl⟩ | ⟨h0, j, hj, rfl, rfl⟩
  · exact .inl ⟨h1, h2, rfl⟩
  · have hb : base j = none := by
      cases hb : base j with
      | none => rfl
      | some y => have := hd j (by rw [hb]; simp); rw [St.upd_same] at this; cases this
    refine .inr ⟨h0, j, ?_, rfl, (join_updO _ hb).symm⟩
    unfold Fresh Pv.join
    rw [hb]
    exact hj
theorem OwnL.upd {ty : TypeId} {sz k : Nat} {b o : St} {els : List (List PV)} {v : PV} {x : Option Blk} (h : OwnL ty sz b els v o) (hk : o k = none ∨ b k ≠ none) : OwnL ty sz (b.upd k x) els v (o.upd k x) := by
  rcases h with ⟨h1, h2, rfl⟩ | ⟨h0, j, hj, rfl, rfl⟩
  · exact .inl ⟨h1, h2, rfl⟩
  · have hjk : j ≠ k := by
      rintro rfl
      rcases hk with hk | hk
      · rw [St.upd_same] at hk; cases hk
      · exact hk hj
    refine .inr ⟨h0, j, ?_, rfl, St.upd_comm _ _ _ hjk⟩
    unfold Fresh
    rw [St.upd_ne _ _ hjk]
    exact hj
/-- The nodes of a tree with their paths, in preorder. -/
def walkN : Nd → List Int → List (List Int × Nd)
  | ⟨op, s, n, fr, to, l⟩, p => (p, ⟨op, s, n, fr, to, l⟩) :: (l.attach.zipIdx.flatMap fun ⟨⟨y, _⟩, i⟩ => walkN y (p ++ [(i : Int)]))
def walkL (p : List Int) (l : List (Nd × Nat)) : List (List Int × Nd) := l.flatMap fun yi => walkN yi.1 (p ++ [(yi.2 : Int)])
theorem walkN_eq (x : Nd) (p : List Int) : walkN x p = (p, x) :: walkL p x.l.zipIdx := by
  obtain ⟨op, s, n, fr, to, l⟩ := x
  rw [walkN]
  congr 1
  unfold walkL
  simp only
  conv => rhs; rw [← List.attach_map_subtype_val l]
  rw [List.zipIdx_map, List.flatMap_map]
  rfl
theorem walkL_snoc (p : List Int) (l : List (Nd × Nat)) (y : Nd) (i : Nat) : walkL p (l ++ [(y, i)]) = walkL p l ++ walkN y (p ++ [(i : Int)]) := by
  simp [walkL]
theorem zipIdx_take (l : List Nd) (j : Nat) (h : j < l.length) : (l.take (j + 1)).zipIdx = (l.take j).zipIdx ++ [(l[j], j)] := by
  rw [List.take_succ_eq_append_getElem h, List.zipIdx_append]
  simp [Nat.min_eq_left (Nat.le_of_lt h)]
end Go.Pv
