/- A logic over plain values: regions that draw their order. -/
import Derived.Test.YteajbghklmkoeaaPv10
import Derived.Orders
namespace Go.Pv
set_option linter.unusedVariables false
set_option linter.unusedSimpArgs false
/-! ### What an operation looks at -/
theorem ev_put {e : Env} {d : Option Tmp} {v : PV} {x : Operand} (h : ∀ t, d = some t → x ≠ .tmp t) : (e.put d v).ev x = e.ev x := by
  cases x with
  | tmp t =>
    cases d with
    | none => rfl
    | some d => simp only [Env.ev, Env.put]; rw [if_neg (fun e => h d rfl (by rw [e]))]
  | _ => rfl
theorem put_comm {e : Env} {d d' : Option Tmp} (v u : PV) (h : ∀ t, d = some t → d' ≠ some t) : (e.put d v).put d' u = (e.put d' u).put d v := by
  cases d with
  | none => rfl
  | some d =>
    cases d' with
    | none => rfl
    | some d' =>
      have hne : d' ≠ d := fun e => h d rfl (by rw [e])
      funext t
      simp only [Env.put]
      split <;> split <;> first | rfl | (subst_vars; exact absurd rfl hne) | (rename_i h1 h2; exact absurd (h2.symm.trans h1) (Ne.symm hne))
section
variable {P : Program} {s : St} {e e' : Env}
theorem map_ev {xs : List Operand} (h : ∀ x ∈ xs, e.ev x = e'.ev x) : xs.map e.ev = xs.map e'.ev := List.map_congr_left h
theorem parts_ev {ps : List (Nat × Operand)} (h : ∀ x ∈ ps.map (·.2), e.ev x = e'.ev x) : (ps.map fun p => (p.1, e.ev p.2)) = ps.map fun p => (p.1, e'.ev p.2) :=
  List.map_congr_left fun p hp => by rw [h p.2 (List.mem_map.2 ⟨p, hp, rfl⟩)]
theorem qcall_congr {c : Call} (h : ∀ x ∈ c.operands, e.ev x = e'.ev x) : qcall P e c = qcall P e' c := by
  have ha : ∀ x ∈ c.args.toList, e.ev x = e'.ev x := fun x hx => h x (by simp [Call.operands, Array.mem_toList_iff.1 hx])
  unfold qcall
  split
  · split
    · rename_i x t h1 h2; rw [ha x (by rw [h1]; simp)]
    · rfl
  · split
    · rename_i x y h1; rw [ha x (by rw [h1]; simp), ha y (by rw [h1]; simp)]
    · rfl
  · split
    · rename_i x y h1; rw [ha x (by rw [h1]; simp), ha y (by rw [h1]; simp)]
    · rfl
  · split
    · rename_i x t h1 h2; rw [ha x (by rw [h1]; simp)]
    · rfl
  · split
    · rename_i x h1; rw [ha x (by rw [h1]; simp)]
    · rfl
  · rfl
theorem qop_congr {op : Go.Op} (h : ∀ x ∈ op.operands, e.ev x = e'.ev x) : qop P e s op = qop P e' s op := by
  cases op <;> simp only [Go.Op.operands] at h <;> simp only [qop]
  case call c => exact qcall_congr h
  case makeFunc fn a b =>
    cases fn <;> simp only []
    rw [map_ev (xs := a.toList) fun x hx => h x (by simp [Array.mem_toList_iff.1 hx]), map_ev (xs := b.toList) fun x hx => h x (by simp [Array.mem_toList_iff.1 hx])]
  case slice t x lo hi mx =>
    cases mx with
    | some m =>
      have e1 : e.ev x = e'.ev x := h x (by simp)
      have e2 : e.ev m = e'.ev m := h m (by simp)
      cases lo with
      | some _ => rfl
      | none =>
        cases hi with
        | none => rfl
        | some hh =>
          have e3 : e.ev hh = e'.ev hh := h hh (by simp)
          simp only [e1, e2, e3]
    | none =>
      have e1 : e.ev x = e'.ev x := h x (by simp)
      have e2 : lo.map e.ev = lo.map e'.ev := by cases lo <;> simp_all
      have e3 : hi.map e.ev = hi.map e'.ev := by cases hi <;> simp_all
      simp only [e1, e2, e3]
  all_goals (first | rfl | (simp_all; done))
theorem opw_congr {op : Go.Op} {K : PV → St → Prop} {Kp : List PanicEntry → St → Prop} (h : ∀ x ∈ op.operands, e.ev x = e'.ev x) : opw P e s K Kp op = opw P e' s K Kp op := by
  cases op
  case call c =>
    have ha : ∀ x ∈ c.args.toList, e.ev x = e'.ev x := fun x hx => h x (by simp [Go.Op.operands, Call.operands, Array.mem_toList_iff.1 hx])
    have hq := qcall_congr (P := P) (c := c) (e := e) (e' := e') h
    simp only [opw]
    split
    · split
      · rename_i x y t t2 h1 h2; rw [ha x (by rw [h1]; simp), ha y (by rw [h1]; simp)]
      · rfl
    · split
      · rename_i x y t t2 h1 h2; rw [ha x (by rw [h1]; simp), ha y (by rw [h1]; simp)]
      · rfl
    · split
      · rename_i x y t t2 h1 h2; rw [ha x (by rw [h1]; simp), ha y (by rw [h1]; simp)]
      · rfl
    · rename_i f hf
      rw [map_ev ha, h f (by simp [Go.Op.operands, Call.operands, hf])]
    · rw [hq]
  case build t ps =>
    simp only [opw, bld]
    rw [parts_ev (ps := ps.toList) fun x hx => h x (by simpa [Go.Op.operands] using hx)]
  case buildSlice t len ps =>
    simp only [opw, mkSlice]
    have : (ps.toList.map fun p => e.ev p.2) = ps.toList.map fun p => e'.ev p.2 := List.map_congr_left fun p hp => h p.2 (by simp only [Go.Op.operands]; exact List.mem_toArray.2 (List.mem_map.2 ⟨p, hp, rfl⟩))
    rw [this]
  case alloc t => rfl
  case box t x => simp only [opw]; rw [h x (by simp [Go.Op.operands])]
  case store t p x => simp only [opw]; rw [h x (by simp [Go.Op.operands]), h p (by simp [Go.Op.operands])]
  case pick c x y => simp only [opw]; rw [h c (by simp [Go.Op.operands]), h x (by simp [Go.Op.operands]), h y (by simp [Go.Op.operands])]
  case binOp op t x y t2 => simp only [opw]; rw [h x (by simp [Go.Op.operands]), h y (by simp [Go.Op.operands])]
  case mapUpdate t m k v => simp only [opw]; rw [h m (by simp [Go.Op.operands]), h k (by simp [Go.Op.operands]), h v (by simp [Go.Op.operands])]
  case makeMap t r => cases r <;> first | rfl | (simp only [opw]; rw [qop_congr h])
  case convert src dst x => simp only [opw]; rw [h x (by simp [Go.Op.operands]), qop_congr h]
  all_goals (simp only [opw]; rw [qop_congr h])
theorem okv_mono {α : Type} {x : Option α} {K K' : α → Prop} (h : okv x K) (hK : ∀ v, K v → K' v) : okv x K' := by
  obtain ⟨v, h1, h2⟩ := okv_ex h
  exact ex_okv h1 (hK v h2)
theorem opw_mono {op : Go.Op} {K K' : PV → St → Prop} {Kp Kp' : List PanicEntry → St → Prop} (hK : ∀ v s, K v s → K' v s) (hKp : ∀ c s, Kp c s → Kp' c s) (h : opw P e s K Kp op) : opw P e s K' Kp' op := by
  have hq : (okv (qop P e s op) fun v => K v s) → okv (qop P e s op) fun v => K' v s := fun h => okv_mono h fun v => hK _ _
  cases op
  case call c =>
    simp only [opw] at h ⊢
    split at h
    · split at h
      · obtain ⟨el, n, b, z, q1, q2, q3, q4, q5, q6, q7, ys, q8, q9, q10⟩ := appW_iff.1 h
        refine appW_iff.2 ⟨el, n, b, z, q1, q2, q3, q4, q5, q6, q7, ys, q8, fun hy => ⟨(q9 hy).1, hK _ _ (q9 hy).2⟩, fun hy => ?_⟩
        have q := q10 hy
        split at q
        · obtain ⟨xe, r1, r2, r3, r4⟩ := q
          exact ⟨xe, r1, r2, r3, fun i hi => hK _ _ (r4 i hi)⟩
        · obtain ⟨els, r1, r2, r3, r4, r5, r6⟩ := q
          exact ⟨els, r1, r2, r3, r4, r5, fun i hi => hK _ _ (r6 i hi)⟩
        · exact q.elim
      · exact h.elim
    · split at h
      · unfold ustrW at h ⊢
        split at h
        · split at h
          · obtain ⟨h1, h2, h3, h4, h5, h6, h7⟩ := h
            exact ⟨h1, h2, h3, h4, h5, h6, okv_mono h7 fun v => hK _ _⟩
          · exact h
        · exact ⟨h.1, hK _ _ h.2⟩
        · exact h
      · exact h.elim
    · split at h
      · unfold cpyW at h ⊢
        exact okv_mono h fun el h => okv_mono h fun n h => okv_mono h fun ys h => ⟨h.1, h.2.1, hK _ _ h.2.2⟩
      · exact h.elim
    · unfold callW at h ⊢
      split at h
      · exact h.mono fun r s' hr => by cases r <;> first | exact hK _ _ hr | exact hKp _ _ hr
      · exact h.mono fun p s' hp => hK _ _ hp
      · exact h.elim
    · exact okv_mono h fun v => hK _ _
  case build t ps => exact okv_mono h fun v => hK _ _
  case buildSlice t len ps => exact okv_mono h fun v => hK _ _
  case alloc t => exact okv_mono h fun z hz => ⟨hz.1, fun i hi => hK _ _ (hz.2 i hi)⟩
  case box t x => obtain ⟨h2, h3⟩ := h; exact ⟨h2, fun i hi => hK _ _ (h3 i hi)⟩
  case store t p x =>
    simp only [opw] at h ⊢
    obtain ⟨i, j, f, ty, sz, els, cs, hp, h1, h2, h3, h4, h5, h6⟩ := storeW_ex h
    rw [hp]
    exact ex_storeW h1 h2 ⟨h3, h4, h5, hK _ _ h6⟩
  case pick c x y =>
    simp only [opw] at h ⊢
    split at h
    · exact ⟨fun ht => hK _ _ (h.1 ht), fun ht => hK _ _ (h.2 ht)⟩
    · exact h.elim
  case binOp op t x y t2 =>
    simp only [opw] at h ⊢
    unfold binW at h ⊢
    split at h
    · refine ⟨h.1, ?_⟩
      have h := h.2
      unfold eqNilW at h ⊢
      split at h
      · exact fun t h1 h2 => hK _ _ (h t h1 h2)
      · exact fun t h1 h2 => hK _ _ (h t h1 h2)
      · exact h
    · exact okv_mono h fun v => hK _ _
  case makeMap t r =>
    cases r with
    | none => exact ⟨h.1, fun i hi => hK _ _ (h.2 i hi)⟩
    | some r => exact hq h
  case mapUpdate t m k v =>
    simp only [opw] at h ⊢
    unfold mapW at h ⊢
    split at h
    · split at h
      · exact ⟨h.1, hK _ _ h.2⟩
      · exact h
    · exact h
  case convert src dst x =>
    simp only [opw] at h ⊢
    split at h
    · exact okv_mono h fun v => hK _ _
    · exact okv_mono h fun v => hK _ _
    · exact ⟨h.1, hK _ _ h.2⟩
    · exact okv_mono h fun v => hK _ _
  all_goals exact hq h
end
/-! ### Steps in any order -/
inductive Kind where
  | pure | read | quiet | grow | eff | steady
  deriving DecidableEq
def Kind.det : Kind → Bool
  | .eff => false
  | .grow => false
  | _ => true
/-- q: a call of a function is known to leave all as it was (1), to make blocks alone (2); a load reads what stays (3). -/
def kindOf (q : Nat) : Go.Op → Kind
  | .load _ _ => if q = 3 then .pure else .read
  | .lookup _ _ _ _ => .read
  | .alloc _ => .grow
  | .box _ _ => .grow
  | .store _ _ _ => .eff
  | .makeMap _ _ => .grow
  | .mapUpdate _ _ _ _ => .eff
  | .call c => match c.callee with
    | .builtin .append => .eff
    | .builtin .unsafeString => .eff
    | .builtin .copy => .eff
    | .builtin _ => .pure
    | _ => if q = 1 then .quiet else if q = 2 then .grow else if q = 4 then .steady else .eff
  | _ => .pure
/-- A: what stays as it is. -/
def pureV (P : Program) (A : St) (e : Env) : Go.Op → Option PV
  | .build t ps => bld P e t ps.toList
  | .buildSlice t len ps => mkSlice P e t len ps.toList
  | .pick c a b => match e.ev c with
    | .lit (.bool t) => some (if t = true then e.ev a else e.ev b)
    | _ => none
  | .load t x => qop P e A (.load t x)
  | .lookup _ _ _ _ => none
  | .call c => match c.callee with
    | .builtin .append => none
    | .builtin .unsafeString => none
    | .builtin .copy => none
    | _ => qcall P e c
  | op => qop P e St.empty op
/-- What an operation that is no effect gives. -/
def detV (P : Program) (A : St) (k : Kind) (s : St) (e : Env) (op : Go.Op) (v : PV) : Prop := match k with
  | .pure => pureV P A e op = some v
  | .read => qop P e s op = some v
  | .quiet => opw P e s (fun p s' => p = v ∧ s' = s) (fun _ _ => False) op
  | .steady => ∀ s, opw P e s (fun p s' => p = v ∧ s' = s) (fun _ _ => False) op
  | .grow => False
  | .eff => False
def dw (P : Program) (A : St) (k : Kind) (e : Env) (s : St) (K : PV → St → Prop) (Kp : List PanicEntry → St → Prop) (op : Go.Op) : Prop := match k with
  | .eff => opw P e s (fun v s' => A.sub s' ∧ K v s') Kp op
  | .pure => okv (pureV P A e op) fun v => K v s
  | .read => okv (qop P e s op) fun v => K v s
  | .quiet => ∃ v, detV P A .quiet s e op v ∧ K v s
  | .steady => ∃ v, detV P A .steady s e op v ∧ K v s
  | .grow => opw P e s (fun v s' => s.sub s' ∧ K v s') Kp op
section
variable {P : Program} {A : St} {s : St} {e e' : Env}
theorem dw_det {k : Kind} {op : Go.Op} {K : PV → St → Prop} {Kp : List PanicEntry → St → Prop} (hk : k.det = true) : dw P A k e s K Kp op ↔ ∃ v, detV P A k s e op v ∧ K v s := by
  cases k with
  | eff => cases hk
  | grow => cases hk
  | pure => exact ⟨fun h => okv_ex h, fun ⟨v, h1, h2⟩ => ex_okv h1 h2⟩
  | read => exact ⟨fun h => okv_ex h, fun ⟨v, h1, h2⟩ => ex_okv h1 h2⟩
  | quiet => exact Iff.rfl
  | steady => exact Iff.rfl
theorem pureV_congr {op : Go.Op} (h : ∀ x ∈ op.operands, e.ev x = e'.ev x) : pureV P A e op = pureV P A e' op := by
  cases op
  case call c =>
    have := qcall_congr (P := P) (c := c) (e := e) (e' := e') h
    simp only [pureV]; split <;> first | rfl | exact this
  case build t ps =>
    simp only [pureV, bld]
    rw [parts_ev (ps := ps.toList) fun x hx => h x (by simpa [Go.Op.operands] using hx)]
  case buildSlice t len ps =>
    simp only [pureV, mkSlice]
    have : (ps.toList.map fun p => e.ev p.2) = ps.toList.map fun p => e'.ev p.2 := List.map_congr_left fun p hp => h p.2 (by simp only [Go.Op.operands]; exact List.mem_toArray.2 (List.mem_map.2 ⟨p, hp, rfl⟩))
    rw [this]
  case pick c x y => simp only [pureV]; rw [h c (by simp [Go.Op.operands]), h x (by simp [Go.Op.operands]), h y (by simp [Go.Op.operands])]
  all_goals (simp only [pureV]; try rw [qop_congr h])
theorem detV_congr {k : Kind} {op : Go.Op} {v : PV} (h : ∀ x ∈ op.operands, e.ev x = e'.ev x) : detV P A k s e op v = detV P A k s e' op v := by
  cases k <;> simp only [detV]
  · rw [pureV_congr h]
  · rw [qop_congr h]
  · rw [opw_congr h]
  · apply forall_congr; intro s; rw [opw_congr h]
theorem cellsAt_mono {s' : St} {p : PV} {n : Nat} {cs : List PV} (hs : s.sub s') (h : cellsAt s p n = some cs) : cellsAt s' p n = some cs := by
  unfold cellsAt at h ⊢
  split at h
  · exact h
  · rename_i i j f
    split at h
    · rename_i b he
      rw [hs i _ he]
      exact h
    · rename_i b he
      rw [hs i _ he]
      exact h
    · cases h
  · cases h
theorem load_mono {s' : St} {t : TypeId} {x : Operand} {v : PV} (hs : s.sub s') (h : qop P e s (.load t x) = some v) : qop P e s' (.load t x) = some v := by
  simp only [qop] at h ⊢
  replace h := Option.bind_eq_some_iff.1 h; obtain ⟨n, hn, h⟩ := h
  replace h := Option.bind_eq_some_iff.1 h; obtain ⟨ag, ha, h⟩ := h
  replace h := Option.bind_eq_some_iff.1 h; obtain ⟨cs, hc, h⟩ := h
  rw [hn, ha]
  simp only [Option.bind_some, cellsAt_mono hs hc]
  exact h
theorem look_mono {s' : St} {t : TypeId} {x k : Operand} {c : Bool} {v : PV} (hs : s.sub s') (h : qop P e s (.lookup t x k c) = some v) : qop P e s' (.lookup t x k c) = some v := by
  simp only [qop] at h ⊢
  unfold lookV at h ⊢
  split at h
  · rename_i i b hx hk
    split at h
    · rename_i es he
      rw [hs i _ he]
      exact h
    · cases h
  · exact h
  · cases h
theorem qop_free {op : Go.Op} (t : St) (h : ∀ a b, op ≠ .load a b) (h2 : ∀ a b c d, op ≠ .lookup a b c d) : qop P e s op = qop P e t op := by
  cases op
  case makeFunc fn a b => cases fn <;> rfl
  case slice t x lo hi mx => cases mx <;> first | rfl | (cases lo <;> cases hi <;> rfl)
  all_goals first | rfl | exact absurd rfl (h _ _) | exact absurd rfl (h2 _ _ _ _)
theorem pureV_opw {op : Go.Op} {v : PV} {K : PV → St → Prop} {Kp : List PanicEntry → St → Prop} (hA : A.sub s) (h : pureV P A e op = some v) (hK : K v s) : opw P e s K Kp op := by
  have hq : (∀ a b, op ≠ .load a b) → (∀ a b c d, op ≠ .lookup a b c d) → qop P e St.empty op = some v → okv (qop P e s op) fun v => K v s := fun hl hl2 h => ex_okv ((qop_free St.empty hl hl2).trans h) hK
  cases op
  case call c =>
    simp only [pureV] at h
    simp only [opw]
    split at h
    · cases h
    · cases h
    · cases h
    · rename_i hne hne2 hne3
      split
      · exact absurd ‹_› hne
      · exact absurd ‹_› hne2
      · exact absurd ‹_› hne3
      · rename_i f hf
        unfold qcall at h
        rw [hf] at h
        cases h
      · exact ex_okv h hK
  case build t ps => exact ex_okv h hK
  case buildSlice t len ps => exact ex_okv h hK
  case pick c x y =>
    simp only [pureV] at h
    split at h
    · rename_i t ht
      simp only [opw, ht]
      refine ⟨fun h1 => ?_, fun h1 => ?_⟩ <;> subst h1 <;> simp at h <;> subst h <;> exact hK
    · cases h
  case load t x => exact ex_okv (load_mono hA h) hK
  case lookup => cases h
  case mapUpdate => cases h
  case makeMap t r => cases r <;> cases h
  case convert src dst x =>
    simp only [pureV] at h
    simp only [opw]
    have hq' := hq (fun _ _ => by simp) (fun _ _ _ _ => by simp) h
    split
    · rename_i hx; simp only [qop, hx] at h; cases h
    · rename_i hx; simp only [qop, hx] at h; cases h
    · rename_i hx; simp only [qop, hx] at h; cases h
    · exact hq'
  case alloc => cases h
  case box => cases h
  case store => cases h
  case binOp op t x y t2 =>
    simp only [opw]
    unfold binW
    split
    · rename_i k xs hx hy
      simp only [pureV, qop, hx, hy, bin] at h
      cases h
    · exact hq (fun _ _ => by simp) (fun _ _ _ _ => by simp) h
  all_goals exact hq (fun _ _ => by simp) (fun _ _ _ _ => by simp) h
theorem dw_opw {k : Kind} {op : Go.Op} {K : PV → St → Prop} {Kp : List PanicEntry → St → Prop} (hA : A.sub s) (hk : k = .read → (∃ a b, op = .load a b) ∨ ∃ a b c d, op = .lookup a b c d) (h : dw P A k e s K Kp op) : opw P e s (fun v s' => A.sub s' ∧ K v s') Kp op := by
  cases k with
  | pure => obtain ⟨v, h1, h2⟩ := okv_ex h; exact pureV_opw hA h1 ⟨hA, h2⟩
  | read => rcases hk rfl with ⟨a, b, rfl⟩ | ⟨a, b, c, d, rfl⟩ <;> exact okv_mono h fun v hv => ⟨hA, hv⟩
  | quiet => obtain ⟨v, h1, h2⟩ := h; exact opw_mono (K := fun p s' => p = v ∧ s' = s) (Kp := fun _ _ => False) (fun p s' hp => by obtain ⟨rfl, rfl⟩ := hp; exact ⟨hA, h2⟩) (fun _ _ hf => hf.elim) h1
  | steady => obtain ⟨v, h1, h2⟩ := h; exact opw_mono (K := fun p s' => p = v ∧ s' = s) (Kp := fun _ _ => False) (fun p s' hp => by obtain ⟨rfl, rfl⟩ := hp; exact ⟨hA, h2⟩) (fun _ _ hf => hf.elim) (h1 s)
  | grow => exact opw_mono (K := fun v s' => s.sub s' ∧ K v s') (fun _ _ h => ⟨fun i b hb => h.1 i b (hA i b hb), h.2⟩) (fun _ _ h => h) h
  | eff => exact h
theorem dw_congr {k : Kind} {op : Go.Op} {K : PV → St → Prop} {Kp : List PanicEntry → St → Prop} (h : ∀ x ∈ op.operands, e.ev x = e'.ev x) : dw P A k e s K Kp op = dw P A k e' s K Kp op := by
  cases k <;> simp only [dw]
  · rw [pureV_congr h]
  · rw [qop_congr h]
  · simp only [detV_congr h]
  · rw [opw_congr h]
  · rw [opw_congr h]
  · simp only [detV_congr h]
theorem dw_mono' {k : Kind} {op : Go.Op} {K K' : PV → St → Prop} {Kp Kp' : List PanicEntry → St → Prop} (hK : ∀ v s', (k = .grow → s.sub s') → K v s' → K' v s') (hKp : ∀ c s, Kp c s → Kp' c s) (h : dw P A k e s K Kp op) : dw P A k e s K' Kp' op := by
  cases k with
  | eff => exact opw_mono (K := fun v s' => A.sub s' ∧ K v s') (K' := fun v s' => A.sub s' ∧ K' v s') (fun v s' h => ⟨h.1, hK v s' (fun h => by cases h) h.2⟩) hKp h
  | grow => exact opw_mono (K := fun v s' => s.sub s' ∧ K v s') (K' := fun v s' => s.sub s' ∧ K' v s') (fun v s' h => ⟨h.1, hK v s' (fun _ => h.1) h.2⟩) hKp h
  | pure => exact okv_mono h fun v => hK _ _ (fun h => by cases h)
  | read => exact okv_mono h fun v => hK _ _ (fun h => by cases h)
  | quiet => obtain ⟨v, h1, h2⟩ := h; exact ⟨v, h1, hK _ _ (fun h => by cases h) h2⟩
  | steady => obtain ⟨v, h1, h2⟩ := h; exact ⟨v, h1, hK _ _ (fun h => by cases h) h2⟩
theorem dw_mono {k : Kind} {op : Go.Op} {K K' : PV → St → Prop} {Kp Kp' : List PanicEntry → St → Prop} (hK : ∀ v s, K v s → K' v s) (hKp : ∀ c s, Kp c s → Kp' c s) (h : dw P A k e s K Kp op) : dw P A k e s K' Kp' op := dw_mono' (fun v s _ => hK v s) hKp h
/-- What a guard reads: a truth value, or that the operation was passed over. -/
def yb : PV → Option (Option Bool)
  | .lit (.bool t) => some (some t)
  | .tup [] => some none
  | _ => none
/-- Under an operation's guard. -/
def gd (ops : Array Oper) (o : Oper) (e : Env) (A B : Prop) : Prop := match o.guard with
  | none => A
  | some (j, want) => okv ((ops[j]?).bind (·.dst)) fun d => okv (yb (e d)) fun y => (y = some want → A) ∧ (y ≠ some want → B)
theorem gd_some {ops : Array Oper} {o : Oper} {e : Env} {A B : Prop} {j : Nat} {want : Bool} (hg : o.guard = some (j, want)) : gd ops o e A B ↔ ∃ d y, (ops[j]?).bind (·.dst) = some d ∧ yb (e d) = some y ∧ (y = some want → A) ∧ (y ≠ some want → B) := by
  unfold gd
  rw [hg]
  constructor
  · intro h
    obtain ⟨d, h1, h⟩ := okv_ex h
    obtain ⟨y, h2, h⟩ := okv_ex h
    exact ⟨d, y, h1, h2, h⟩
  · rintro ⟨d, y, h1, h2, h3⟩
    exact ex_okv h1 (ex_okv h2 h3)
theorem gd_none {ops : Array Oper} {o : Oper} {e : Env} {A B : Prop} (hg : o.guard = none) : gd ops o e A B ↔ A := by
  unfold gd
  rw [hg]
theorem gd_mono {ops : Array Oper} {o : Oper} {A A' B B' : Prop} (h : gd ops o e A B) (ha : A → A') (hb : B → B') : gd ops o e A' B' := by
  cases hg : o.guard with
  | none => exact (gd_none hg).2 (ha ((gd_none hg).1 h))
  | some jw =>
    obtain ⟨j, want⟩ := jw
    obtain ⟨d, y, h1, h2, h3, h4⟩ := (gd_some hg).1 h
    exact (gd_some hg).2 ⟨d, y, h1, h2, fun h => ha (h3 h), fun h => hb (h4 h)⟩
theorem gd_congr {ops : Array Oper} {o : Oper} {A B : Prop} (h : ∀ t ∈ o.looksAt ops, e t = e' t) : gd ops o e A B = gd ops o e' A B := by
  cases hg : o.guard with
  | none => exact propext ((gd_none hg).trans (gd_none hg).symm)
  | some jw =>
    obtain ⟨j, want⟩ := jw
    apply propext
    rw [gd_some hg, gd_some hg]
    constructor
    · rintro ⟨d, y, h1, h2, h3, h4⟩
      exact ⟨d, y, h1, by rw [← h d (by simp [Oper.looksAt, hg, h1])]; exact h2, h3, h4⟩
    · rintro ⟨d, y, h1, h2, h3, h4⟩
      exact ⟨d, y, h1, by rw [h d (by simp [Oper.looksAt, hg, h1])]; exact h2, h3, h4⟩
/-- One operation. -/
def stepD (P : Program) (A : St) (ops : Array Oper) (kd : Nat → Nat) (N : Nat) (i : Nat) (e : Env) (s : St) (K : Env → St → Prop) (Kp : List PanicEntry → Env → St → Prop) : Prop := match ops[i]? with
  | none => False
  | some o => (∀ t, o.dst = some t → t < N) ∧ gd ops o e (dw P A (kindOf (kd i) o.op) e s (fun v s' => K (e.put o.dst v) s') (fun c s' => Kp c e s') o.op) (K (e.put o.dst (.tup [])) s)
def pwD (P : Program) (A : St) (ops : Array Oper) (kd : Nat → Nat) (N : Nat) : List Nat → Env → St → (Env → St → Prop) → (List PanicEntry → Env → St → Prop) → Prop
  | [], e, s, K, _ => K e s
  | i :: l, e, s, K, Kp => stepD P A ops kd N i e s (fun e s => pwD P A ops kd N l e s K Kp) Kp
theorem stepD_mono {ops : Array Oper} {kd : Nat → Nat} {N i : Nat} {K K' : Env → St → Prop} {Kp Kp' : List PanicEntry → Env → St → Prop} (hK : ∀ e s, K e s → K' e s) (hKp : ∀ c s, Kp c e s → Kp' c e s) (h : stepD P A ops kd N i e s K Kp) : stepD P A ops kd N i e s K' Kp' := by
  unfold stepD at h ⊢
  split at h
  · exact h
  · exact ⟨h.1, gd_mono h.2 (dw_mono (fun _ _ => hK _ _) hKp) (hK _ _)⟩
theorem looks_ev {ops : Array Oper} {o : Oper} (h : ∀ t ∈ o.looksAt ops, e t = e' t) : ∀ x ∈ o.op.operands, e.ev x = e'.ev x := by
  intro x hx
  cases x with
  | tmp t => exact h t (List.mem_append_left _ (List.mem_filterMap.2 ⟨.tmp t, Array.mem_toList_iff.2 hx, rfl⟩))
  | _ => rfl
theorem kind_read {q : Nat} {op : Go.Op} (h : kindOf q op = .read) : (∃ a b, op = .load a b) ∨ ∃ a b c d, op = .lookup a b c d := by
  cases op <;> simp only [kindOf] at h <;> first | exact .inl ⟨_, _, rfl⟩ | exact .inr ⟨_, _, _, _, rfl⟩ | (cases h; done) | skip
  · split at h <;> first | (cases h; done) | (split at h <;> first | (cases h; done) | (split at h <;> first | (cases h; done) | (split at h <;> first | (cases h; done) | (split at h <;> cases h))))
end
end Go.Pv
