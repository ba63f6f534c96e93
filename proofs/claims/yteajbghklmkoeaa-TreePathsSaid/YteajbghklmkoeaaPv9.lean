/- A logic over plain values: a piece of code computes what it needs. -/
import Derived.Test.YteajbghklmkoeaaPv8
namespace Go.Pv
set_option linter.unusedVariables false
set_option linter.unusedSimpArgs false
/-- What a call of a value needs. -/
def callW (P : Program) (s : St) (f : PV) (args : List PV) (K : PV → St → Prop) (Kp : List PanicEntry → St → Prop) : Prop := match f with
  | .fn f fs cs => PCalls P f (fs ++ args ++ cs) s fun r s' => match r with
    | .ret p => K p s'
    | .pan c => Kp c s'
  | .yld i => PYld P i args s K
  | _ => False
def storeW (P : Program) (s : St) (t : TypeId) (p x : PV) (K : St → Prop) : Prop := match p with
  | .pt i j f => (match s i with
    | some (.row ty sz els) => okv (els[j]?) fun cs => tsz P t = some x.width ∧ x.solid = true ∧ f + x.width ≤ cs.length ∧ K (s.upd i (some (.row ty sz (els.set j (spl cs f x.cells)))))
    | _ => False)
  | _ => False
theorem storeW_ex {P : Program} {s : St} {t : TypeId} {p x : PV} {K : St → Prop} (h : storeW P s t p x K) : ∃ i j f ty sz els cs, p = .pt i j f ∧ s i = some (.row ty sz els) ∧ els[j]? = some cs ∧ tsz P t = some x.width ∧ x.solid = true ∧ f + x.width ≤ cs.length ∧ K (s.upd i (some (.row ty sz (els.set j (spl cs f x.cells))))) := by
  unfold storeW at h
  split at h
  · rename_i i j f
    split at h
    · rename_i ty sz els hs
      obtain ⟨cs, h1, h2⟩ := okv_ex h
      exact ⟨i, j, f, ty, sz, els, cs, rfl, hs, h1, h2⟩
    · exact h.elim
  · exact h.elim
theorem ex_storeW {P : Program} {s : St} {t : TypeId} {x : PV} {K : St → Prop} {i j f : Nat} {ty : TypeId} {sz : Nat} {els : List (List PV)} {cs : List PV} (h1 : s i = some (.row ty sz els)) (h2 : els[j]? = some cs) (h3 : tsz P t = some x.width ∧ x.solid = true ∧ f + x.width ≤ cs.length ∧ K (s.upd i (some (.row ty sz (els.set j (spl cs f x.cells)))))) : storeW P s t (.pt i j f) x K := by
  unfold storeW
  simp only [h1]
  exact ex_okv h2 h3
def mapW (P : Program) (s : St) (t : TypeId) (m k v : PV) (K : St → Prop) : Prop := match m, k with
  | .mp i, .lit (.string b) => (match s i with
    | some (.dict es) => (mapT P t).isSome = true ∧ K (s.upd i (some (.dict (dset es b v))))
    | _ => False)
  | _, _ => False
/-- A pointer seen as an unsafe one, and back. -/
def cvT (P : Program) (src dst ty : TypeId) (sz : Nat) : Bool := match P.underlying src, P.underlying dst with
  | some (.pointer t), some .unsafePointer => (match P.info? t with
    | some j => j.size != 0
    | none => false)
  | some .unsafePointer, some (.pointer u) => u == ty && P.cellsOf ty == sz && sz != 0 && (P.info? u).isSome
  | _, _ => false
def ptrCv (P : Program) (s : St) (src dst : TypeId) (i j f : Nat) : Prop := match s i with
  | some (.row ty sz els) => j = 0 ∧ f = 0 ∧ els ≠ [] ∧ sz ≠ 0 ∧ cvT P src dst ty sz = true
  | _ => False
/-- A text out of bytes. -/
def bytesOf : List (List PV) → Option (List UInt8)
  | [] => some []
  | [.lit (.int .u8 n)] :: r => if 0 ≤ n ∧ n < 256 then (bytesOf r).map fun l => UInt8.ofNat n.toNat :: l else none
  | _ => none
def convB (P : Program) (s : St) (src dst : TypeId) (x : PV) : Option PV := (sliceT P src).bind fun el => if tsz P el = some 1 ∧ intT P el = some .u8 ∧ isStrT P dst = true then (elemsOf s 1 x).bind fun cs => (bytesOf cs).map fun b => .lit (.string ⟨b.toArray⟩) else none
section
variable {P : Program} {w : World} {g : G} {s : St}
theorem b2s_loop (f : Value → ByteArray → Sem (ForInStep ByteArray)) (hf : ∀ (b : UInt8) (s : ByteArray), f (.int .u8 b.toNat) s = pure (.yield (s.push b))) : ∀ (bs : List UInt8) (acc : ByteArray),
    (forIn (bs.map (fun c => Value.int .u8 c.toNat)) acc f).run P w = .ok ⟨acc.data ++ bs.toArray⟩ w
  | [], acc => by simp
  | b :: bs, acc => by
    have ih := b2s_loop f hf bs (acc.push b)
    simp only [List.map_cons, List.forIn_cons, hf, Sem.run_bind, Sem.run_pure, Result.andThen_ok]
    rw [ih]
    congr 1
    simp [ByteArray.push]
theorem bytesOf_some : ∀ (cs : List (List PV)) (bs : List UInt8), bytesOf cs = some bs → (∀ (j : Nat) (c : List PV), cs[j]? = some c → ∃ b : UInt8, c = [.lit (.int .u8 b.toNat)] ∧ bs[j]? = some b) ∧ cs.length = bs.length
  | [], bs, h => by cases h; exact ⟨fun j c hj => by simp at hj, rfl⟩
  | c :: cs, bs, h => by
    unfold bytesOf at h
    split at h
    · rename_i hc; cases hc
    · rename_i n r hc
      cases hc
      split at h
      case isFalse => cases h
      rename_i hn
      obtain ⟨l, hl, rfl⟩ := Option.map_eq_some_iff.1 h
      obtain ⟨h1, h2⟩ := bytesOf_some _ l hl
      refine ⟨fun j c hj => ?_, by simp [h2]⟩
      cases j with
      | zero =>
        cases hj
        refine ⟨UInt8.ofNat n.toNat, ?_, rfl⟩
        have : (UInt8.ofNat n.toNat).toNat = n.toNat := by simp; omega
        rw [this]
        congr 4
        omega
      | succ j => exact h1 j c hj
    · cases h
theorem convB_sound (hH : Holds g s w) {src dst : TypeId} {x r : PV} {u : Value} (hx : VR w g x u) (hne : ∀ b, x ≠ .lit (.string b)) (h : convB P s src dst x = some r) : ∃ q, (convert src dst u).run P w = .ok q w ∧ VR w g r q := by
  unfold convB at h
  replace h := Option.bind_eq_some_iff.1 h; obtain ⟨el, hel, h⟩ := h
  split at h
  case isFalse => cases h
  rename_i hc
  obtain ⟨c1, c2, c3⟩ := hc
  replace h := Option.bind_eq_some_iff.1 h; obtain ⟨cs, hcs, h⟩ := h
  obtain ⟨bs, hbs, rfl⟩ := Option.map_eq_some_iff.1 h
  obtain ⟨h1, h2, vs, h3, h4, h5, h6⟩ := elemsOf_sound (P := P) hH hx hcs
  obtain ⟨k1, k2⟩ := bytesOf_some cs bs hbs
  refine ⟨.string ⟨bs.toArray⟩, ?_, .lit _ rfl⟩
  have hvs : vs.toList = bs.map (fun c => Value.int .u8 c.toNat) := by
    apply List.ext_getElem?
    intro j
    rw [Array.getElem?_toList, List.getElem?_map]
    by_cases hj : j < cs.length
    · obtain ⟨b, hc, hb⟩ := k1 j _ (List.getElem?_eq_getElem hj)
      obtain ⟨u', q1, q2, q3⟩ := h6 j _ 0 _ (List.getElem?_eq_getElem hj) (by rw [hc]; rfl)
      rw [Nat.mul_one, Nat.add_zero] at q1
      obtain ⟨rfl, _⟩ := q3.lit_inv
      rw [q1, hb]
      rfl
    · rw [Array.getElem?_eq_none (by omega), List.getElem?_eq_none (by omega)]; rfl
  have hu8 : P.underlying el = some (.int .u8) := by
    unfold intT at c2
    split at c2
    · rename_i k hk; cases c2; exact hk
    · cases c2
  obtain ⟨ad, l, c, rfl⟩ : ∃ a l c, u = .slice a l c := by
    unfold elemsOf at hcs
    split at hcs
    · cases hx with | vec k xs A cap => exact ⟨_, _, _, rfl⟩
    · cases hx with | sl => exact ⟨_, _, _, rfl⟩
    · exact absurd rfl (hne _)
    · cases hcs
  have hl : l = cs.length := by
    have := h2 w rfl
    simpa [Builtin.lenOf] using this
  subst hl
  have r1 := sliceT_run (w := w) hel
  have r2 := isStrT_run (w := w) c3
  have hrun : (convert src dst (.slice ad cs.length c)).run P w = (Conv.bytesToString (.slice ad cs.length c)).run P w := by
    simp only [convert, Sem.run_bind, r1, r2, Result.andThen_ok, run_underlying hu8]
  rw [hrun]
  cases ad with
  | none =>
    have : vs = #[] := by
      have := h3 w rfl
      simpa [Builtin.firstCells] using this.symm
    subst this
    have : bs = [] := by simpa using hvs
    subst this
    rfl
  | some a =>
    have hc3 : (loadCells a cs.length).run P w = .ok vs w := by
      have := h3 w rfl
      simpa [Builtin.firstCells] using this
    simp only [Conv.bytesToString, Sem.run_bind, hc3, Result.andThen_ok]
    rw [← Array.forIn_toList, hvs, b2s_loop _ (fun b s => by simp) bs ByteArray.empty]
    simp
end
def bytePT (P : Program) (t : TypeId) : Option TypeId := match P.underlying t with
  | some (.pointer e) => if P.cellsOf e = 1 then some e else none
  | _ => none
/-- A text out of a block's first bytes; the block is given up. -/
def ustrW (P : Program) (s : St) (t : TypeId) (x n : PV) (K : PV → St → Prop) : Prop := match x, n with
  | .pt i j f, .lit (.int .i64 k) => (match s i with
    | some (.row ty sz els) => j = 0 ∧ f = 0 ∧ 0 < k ∧ k ≤ 9223372036854775807 ∧ k.toNat ≤ els.length ∧ bytePT P t = some ty ∧ okv (bytesOf (els.take k.toNat)) fun b => K (.lit (.string ⟨b.toArray⟩)) (s.upd i none)
    | _ => False)
  | .lit (.pointer none), .lit (.int .i64 k) => k = 0 ∧ K (.lit (.string ⟨#[]⟩)) s
  | _, _ => False
/-- Nothing is copied. -/
def cpyW (P : Program) (s : St) (t : TypeId) (d x : PV) (K : PV → St → Prop) : Prop :=
  okv (sliceT P t) fun el => okv (tsz P el) fun n => okv (elemsOf s n x) fun ys => ys = [] ∧ d.isSlice = true ∧ K (.lit (.int .i64 0)) s
/-- A slice against nil. -/
def eqNilW (op : BinOp) (k : VK) (xs : List PV) (K : PV → Prop) : Prop := match op with
  | .eql => ∀ t : Bool, (k = .nil → t = true) → (xs ≠ [] → t = false) → K (.lit (.bool t))
  | .neq => ∀ t : Bool, (k = .nil → t = true) → (xs ≠ [] → t = false) → K (.lit (.bool !t))
  | _ => False
def binW (P : Program) (op : BinOp) (t : TypeId) (x y : PV) (K : PV → Prop) : Prop := match x, y with
  | .vec k xs, .vec .nil [] => (sliceT P t).isSome = true ∧ eqNilW op k xs K
  | x, y => okv (bin P op t x y) K
def opw (P : Program) (e : Env) (s : St) (K : PV → St → Prop) (Kp : List PanicEntry → St → Prop) (op : Go.Op) : Prop := match op with
  | .alloc t => okv (tzero P t) fun z => (ofVal z).solid = true ∧ ∀ i, s i = none → K (.pt i 0 0) (s.upd i (some (.row t (ofVal z).width [(ofVal z).cells])))
  | .box t x => (e.ev x).solid = true ∧ ∀ i, s i = none → K (.pt i 0 0) (s.upd i (some (.row t (e.ev x).width [(e.ev x).cells])))
  | .store t a x => storeW P s t (e.ev a) (e.ev x) (K .junk)
  | .build t parts => okv (bld P e t parts.toList) fun v => K v s
  | .buildSlice t len parts => okv (mkSlice P e t len parts.toList) fun v => K v s
  | .pick c a b => (match e.ev c with
    | .lit (.bool t) => (t = true → K (e.ev a) s) ∧ (t = false → K (e.ev b) s)
    | _ => False)
  | .call c => (match c.callee with
    | .builtin .append => (match c.args.toList, c.argTypes.toList with
      | [x, y], [t, t2] => appW P s t t2 (e.ev x) (e.ev y) K
      | _, _ => False)
    | .builtin .unsafeString => (match c.args.toList, c.argTypes.toList with
      | [x, n], [t, t2] => ustrW P s t (e.ev x) (e.ev n) K
      | _, _ => False)
    | .builtin .copy => (match c.args.toList, c.argTypes.toList with
      | [x, y], [t, t2] => cpyW P s t (e.ev x) (e.ev y) K
      | _, _ => False)
    | .value f => callW P s (e.ev f) (c.args.toList.map e.ev) K Kp
    | _ => okv (qcall P e c) fun v => K v s)
  | .binOp op t x y _ => binW P op t (e.ev x) (e.ev y) fun v => K v s
  | .makeMap t none => (mapT P t).isSome = true ∧ ∀ i, s i = none → K (.mp i) (s.upd i (some (.dict [])))
  | .mapUpdate t m k v => mapW P s t (e.ev m) (e.ev k) (e.ev v) (K .junk)
  | .convert src dst x => (match e.ev x with
    | .sl i sz off len => okv (convB P s src dst (.sl i sz off len)) fun v => K v s
    | .vec k xs => okv (convB P s src dst (.vec k xs)) fun v => K v s
    | .pt i j f => ptrCv P s src dst i j f ∧ K (.pt i j f) s
    | _ => okv (qop P e s (.convert src dst x)) fun v => K v s)
  | op => okv (qop P e s op) fun v => K v s
section
variable {P : Program} {w : World} {g : G} {s : St} {N : Nat} {e : Env} {a : Act}
theorem cv_sound (hH : Holds g s w) {src dst : TypeId} {i j f : Nat} {u : Value} (hx : VR w g (.pt i j f) u) (h : ptrCv P s src dst i j f) : (convert src dst u).run P w = .ok u w := by
  unfold ptrCv at h
  split at h
  case h_2 => exact h.elim
  rename_i ty sz els hs
  obtain ⟨rfl, rfl, hne, hz0, hcv⟩ := h
  obtain ⟨_, rfl⟩ := hx.pt_inv
  obtain ⟨_, _, _, arr, hz, hb, hsz, hl, he, h5⟩ := hH.blk i _ hs
  have hpos : sz ≤ arr.size := by
    have : 1 ≤ els.length := by
      cases els with
      | nil => exact absurd rfl hne
      | cons _ _ => simp
    have := Nat.mul_le_mul_right sz this
    omega
  have hsh : w.shape? (g.mu i).blk = some (ty, arr.size) := by simp [World.shape?, hb]
  have haddr : (⟨(g.mu i).blk, 0 * (g.mu i).sz + 0, none⟩ : Addr) = ⟨(g.mu i).blk, 0, none⟩ := by simp
  rw [haddr]
  unfold cvT at hcv
  split at hcv
  · rename_i t h1 h2
    split at hcv
    · rename_i jn hj
      exact Lib.run_to_unsafe w ⟨(g.mu i).blk, 0, none⟩ h1 h2 hj (by simpa using hcv) hsh (by simp only; omega)
    · cases hcv
  · rename_i u h1 h2
    simp only [Bool.and_eq_true, beq_iff_eq, bne_iff_ne, ne_eq] at hcv
    obtain ⟨⟨⟨rfl, hcells⟩, _⟩, hinfo⟩ := hcv
    obtain ⟨jn, hj⟩ := Option.isSome_iff_exists.1 hinfo
    refine Lib.run_from_unsafe w ⟨(g.mu i).blk, 0, none⟩ h1 h2 hj hsh ?_
    have hcnt : 1 ≤ arr.size / P.cellsOf u := by rw [hcells]; exact (Nat.le_div_iff_mul_le (by omega)).2 (by omega)
    have hd : P.depth = (2 * (P.types.size + Made.depth) + 1) + 1 := rfl
    rw [hd]
    simp only [liesAt, Bool.or_eq_true]
    left
    rw [hd]
    have hcz : P.cellsOf u ≠ 0 := by rw [hcells]; exact hz0
    simp [rowAt, hcz, hcnt, sameLayout]
  · cases hcv
theorem ustr_sound (hH : Holds g s w) {t t2 ty2 : TypeId} {x n : PV} {u v : Value} (hx : VR w g x u) (hn : VR w g n v) {K : PV → St → Prop} (h : ustrW P s t x n K) :
    ∃ b s' g' w', (Builtin.unsafeString_ #[t, t2] ty2 #[u, v]).run P w = .ok (.string b) w' ∧ LE g w g' w' ∧ Holds g' s' w' ∧ K (.lit (.string b)) s' := by
  unfold ustrW at h
  split at h
  · rename_i i j f k
    split at h
    case h_2 => exact h.elim
    rename_i ty sz els hs
    obtain ⟨rfl, rfl, hk0, hk1, hkl, hbt, h⟩ := h
    obtain ⟨bs, hbs, hK⟩ := okv_ex h
    obtain ⟨_, rfl⟩ := hx.pt_inv
    obtain ⟨rfl, _⟩ := hn.lit_inv
    have hne : s i ≠ none := by rw [hs]; simp
    obtain ⟨_, _, _, arr, hz, hb, hsz, hl, he, h5⟩ := hH.blk i _ hs
    obtain ⟨k1, k2⟩ := bytesOf_some _ _ hbs
    have hbl : bs.length = k.toNat := by rw [← k2]; simp; omega
    have hb0 : bs ≠ [] := by
      intro e; rw [e] at hbl; simp at hbl; omega
    have hpt : P.underlying t = some (.pointer ty) ∧ P.cellsOf ty = 1 := by
      unfold bytePT at hbt
      split at hbt
      · split at hbt
        · cases hbt; exact ⟨‹_›, ‹_›⟩
        · cases hbt
      · cases hbt
    have hel : ∀ (m : Nat) (b : UInt8), bs[m]? = some b → els[m]? = some [.lit (.int .u8 b.toNat)] := by
      intro m b hm
      have hml : m < k.toNat := by rw [← hbl]; exact (List.getElem?_eq_some_iff.1 hm).1
      have hme : m < els.length := by omega
      have hc : (els.take k.toNat)[m]? = some els[m] := by rw [List.getElem?_take, if_pos hml]; exact List.getElem?_eq_getElem hme
      obtain ⟨b', hb1, hb2⟩ := k1 m _ hc
      rw [hm] at hb2
      cases hb2
      rw [List.getElem?_eq_getElem hme, hb1]
    have hsz1 : sz = 1 := by
      obtain ⟨b, hbm⟩ : ∃ b, bs[0]? = some b := by
        cases bs with
        | nil => exact absurd rfl hb0
        | cons b _ => exact ⟨b, rfl⟩
      have := he 0 _ (hel 0 b hbm)
      simpa using this.symm
    subst hsz1
    have hsh : w.shape? (g.mu i).blk = some (ty, arr.size) := by simp [World.shape?, hb]
    have haddr : (⟨(g.mu i).blk, 0 * (g.mu i).sz + 0, none⟩ : Addr) = ⟨(g.mu i).blk, 0, none⟩ := by simp
    have hrun := Lib.run_unsafeString_row w t t2 ty2 ty hpt.1 hpt.2 (g.mu i).blk arr.size hsh bs hb0 (by rw [hbl]; omega) (by omega) (fun m b hm => by
      obtain ⟨q, q1, q2, q3⟩ := h5 m _ 0 _ (hel m b hm) rfl
      obtain ⟨rfl, _⟩ := q3.lit_inv
      rw [add_plain]
      simp only [World.cell?, hb]
      simpa using q1)
    have hki : ((bs.length : Nat) : Int) = k := by rw [hbl]; omega
    rw [hki] at hrun
    rw [haddr]
    have hbn : ¬ bs.length = 0 := by omega
    have hheap : ∀ m, m ≠ (g.mu i).blk → (w.freeze ⟨(g.mu i).blk, 0, none⟩ bs.length).heap[m]? = w.heap[m]? := by
      intro m hm
      simp only [World.freeze, if_neg hbn, Array.getElem?_modify]
      rw [if_neg (Ne.symm hm)]
    have hle : LE g w g (w.freeze ⟨(g.mu i).blk, 0, none⟩ bs.length) :=
      ⟨⟨Nat.le_refl _, fun _ _ => rfl, fun _ h => h, fun m hm => hheap m (fun e => hH.apart i _ hs rfl (e ▸ hm))⟩, by simp only [World.freeze, if_neg hbn], by simp only [World.freeze, if_neg hbn], by simp only [World.freeze, if_neg hbn], by simp [World.freeze, hbn]⟩
    refine ⟨_, _, g, _, hrun, hle, ?_, hK⟩
    have hsub : ∀ m, (s.upd i none) m ≠ none → s m ≠ none ∧ m ≠ i := fun m hm => by
      by_cases h : m = i
      · subst h; simp at hm
      · rw [St.upd_ne _ _ h] at hm; exact ⟨hm, h⟩
    refine ⟨fun m hm => ?_, fun m hm => by simpa [World.freeze, hbn] using hH.zlt m hm, fun m b hm => ?_, fun m l hm hl => hH.inj m l (hsub m hm).1 (hsub l hl).1, fun m bb hm hr => hH.apart m bb ((St.upd_ne s none (hsub m (by rw [hm]; simp)).2).symm.trans hm) hr⟩
    · by_cases h : m = i
      · subst h; simp
      · rw [St.upd_ne _ _ h]; exact hH.fresh m hm
    · have hmi : m ≠ i := (hsub m (by rw [hm]; simp)).2
      rw [St.upd_ne _ _ hmi] at hm
      have hm0 : s m ≠ none := by rw [hm]; simp
      exact (hH.blk m b hm).le hle.toLEv (hH.lt hm0) (hheap _ (fun e => hmi (hH.inj m i hm0 hne e)))
  · rename_i k
    obtain ⟨rfl, hK⟩ := h
    obtain ⟨rfl, _⟩ := hx.lit_inv
    obtain ⟨rfl, _⟩ := hn.lit_inv
    exact ⟨_, s, g, w, Lib.run_unsafeString_none w _ _ _ none, .refl _ _, hH, hK⟩
  · exact h.elim
theorem cpy_sound (hH : Holds g s w) {t t2 ty : TypeId} {x y : PV} {u v : Value} (hx : VR w g x u) (hy : VR w g y v) {K : PV → St → Prop} (h : cpyW P s t x y K) :
    (Builtin.copy_ #[t, t2] ty #[u, v]).run P w = .ok (.int .i64 0) w ∧ K (.lit (.int .i64 0)) s := by
  unfold cpyW at h
  obtain ⟨el, hel, h⟩ := okv_ex h
  obtain ⟨n, hn, h⟩ := okv_ex h
  obtain ⟨ys, hys, rfl, hsl, hK⟩ := okv_ex h
  refine ⟨?_, hK⟩
  obtain ⟨_, h2, vs, h3, h4, _⟩ := elemsOf_sound (P := P) hH hy hys
  have l0 := h2 w rfl
  have c0 := h3 w rfl
  have : vs = #[] := Array.eq_empty_of_size_eq_zero (by simpa using h4)
  subst this
  obtain ⟨ba, dl, cp, rfl⟩ : ∃ a l c, u = .slice a l c := by
    cases x <;> cases hsl
    · cases hx with | vec k xs A cap => exact ⟨_, _, _, rfl⟩
    · cases hx with | sl => exact ⟨_, _, _, rfl⟩
  simp only [List.length_nil] at l0 c0
  cases ba <;> simp [Builtin.copy_, sliceT_run hel, l0, run_sizeOf hn, c0, storeCells, goInt]
theorem opw_sound (hH : Holds g s w) (hE : ER w g N e a) (o : Oper) {K : PV → St → Prop} {Kp : List PanicEntry → St → Prop} (h : opw P e s K Kp o.op) {next : Act → World → Prop} {Q : Exit → Act → World → Prop}
    (hn : ∀ (p : PV) (v : Value) (s' : St) (g' : G) (w' : World), LE g w g' w' → Holds g' s' w' → VR w' g' p v → K p s' → next (a.put o.dst v) w')
    (hp : ∀ (c : List PanicEntry) (s' : St) (g' : G) (w' : World), LE g w g' w' → Holds g' s' w' → Kp c s' → Q (.panic c) a w') : wpR P o a w next Q := by
  have quiet : (∃ v, qop P e s o.op = some v ∧ K v s) → wpR P o a w next Q := by
    rintro ⟨v, hv, hK⟩
    obtain ⟨u, hu, hr⟩ := qop_sound (P := P) hH hE o hv
    refine ⟨fun c hc => (by rw [hc] at hv; cases hv), ?_⟩
    rw [hu]
    exact hn v u s g w (.refl _ _) hH hr hK
  obtain ⟨dst, op, ty, pos, after, guard⟩ := o
  simp only at h quiet hn
  unfold opw at h
  split at h
  · rename_i t
    obtain ⟨z, hz, hso, hK⟩ := okv_ex h
    obtain ⟨w', g', h1, h2, h3, h4⟩ := box_sound (P := P) hH (VR.ofVal w g z) hso t
    have : (execOp a.eval ⟨dst, .alloc t, ty, pos, after, guard⟩).run P w = .ok (.value (.pointer (some ⟨w.heap.size, 0, none⟩))) w' := by
      simp only [execOp, Instr.alloc, Sem.run_bind, run_zeroValue hz, Result.andThen_ok, h1, Sem.run_pure]
    refine ⟨fun c hc => (by cases hc), ?_⟩
    rw [this]
    exact hn _ _ _ g' w' h2 h3 h4 (hK g.n (hH.fresh _ (Nat.le_refl _)))
  · rename_i t x
    obtain ⟨hso, hK⟩ := h
    obtain ⟨w', g', h1, h2, h3, h4⟩ := box_sound (P := P) hH (hE.ev x) hso t
    have : (execOp a.eval ⟨dst, .box t x, ty, pos, after, guard⟩).run P w = .ok (.value (.pointer (some ⟨w.heap.size, 0, none⟩))) w' := by
      simp only [execOp, Instr.box, Sem.run_bind, Result.andThen_ok, h1, Sem.run_pure]
    refine ⟨fun c hc => (by cases hc), ?_⟩
    rw [this]
    exact hn _ _ _ g' w' h2 h3 h4 (hK g.n (hH.fresh _ (Nat.le_refl _)))
  · rename_i t p x
    have hpv := hE.ev p
    obtain ⟨i, j, f, ty', sz, els, cs, hpe, h1, h2, h3, h4, h5, hK⟩ := storeW_ex h
    rw [hpe] at hpv
    obtain ⟨w', q1, q2, q3⟩ := store_sound (P := P) hH hpv (hE.ev x) h4 h3 h1 h2 h5
    have : (execOp a.eval ⟨dst, .store t p x, ty, pos, after, guard⟩).run P w = .ok .skip w' := by
      simp only [execOp, Sem.run_bind, q1, Result.andThen_ok, Sem.run_pure]
    refine ⟨fun c hc => (by cases hc), ?_⟩
    rw [this]
    exact hn .junk undef _ g w' q2 q3 (.junk _) hK
  · rename_i t parts
    obtain ⟨v, hv, hK⟩ := okv_ex h
    obtain ⟨u, hu, hr⟩ := bld_sound (P := P) hE hv
    have : (execOp a.eval ⟨dst, .build t parts, ty, pos, after, guard⟩).run P w = .ok (.value u) w := by
      simp only [execOp, Sem.run_bind, hu, Result.andThen_ok, Sem.run_pure]
    refine ⟨fun c hc => (by cases hc), ?_⟩
    rw [this]
    exact hn v u s g w (.refl _ _) hH hr hK
  · rename_i t len parts
    obtain ⟨v, hv, hK⟩ := okv_ex h
    obtain ⟨u, g', w', hu, h1, h2, h3⟩ := mkSlice_sound (P := P) hH hE hv
    have : (execOp a.eval ⟨dst, .buildSlice t len parts, ty, pos, after, guard⟩).run P w = .ok (.value u) w' := by
      simp only [execOp, Sem.run_bind, hu, Result.andThen_ok, Sem.run_pure]
    refine ⟨fun c hc => (by cases hc), ?_⟩
    rw [this]
    exact hn v u s g' w' h1 h2 h3 hK
  · rename_i c x y
    obtain ⟨t, hc, ht, hf⟩ : ∃ t, e.ev c = .lit (.bool t) ∧ (t = true → K (e.ev x) s) ∧ (t = false → K (e.ev y) s) := by
      split at h
      · exact ⟨_, ‹_›, h⟩
      · exact h.elim
    have hv := hE.ev c
    rw [hc] at hv
    obtain ⟨hcv, _⟩ := hv.lit_inv
    have : (execOp a.eval ⟨dst, .pick c x y, ty, pos, after, guard⟩).run P w = .ok (.value (if t then a.eval x else a.eval y)) w := by
      simp only [execOp, Sem.run_bind, hcv, asBool, Sem.run_pure, Result.andThen_ok]
    refine ⟨fun c hc => (by cases hc), ?_⟩
    rw [this]
    cases t with
    | true => exact hn _ _ s g w (.refl _ _) hH (hE.ev x) (ht rfl)
    | false => exact hn _ _ s g w (.refl _ _) hH (hE.ev y) (hf rfl)
  · rename_i c
    obtain ⟨cal, ⟨args⟩, ⟨ats⟩⟩ := c
    simp only at h
    split at h
    · split at h
      · rename_i x y t t2
        obtain ⟨q, r, s', g', w', h1, h2, h3, h4, h5⟩ := append_sound (P := P) (ty := ty) hH (hE.ev x) (hE.ev y) h
        have : (execOp a.eval ⟨dst, .call ⟨.builtin .append, ⟨[x, y]⟩, ⟨[t, t2]⟩⟩, ty, pos, after, guard⟩).run P w = .ok (.value q) w' := by
          simp only [execOp, resolve, invoke, builtin, Sem.run_bind, Sem.run_pure, Result.andThen_ok, List.map_toArray, List.map_cons, List.map_nil, h1]
        refine ⟨fun c hc => (by cases hc), ?_⟩
        rw [this]
        exact hn r q s' g' w' h2 h3 h4 h5
      · exact h.elim
    · split at h
      · rename_i x n t t2
        obtain ⟨b, s', g', w', h1, h2, h3, h4⟩ := ustr_sound (P := P) (t2 := t2) (ty2 := ty) hH (hE.ev x) (hE.ev n) h
        have : (execOp a.eval ⟨dst, .call ⟨.builtin .unsafeString, ⟨[x, n]⟩, ⟨[t, t2]⟩⟩, ty, pos, after, guard⟩).run P w = .ok (.value (.string b)) w' := by
          simp only [execOp, resolve, invoke, builtin, Sem.run_bind, Sem.run_pure, Result.andThen_ok, List.map_toArray, List.map_cons, List.map_nil, h1]
        refine ⟨fun c hc => (by cases hc), ?_⟩
        rw [this]
        exact hn _ _ s' g' w' h2 h3 (.lit _ rfl) h4
      · exact h.elim
    · split at h
      · rename_i x y t t2
        obtain ⟨h1, h2⟩ := cpy_sound (P := P) (t2 := t2) (ty := ty) hH (hE.ev x) (hE.ev y) h
        have : (execOp a.eval ⟨dst, .call ⟨.builtin .copy, ⟨[x, y]⟩, ⟨[t, t2]⟩⟩, ty, pos, after, guard⟩).run P w = .ok (.value (.int .i64 0)) w := by
          simp only [execOp, resolve, invoke, builtin, Sem.run_bind, Sem.run_pure, Result.andThen_ok, List.map_toArray, List.map_cons, List.map_nil, h1]
        refine ⟨fun c hc => (by cases hc), ?_⟩
        rw [this]
        exact hn _ _ s g w (.refl _ _) hH (.lit _ rfl) h2
      · exact h.elim
    · rename_i f
      have hfv := hE.ev f
      generalize hpe : e.ev f = ff at h hfv
      unfold callW at h
      split at h
      · rename_i fid fs cs
        generalize hfe : a.eval f = fv at hfv
        cases hfv with
        | fn _ _ _ fvs cvs h1 h2 h3 h4 =>
          obtain ⟨m1, m2⟩ := args_map hE ⟨args⟩
          have hargs : Args w g (fs ++ args.map e.ev ++ cs) (fvs ++ (List.map a.eval args).toArray ++ cvs) := by
            refine ⟨by simp [h1, h2], fun i p v hpi hvi => ?_⟩
            simp only [List.map_toArray] at m1 m2
            by_cases hi1 : i < fs.length
            · rw [List.append_assoc, List.getElem?_append_left hi1] at hpi
              rw [Array.append_assoc, Array.getElem?_append_left (by omega)] at hvi
              exact h3 i p v hpi hvi
            · by_cases hi2 : i < fs.length + args.length
              · rw [List.append_assoc, List.getElem?_append_right (by omega), List.getElem?_append_left (by simp; omega)] at hpi
                rw [Array.append_assoc, Array.getElem?_append_right (by omega), Array.getElem?_append_left (by simp; omega), h1] at hvi
                exact m2 _ p v hpi hvi
              · rw [List.getElem?_append_right (by simp; omega)] at hpi
                rw [Array.getElem?_append_right (by simp; omega)] at hvi
                simp only [List.length_append, List.length_map, Array.size_append, List.size_toArray, h1] at hpi hvi
                exact h4 _ p v hpi hvi
          rcases h with ⟨hent, h⟩ | h
          case inr =>
            obtain ⟨p, v, s', g', w', q1, q2, q3, q4, q5⟩ := h g w _ hH hargs
            have hrun : (execOp a.eval ⟨dst, .call ⟨.value f, ⟨args⟩, ⟨ats⟩⟩, ty, pos, after, guard⟩).run P w = .ok (.value v) w' := by
              simp only [execOp, resolve, hfe, Deferred.ofValue, invoke, Sem.run_bind, Sem.run_pure, Result.andThen_ok, List.map_toArray, q1]
            refine ⟨fun c hc => (by cases hc), ?_⟩
            rw [hrun]
            exact hn p v s' g' w' q2 q3 q4 q5
          have hrun : (execOp a.eval ⟨dst, .call ⟨.value f, ⟨args⟩, ⟨ats⟩⟩, ty, pos, after, guard⟩).run P w = .ok (.enter fid (fvs ++ (List.map a.eval args).toArray ++ cvs)) w := by
            simp only [execOp, resolve, hfe, Deferred.ofValue, invoke, Sem.run_bind, Sem.run_pure, Result.andThen_ok, List.map_toArray, run_enters hent]
          refine ⟨fun c hc => (by cases hc), ?_⟩
          rw [hrun]
          refine ⟨fun h => (by cases h), (calls_fen (h g w _ hH hargs)).mono ?_⟩
          rintro ex w' ⟨res, s', g', k1, k2, k3, k4⟩
          cases k3 with
          | ret p v hv => exact hn p v s' g' w' k1 k2 hv k4
          | pan c => exact hp c s' g' w' k1 k2 k4
      · rename_i i
        generalize hfe : a.eval f = fv at hfv
        cases hfv with
        | yld _ hi =>
          obtain ⟨m1, m2⟩ := args_map hE ⟨args⟩
          have hargs : Args w g (args.map e.ev) (List.map a.eval args).toArray := by
            simp only [List.map_toArray] at m1 m2
            exact ⟨by simp, m2⟩
          obtain ⟨l, fid, tmps, asg, body, q1, q2⟩ := h g w _ hH hi hargs
          have hrun : (execOp a.eval ⟨dst, .call ⟨.value f, ⟨args⟩, ⟨ats⟩⟩, ty, pos, after, guard⟩).run P w = .ok (.round l fid tmps asg body) w := by
            simp only [execOp, resolve, hfe, Deferred.ofValue, invoke, Sem.run_bind, Sem.run_pure, Result.andThen_ok, List.map_toArray, Array.append_empty, Array.empty_append, q1]
          refine ⟨fun c hc => (by cases hc), ?_⟩
          rw [hrun]
          refine ⟨fun h => (by cases h), q2.mono ?_⟩
          rintro ex w' ⟨p, v, s', g', rfl, k1, k2, k3, k4⟩
          exact hn p v s' g' w' k1 k2 k3 k4
      · exact h.elim
    · exact quiet (okv_ex h)
  · rename_i op t x y t2
    unfold binW at h
    split at h
    · rename_i k xs hx hy
      obtain ⟨hsl, h⟩ := h
      obtain ⟨el, hel⟩ := Option.isSome_iff_exists.1 hsl
      have h1 := hE.ev x
      have h2 := hE.ev y
      rw [hx] at h1
      rw [hy] at h2
      generalize hvx : a.eval x = vx at h1
      generalize hvy : a.eval y = vy at h2
      cases h1 with
      | vec _ _ A cap sz f hc hk hnn h0 hs hm hr =>
        cases h2 with
        | vec _ _ A2 cap2 sz2 f2 hc2 hk2 hnn2 h02 hs2 hm2 hr2 =>
          obtain ⟨rfl, _⟩ := hnn2 rfl
          have hcap2 := h02 rfl
          subst hcap2
          replace hvy : a.eval y = .slice none 0 0 := hvy
          have hq : ∀ (d : Nat) (w : World), (Op.equalIn (d + 1) t (.slice A xs.length cap) (.slice none 0 0)).run P w = .ok A.isNone w := fun d w => by
            cases A <;> simp [Op.equalIn, sliceT_run hel]
          have hq' : ∀ w : World, (Op.equal t (.slice A xs.length cap) (.slice none 0 0)).run P w = .ok A.isNone w := fun w => hq 9999 w
          have p1 : k = .nil → A.isNone = true := fun hk => by rw [(hnn hk).1]; rfl
          have p2 : xs ≠ [] → A.isNone = false := fun hne => by
            cases A with
            | none => exact absurd (List.eq_nil_of_length_eq_zero (by have := h0 rfl; omega)) hne
            | some _ => rfl
          unfold eqNilW at h
          split at h
          · have hr : (execOp a.eval ⟨dst, .binOp .eql t x y t2, ty, pos, after, guard⟩).run P w = .ok (.value (.bool A.isNone)) w := by
              simp only [execOp, hvx, hvy, eqGuard, binOp, Sem.run_bind]
              simp [hq']
            refine ⟨fun c hc => (by cases hc), ?_⟩
            rw [hr]
            exact hn _ _ s g w (.refl _ _) hH (.lit _ rfl) (h _ p1 p2)
          · have hr : (execOp a.eval ⟨dst, .binOp .neq t x y t2, ty, pos, after, guard⟩).run P w = .ok (.value (.bool !A.isNone)) w := by
              simp only [execOp, hvx, hvy, eqGuard, binOp, Sem.run_bind]
              simp [hq']
            refine ⟨fun c hc => (by cases hc), ?_⟩
            rw [hr]
            exact hn _ _ s g w (.refl _ _) hH (.lit _ rfl) (h _ p1 p2)
          · exact h.elim
    · exact quiet (okv_ex h)
  · rename_i t
    obtain ⟨ht, hK⟩ := h
    obtain ⟨g', w', h1, h2, h3, h4⟩ := makeMap_sound (P := P) hH t
    have : (execOp a.eval ⟨dst, .makeMap t none, ty, pos, after, guard⟩).run P w = .ok (.value (.map (some (g'.mu g.n).blk))) w' := by
      simp only [execOp, Option.map_none, Sem.run_bind, h1, Result.andThen_ok, Sem.run_pure]
    refine ⟨fun c hc => (by cases hc), ?_⟩
    rw [this]
    exact hn _ _ _ g' w' h2 h3 h4 (hK g.n (hH.fresh _ (Nat.le_refl _)))
  · rename_i t m k v
    have hm := hE.ev m
    have hk := hE.ev k
    have hv := hE.ev v
    unfold mapW at h
    split at h
    · rename_i i b hmi hkb
      split at h
      · rename_i es hs
        obtain ⟨ht, hK⟩ := h
        rw [hmi] at hm
        rw [hkb] at hk
        obtain ⟨w', q1, q2, q3⟩ := mapUpdate_sound (P := P) hH hm hk hv ht hs
        have : (execOp a.eval ⟨dst, .mapUpdate t m k v, ty, pos, after, guard⟩).run P w = .ok .skip w' := by
          simp only [execOp, Sem.run_bind, q1, Result.andThen_ok, Sem.run_pure]
        refine ⟨fun c hc => (by cases hc), ?_⟩
        rw [this]
        exact hn .junk undef _ g w' q2 q3 (.junk _) hK
      · exact h.elim
    · exact h.elim
  · rename_i src dt x
    have hx := hE.ev x
    have bytes : (∀ b, e.ev x ≠ .lit (.string b)) → (∃ v, convB P s src dt (e.ev x) = some v ∧ K v s) → wpR P ⟨dst, .convert src dt x, ty, pos, after, guard⟩ a w next Q := by
      rintro hne ⟨v, hv, hK⟩
      obtain ⟨u, hu, hr⟩ := convB_sound (P := P) hH hx hne hv
      refine ⟨fun c hc => (by cases hc), ?_⟩
      have : (execOp a.eval ⟨dst, .convert src dt x, ty, pos, after, guard⟩).run P w = .ok (.value u) w := by
        simp only [execOp, Sem.run_bind, hu, Result.andThen_ok, Sem.run_pure]
      rw [this]
      exact hn v u s g w (.refl _ _) hH hr hK
    split at h
    · rename_i i sz off len hp
      rw [hp] at bytes
      exact bytes (by simp) (okv_ex h)
    · rename_i k xs hp
      rw [hp] at bytes
      exact bytes (by simp) (okv_ex h)
    · rename_i i j f hp
      obtain ⟨h1, hK⟩ := h
      rw [hp] at hx
      have hc := cv_sound (P := P) hH hx h1
      refine ⟨fun c hc => (by cases hc), ?_⟩
      have : (execOp a.eval ⟨dst, .convert src dt x, ty, pos, after, guard⟩).run P w = .ok (.value (a.eval x)) w := by
        simp only [execOp, Sem.run_bind, hc, Result.andThen_ok, Sem.run_pure]
      rw [this]
      exact hn _ _ s g w (.refl _ _) hH hx hK
    · exact quiet (okv_ex h)
  · exact quiet (okv_ex h)
/-- What the operations of a region need, in their order. -/
def pws (P : Program) (dst : Nat → Option Tmp) (N : Nat) : List Oper → Env → St → (Env → St → Prop) → (List PanicEntry → Env → St → Prop) → Prop
  | [], e, s, K, _ => K e s
  | o :: os, e, s, K, Kp => (∀ t, o.dst = some t → t < N) ∧ (match o.guard with
    | none => opw P e s (fun v s' => pws P dst N os (e.put o.dst v) s' K Kp) (fun c s' => Kp c e s') o.op
    | some (j, want) => okv (dst j) fun d => (match e d with
      | .lit (.bool t) => (t = want → opw P e s (fun v s' => pws P dst N os (e.put o.dst v) s' K Kp) (fun c s' => Kp c e s') o.op) ∧ (t = !want → pws P dst N os (e.put o.dst (.tup [])) s K Kp)
      | .tup [] => pws P dst N os (e.put o.dst (.tup [])) s K Kp
      | _ => False))
theorem put_defers (a : Act) (d : Option Tmp) (v : Value) : (a.put d v).defers = a.defers := by cases d <;> rfl
theorem pws_sound {B : Nat} {ops : Array Oper} (g0 : G) (w0 : World) {Q : Exit → Env → St → Prop} : ∀ (l : List Oper) (e : Env) (s : St) (g : G) (a : Act) (w : World), LE g0 w0 g w → Holds g s w → ER w g N e a → DK B g w a.defers →
    pws P (fun j => (ops[j]?).bind (·.dst)) N l e s (Q .normal) (fun c e s => Q (.panic c) e s) → wpListR P ops (PQ N B g0 w0 Q) l a w
  | [], e, s, g, a, w, hle, hH, hE, hd, h => ⟨e, s, g, hle, hH, hE, hd, h⟩
  | o :: os, e, s, g, a, w, hle, hH, hE, hd, h => by
    obtain ⟨hdst, h⟩ := h
    have main : opw P e s (fun v s' => pws P (fun j => (ops[j]?).bind (·.dst)) N os (e.put o.dst v) s' (Q .normal) (fun c e s => Q (.panic c) e s)) (fun c s' => Q (.panic c) e s') o.op → wpR P o a w (wpListR P ops (PQ N B g0 w0 Q) os) (PQ N B g0 w0 Q) := fun h =>
      opw_sound hH hE o h (fun p v s' g' w' k1 k2 k3 k4 => pws_sound g0 w0 os _ s' g' _ w' (hle.trans k1) k2 ((hE.le k1.toLEv).put hdst k3) (by rw [put_defers]; exact hd.le k1) k4)
        (fun c s' g' w' k1 k2 k3 => ⟨e, s', g', hle.trans k1, k2, hE.le k1.toLEv, hd.le k1, k3⟩)
    unfold wpListR
    split at h
    · rename_i hg
      rw [if_pos (by simp [Region.wanted, hg])]
      exact main h
    · rename_i j want hg
      obtain ⟨d, hdj, h⟩ := okv_ex h
      have hu : VR w g (.tup []) undef := .tup [] #[] rfl (by simp)
      split at h
      case h_3 => exact h.elim
      case h_2 hed =>
        have hv := hE.vr d
        rw [hed] at hv
        have hvd : a.tmps.getD d undef = .tuple #[] := by
          generalize a.tmps.getD d undef = u at hv
          cases hv with
          | tup _ vs h1 h3 =>
            have : vs = #[] := Array.eq_empty_of_size_eq_zero (by simpa using h1)
            rw [this]
        have hy : yielded ops a.tmps j = none := by
          unfold yielded
          have hdj' : (ops[j]?).bind (·.dst) = some d := hdj
          rw [hdj']
          simp only [Option.bind_some]
          rw [Array.getD_eq_getD_getElem?] at hvd
          cases ht : a.tmps[d]? with
          | none => rfl
          | some v => rw [ht] at hvd; cases hvd; rfl
        rw [if_neg (by simp [Region.wanted, hg, hy])]
        exact pws_sound g0 w0 os _ s g _ w hle hH (hE.put hdst hu) (by rw [put_defers]; exact hd) h
      rename_i t hed
      obtain ⟨h1, h2⟩ := h
      have hv := hE.vr d
      rw [hed] at hv
      obtain ⟨hvd, _⟩ := hv.lit_inv
      have hy : yielded ops a.tmps j = some t := by
        unfold yielded
        have hdj' : (ops[j]?).bind (·.dst) = some d := hdj
        rw [hdj']
        simp only [Option.bind_some]
        rw [Array.getD_eq_getD_getElem?] at hvd
        cases ht : a.tmps[d]? with
        | none => rw [ht] at hvd; cases hvd
        | some v => rw [ht] at hvd; cases hvd; rfl
      by_cases hw : t = want
      · rw [if_pos (by simp [Region.wanted, hg, hy, hw])]
        exact main (h1 hw)
      · rw [if_neg (by simp [Region.wanted, hg, hy, hw])]
        exact pws_sound g0 w0 os _ s g _ w hle hH (hE.put hdst hu) (by rw [put_defers]; exact hd) (h2 (by cases t <;> cases want <;> simp_all))
/-- What a piece of code needs; loops, and regions that draw their order, are left to be told. -/
def pwC (P : Program) (N : Nat) : Code → Env → St → (Exit → Env → St → Prop) → Prop
  | .skip, e, s, Q => Q .normal e s
  | .region _ ops false, e, s, Q => pws P (fun j => (ops[j]?).bind (·.dst)) N ops.toList e s (Q .normal) (fun c e s => Q (.panic c) e s)
  | .seq x y, e, s, Q => pwC P N x e s (thenQ (fun e s => pwC P N y e s Q) Q)
  | .cond c x y, e, s, Q => (match e.ev c with
    | .lit (.bool t) => (t = true → pwC P N x e s Q) ∧ (t = false → pwC P N y e s Q)
    | _ => False)
  | .block id c, e, s, Q => pwC P N c e s (inB id Q)
  | .exit id, e, s, Q => Q (.exit id) e s
  | .ret, e, s, Q => Q .ret e s
  | c, e, s, Q => PW P N c e s Q
theorem PW.region {id : Nat} {ops : Array Oper} {Q : Exit → Env → St → Prop} (h : pws P (fun j => (ops[j]?).bind (·.dst)) N ops.toList e s (Q .normal) (fun c e s => Q (.panic c) e s)) : PW P N (.region id ops false) e s Q :=
  fun r B g a w hr hH hE hd => wpR_region (pws_sound g w ops.toList e s g a w (.refl _ _) hH hE hd h)
theorem pwC_sound : ∀ (c : Code) (e : Env) (s : St) (Q : Exit → Env → St → Prop), pwC P N c e s Q → PW P N c e s Q
  | .skip, e, s, Q, h => PW.skip h
  | .region _ ops false, e, s, Q, h => PW.region h
  | .region _ ops true, e, s, Q, h => h
  | .seq x y, e, s, Q, h => PW.seq (PW.mono (pwC_sound x e s _ h) fun ex e s hq => by
      cases ex <;> first | exact pwC_sound y e s Q hq | exact hq)
  | .cond c x y, e, s, Q, h => by
    unfold pwC at h
    split at h
    · exact PW.cond ‹_› (fun ht => pwC_sound x e s Q (h.1 ht)) (fun ht => pwC_sound y e s Q (h.2 ht))
    · exact h.elim
  | .block id c, e, s, Q, h => PW.block (pwC_sound c e s _ h)
  | .exit id, e, s, Q, h => PW.exit h
  | .ret, e, s, Q, h => PW.ret h
  | .loop c, e, s, Q, h => h
  | .rangeFunc _ _ _ _, e, s, Q, h => h
  | .scope c, e, s, Q, h => h
  | .label _, e, s, Q, h => h
  | .goto _, e, s, Q, h => h
  | .refuse _, e, s, Q, h => h
end
end Go.Pv
