/- A logic over plain values: the operations that only read. -/
import Derived.Test.YteajbghklmkoeaaPv1
import Derived.Laws.StructEq
import Derived.Lib.Strings
namespace Go.Pv
set_option linter.unusedVariables false
set_option linter.unusedSimpArgs false
/-! ### Types -/
def tsz (P : Program) (t : TypeId) : Option Nat := (P.info? t).map (·.size)
def tzero (P : Program) (t : TypeId) : Option Value := (P.info? t).bind (·.zero)
def tby (P : Program) (t : TypeId) : Option Nat := (P.info? t).map (·.bytes)
def aggT (P : Program) (t : TypeId) : Option Bool := match P.underlying t with
  | some (.struct _) => some true
  | some (.array _ _) => some true
  | some _ => some false
  | none => none
def fld (P : Program) (t : TypeId) (f : Nat) : Option (Nat × TypeId) := match P.underlying t with
  | some (.struct fs) => (fs[f]?).map fun x => (x.offset, x.type)
  | _ => none
def sliceT (P : Program) (t : TypeId) : Option TypeId := match P.underlying t with
  | some (.slice e) => some e
  | _ => none
def arrT (P : Program) (t : TypeId) : Option (Nat × TypeId) := match P.underlying t with
  | some (.array n e) => some (n, e)
  | _ => none
def isStrT (P : Program) (t : TypeId) : Bool := match P.underlying t with
  | some .string => true
  | _ => false
def isBoolT (P : Program) (t : TypeId) : Bool := match P.underlying t with
  | some .bool => true
  | _ => false
def intT (P : Program) (t : TypeId) : Option IntKind := match P.underlying t with
  | some (.int k) => some k
  | _ => none
section
variable {P : Program} {t : TypeId} {w : World}
theorem run_sizeOf {n : Nat} (h : tsz P t = some n) : (sizeOf t).run P w = .ok n w := by
  unfold tsz at h
  cases hi : P.info? t with
  | none => rw [hi] at h; cases h
  | some i => rw [hi] at h; cases h; simp [sizeOf, typeInfo, hi]
theorem run_zeroValue {z : Value} (h : tzero P t = some z) : (zeroValue t).run P w = .ok z w := by
  unfold tzero at h
  cases hi : P.info? t with
  | none => rw [hi] at h; cases h
  | some i => rw [hi] at h; simp only [Option.bind_some] at h; simp [zeroValue, typeInfo, hi, h]
theorem run_isAgg {b : Bool} (h : aggT P t = some b) : (isAgg t).run P w = .ok b w := by
  unfold aggT at h
  split at h
  · rename_i h1; cases h; simp [isAgg, run_underlying h1]
  · rename_i h1; cases h; simp [isAgg, run_underlying h1]
  · rename_i d h2 h3 h1
    cases h
    simp only [isAgg, Sem.run_bind, run_underlying h1, Result.andThen_ok]
    cases d <;> first | rfl | (exfalso; first | exact h2 _ rfl | exact h3 _ _ rfl)
  · cases h
theorem fld_run {f : Nat} {o : Nat} {ft : TypeId} (h : fld P t f = some (o, ft)) : ∃ fs x, (underlying t).run P w = .ok (.struct fs) w ∧ fs[f]? = some x ∧ x.offset = o ∧ x.type = ft := by
  unfold fld at h
  split at h
  · rename_i fs h1
    cases hx : fs[f]? with
    | none => rw [hx] at h; cases h
    | some x => rw [hx] at h; cases h; exact ⟨fs, x, run_underlying h1 w, hx, rfl, rfl⟩
  · cases h
theorem sliceT_run {e : TypeId} (h : sliceT P t = some e) : (underlying t).run P w = .ok (.slice e) w := by
  unfold sliceT at h
  split at h
  · rename_i h1; cases h; exact run_underlying h1 w
  · cases h
theorem arrT_run {n : Nat} {e : TypeId} (h : arrT P t = some (n, e)) : (underlying t).run P w = .ok (.array n e) w := by
  unfold arrT at h
  split at h
  · rename_i h1; cases h; exact run_underlying h1 w
  · cases h
theorem isStrT_run (h : isStrT P t = true) : (underlying t).run P w = .ok .string w := by
  unfold isStrT at h
  split at h
  · rename_i h1; exact run_underlying h1 w
  · cases h
theorem isBoolT_run (h : isBoolT P t = true) : (underlying t).run P w = .ok .bool w := by
  unfold isBoolT at h
  split at h
  · rename_i h1; exact run_underlying h1 w
  · cases h
theorem intT_run {k : IntKind} (h : intT P t = some k) : (underlying t).run P w = .ok (.int k) w := by
  unfold intT at h
  split at h
  · rename_i h1; cases h; exact run_underlying h1 w
  · cases h
end
/-! ### What the operations give -/
/-- Cells as the value of an aggregate, or of one cell. -/
def pack (ag : Bool) (cs : List PV) : Option PV := if ag then some (.agg cs) else cs.head?
/-- n cells at a pointer. -/
def cellsAt (s : St) (p : PV) (n : Nat) : Option (List PV) := match p with
  | .ep cs => if n ≤ cs.length then some (cs.take n) else none
  | .pt i j f => match s i with
    | some (.row _ _ els) => match els[j]? with
      | some cs => if f + n ≤ cs.length then some ((cs.drop f).take n) else none
      | none => none
    | some (.ro cs) => if j = 0 ∧ f + n ≤ cs.length then some ((cs.drop f).take n) else none
    | _ => none
  | _ => none
def intBin (op : BinOp) (k : IntKind) (a b : Int) : Option PV := match op with
  | .add => some (.lit (.int k (k.wrap (a + b))))
  | .sub => some (.lit (.int k (k.wrap (a - b))))
  | .mul => some (.lit (.int k (k.wrap (a * b))))
  | .eql => some (.lit (.bool (decide (a = b))))
  | .neq => some (.lit (.bool (!decide (a = b))))
  | .lss => some (.lit (.bool (decide (a < b))))
  | .leq => some (.lit (.bool (decide (a ≤ b))))
  | .gtr => some (.lit (.bool (decide (a > b))))
  | .geq => some (.lit (.bool (decide (a ≥ b))))
  | .quo => if b = 0 then none else some (.lit (.int k (k.wrap (a.tdiv b))))
  | .rem => if b = 0 then none else some (.lit (.int k (a.tmod b)))
  | .shr => if b < 0 then none else some (.lit (.int k (a.fdiv (2 ^ (min b.toNat k.bits)))))
  | .shl => if b < 0 then none else some (.lit (.int k (k.wrap (a * 2 ^ (min b.toNat k.bits)))))
  | _ => none
def strLess (a b : ByteArray) : Bool := Op.bytesLess a.toList b.toList
def strBin (op : BinOp) (a b : ByteArray) : Option PV := match op with
  | .add => if a.size + b.size ≤ 4611686018427387904 then some (.lit (.string (a ++ b))) else none
  | .eql => some (.lit (.bool (decide (a = b))))
  | .neq => some (.lit (.bool (!decide (a = b))))
  | .lss => some (.lit (.bool (strLess a b)))
  | .geq => some (.lit (.bool (!strLess a b)))
  | _ => none
/-- A struct of numbers (0), texts (1) and truth values (2) alone, one behind the other. -/
def flatF (P : Program) : Nat → List Field → Option (List Nat)
  | _, [] => some []
  | i, f :: fs => if f.offset = i ∧ f.name ≠ "_" then (match P.underlying f.type with
    | some (.int _) => (flatF P (i + 1) fs).map (0 :: ·)
    | some .string => (flatF P (i + 1) fs).map (1 :: ·)
    | some .bool => (flatF P (i + 1) fs).map (2 :: ·)
    | _ => none) else none
def flatT (P : Program) (t : TypeId) : Option (List Nat) := match P.underlying t with
  | some (.struct fs) => if P.stoodInHeld t = false ∧ P.eqGuardType P.depth t = false then flatF P 0 fs.toList else none
  | _ => none
def eq1 : Nat → PV → PV → Option Bool
  | 0, .lit (.int k a), .lit (.int k' b) => if k = k' then some (decide (a = b)) else none
  | 1, .lit (.string a), .lit (.string b) => some (decide (a = b))
  | 2, .lit (.bool a), .lit (.bool b) => some (decide (a = b))
  | _, _, _ => none
def eqC : List Nat → List PV → List PV → Option Bool
  | [], [], [] => some true
  | t :: ts, c :: cs, d :: ds => (eq1 t c d).bind fun a => (eqC ts cs ds).map fun r => a && r
  | _, _, _ => none
/-- Two pointers of this type are compared by where they lead. -/
def ptrT (P : Program) (t : TypeId) : Bool := match P.underlying t with
  | some (.pointer e) => (match P.info? e with
    | some j => j.size != 0
    | none => false)
  | _ => false
def eqB (op : BinOp) (b : Bool) : Option PV := match op with
  | .eql => some (.lit (.bool b))
  | .neq => some (.lit (.bool !b))
  | _ => none
def bin (P : Program) (op : BinOp) (t : TypeId) : PV → PV → Option PV
  | .lit (.int k a), .lit (.int k' b) => if k = k' then intBin op k a b else none
  | .lit (.string a), .lit (.string b) => strBin op a b
  | .lit (.bool a), .lit (.bool b) => if isBoolT P t then (match op with
    | .eql => some (.lit (.bool (a == b)))
    | .neq => some (.lit (.bool (a != b)))
    | _ => none) else none
  | .agg cs, .agg ds => (flatT P t).bind fun ts => (eqC ts cs ds).bind fun b => (match op with
    | .eql => some (.lit (.bool b))
    | .neq => some (.lit (.bool !b))
    | _ => none)
  | .lit (.pointer none), .lit (.pointer none) => if ptrT P t = true then eqB op true else none
  | .pt _ _ _, .lit (.pointer none) => if ptrT P t = true then eqB op false else none
  | .ep _, .lit (.pointer none) => if ptrT P t = true then eqB op false else none
  | .lit (.pointer none), .pt _ _ _ => if ptrT P t = true then eqB op false else none
  | .pt i j f, .pt i' j' f' => if ptrT P t = true ∧ i = i' ∧ j = j' ∧ f = f' then eqB op true else none
  | _, _ => none
def un : UnOp → PV → Option PV
  | .neg, .lit (.int k n) => some (.lit (.int k (k.wrap (0 - n))))
  | .not, .lit (.bool b) => some (.lit (.bool !b))
  | _, _ => none
def bound (d : Nat) : Option PV → Option Nat
  | none => some d
  | some (.lit (.int _ i)) => if 0 ≤ i then some i.toNat else none
  | some _ => none
def slc (P : Program) (t : TypeId) (x : PV) (lo hi : Option PV) : Option PV := match x with
  | .lit (.string s) => if isStrT P t then (bound s.size hi).bind fun h => (bound 0 lo).bind fun l => if l ≤ h ∧ h ≤ s.size then some (.lit (.string (s.extract l h))) else none else none
  | .vec k xs => (sliceT P t).bind fun el => (tsz P el).bind fun n => (bound xs.length hi).bind fun h => (bound 0 lo).bind fun l =>
    if l ≤ h ∧ h ≤ xs.length ∧ xs.all (fun x => x.width == n) = true then some (.vec (match k, hi with | .nil, _ => .nil | .tight, none => .tight | _, _ => .any) ((xs.take h).drop l)) else none
  | .sl i sz off len => (sliceT P t).bind fun el => (tsz P el).bind fun n => (bound len hi).bind fun h => (bound 0 lo).bind fun l =>
    if sz = n ∧ h ≤ len ∧ (l < h ∨ l = 0) then some (.sl i sz (off + l) (h - l)) else none
  | _ => none
def lenOf (P : Program) (t : TypeId) : PV → Option Nat
  | .lit (.string s) => if isStrT P t then some s.size else none
  | .vec _ xs => (sliceT P t).map fun _ => xs.length
  | .sl _ _ _ len => (sliceT P t).map fun _ => len
  | _ => none
def idxAddr (P : Program) (t : TypeId) (x i : PV) : Option PV := match i with
  | .lit (.int _ i) => if 0 ≤ i then (match x with
    | .vec _ xs => (sliceT P t).bind fun el => (tsz P el).bind fun n => (xs[i.toNat]?).bind fun y => if y.width = n then some (.ep y.cells) else none
    | .sl b sz off len => (sliceT P t).bind fun el => (tsz P el).bind fun n => if i.toNat < len ∧ sz = n then some (.pt b (off + i.toNat) 0) else none
    | .pt b j f => (arrT P t).bind fun (m, el) => (tsz P el).bind fun n => if i.toNat < m then some (.pt b j (f + i.toNat * n)) else none
    | .ep cs => (arrT P t).bind fun (m, el) => (tsz P el).bind fun n => if i.toNat < m then some (.ep (cs.drop (i.toNat * n))) else none
    | _ => none) else none
  | _ => none
def idx (P : Program) (t : TypeId) (x i : PV) : Option PV := match i with
  | .lit (.int _ i) => if 0 ≤ i then (match x with
    | .lit (.string s) => if isStrT P t then (s[i.toNat]?).map fun b => .lit (.int .u8 b.toNat) else none
    | .agg cs => (arrT P t).bind fun (m, el) => (tsz P el).bind fun n => (aggT P el).bind fun ag => if i.toNat < m then pack ag ((cs.drop (i.toNat * n)).take n) else none
    | _ => none) else none
  | _ => none
def qcall (P : Program) (e : Env) (c : Call) : Option PV := match c.callee with
  | .builtin .len => (match c.args.toList, c.argTypes.toList with
    | [x], [t] => (lenOf P t (e.ev x)).map fun n => .lit (.int .i64 n)
    | _, _ => none)
  | .builtin .max => (match c.args.toList with
    | [x, y] => (match e.ev x, e.ev y with
      | .lit (.int k i), .lit (.int k' j) => if k = k' then some (.lit (.int k (max i j))) else none
      | _, _ => none)
    | _ => none)
  | .builtin .min => (match c.args.toList with
    | [x, y] => (match e.ev x, e.ev y with
      | .lit (.int k i), .lit (.int k' j) => if k = k' then some (.lit (.int k (min i j))) else none
      | _, _ => none)
    | _ => none)
  | .builtin .cap => (match c.args.toList, c.argTypes.toList with
    | [x], [t] => (match e.ev x with
      | .vec k xs => if k = .any then none else (sliceT P t).map fun _ => .lit (.int .i64 xs.length)
      | _ => none)
    | _, _ => none)
  | .builtin .unsafeSliceData => (match c.args.toList with
    | [x] => (match e.ev x with
      | .sl i sz off len => if len = 0 then none else some (.pt i off 0)
      | .vec .nil _ => some (.lit (.pointer none))
      | _ => none)
    | _ => none)
  | _ => none
/-- A map's type, its keys texts: the keys' and the values'. -/
def mapT (P : Program) (t : TypeId) : Option (TypeId × TypeId) := match P.underlying t with
  | some (.map k e) => (match P.underlying k with
    | some .string => some (k, e)
    | _ => none)
  | _ => none
def dget : List (ByteArray × PV) → ByteArray → Option PV
  | [], _ => none
  | (k', v) :: r, k => if k = k' then some v else dget r k
def dset : List (ByteArray × PV) → ByteArray → PV → List (ByteArray × PV)
  | [], k, v => [(k, v)]
  | (k', u) :: r, k, v => if k = k' then (k, v) :: r else (k', u) :: dset r k v
def lookR (P : Program) (t : TypeId) (es : List (ByteArray × PV)) (b : ByteArray) (c : Bool) : Option PV :=
  (mapT P t).bind fun (_, el) => (tzero P el).bind fun z => some (match dget es b with
    | some v => if c = true then .tup [v, .lit (.bool true)] else v
    | none => if c = true then .tup [ofVal z, .lit (.bool false)] else ofVal z)
def lookV (P : Program) (s : St) (t : TypeId) (x k : PV) (c : Bool) : Option PV := match x, k with
  | .mp i, .lit (.string b) => (match s i with
    | some (.dict es) => lookR P t es b c
    | _ => none)
  | .lit (.map none), .lit (.string b) => lookR P t [] b c
  | _, _ => none
def qop (P : Program) (e : Env) (s : St) : Go.Op → Option PV
  | .move x => some (e.ev x)
  | .assign x => some (e.ev x)
  | .load t a => (tsz P t).bind fun n => (aggT P t).bind fun ag => (cellsAt s (e.ev a) n).bind fun cs => pack ag cs
  | .nilCheck x => (match e.ev x with
    | .pt i j f => some (.pt i j f)
    | .ep cs => some (.ep cs)
    | .fn f a b => some (.fn f a b)
    | _ => none)
  | .binOp op t x y _ => bin P op t (e.ev x) (e.ev y)
  | .unOp op _ x => un op (e.ev x)
  | .convert src dst x => (match e.ev x with
    | .lit (.int _ n) => (P.underlying src).bind fun _ => (intT P dst).map fun k => .lit (.int k (k.wrap n))
    | .lit (.string b) => (P.underlying src).bind fun _ => if isStrT P dst = true then some (.lit (.string b)) else none
    | _ => none)
  | .lookup t x k c => lookV P s t (e.ev x) (e.ev k) c
  | .makeFunc (.func f) a b => some (.fn f (a.toList.map e.ev) (b.toList.map e.ev))
  | .slice t x lo hi none => slc P t (e.ev x) (lo.map e.ev) (hi.map e.ev)
  | .slice t x none (some hi) (some mx) => (sliceT P t).bind fun el => (tsz P el).bind fun _ => (match e.ev x, e.ev hi, e.ev mx with
    | .vec _ _, .lit (.int _ h), .lit (.int _ m) => if h = 0 ∧ m = 0 then some (.vec .tight []) else none
    | _, _, _ => none)
  | .fieldAddr t x f => (fld P t f).bind fun (o, ft) => (tsz P ft).bind fun n => if n = 0 then none else (match e.ev x with
    | .pt i j g => some (.pt i j (g + o))
    | .ep cs => some (.ep (cs.drop o))
    | _ => none)
  | .field t x f => (fld P t f).bind fun (o, ft) => (tsz P ft).bind fun n => (aggT P ft).bind fun ag => (match e.ev x with
    | .agg cs => pack ag ((cs.drop o).take n)
    | _ => none)
  | .indexAddr t x i => idxAddr P t (e.ev x) (e.ev i)
  | .index t x i => idx P t (e.ev x) (e.ev i)
  | .extract x k => (match e.ev x with
    | .tup vs => vs[k]?
    | _ => none)
  | .call c => qcall P e c
  | _ => none
/-! ### .. and that they do -/
section
variable {P : Program} {w : World} {g : G} {s : St} {N : Nat} {e : Env} {a : Act}
theorem VR.lit_inv {v u : Value} (h : VR w g (.lit v) u) : u = v ∧ scal v = true := by cases h with | lit _ h => exact ⟨rfl, h⟩
theorem VR.cells_agg {cs : List PV} {v : Value} (h : VR w g (.agg cs) v) : ∃ vs : Array Value, v = .agg vs ∧ vs.size = cs.length ∧ (∀ (i : Nat) (v : Value), vs[i]? = some v → Value.oneCell' v = true) ∧ ∀ (i : Nat) (c : PV) (v : Value), cs[i]? = some c → vs[i]? = some v → VR w g c v := by
  cases h with | agg _ vs h1 h2 h3 => exact ⟨vs, rfl, h1, h2, h3⟩
theorem pack_one {cs : List PV} {v : PV} (h : pack false cs = some v) : ∃ r, cs = v :: r := by
  cases cs with
  | nil => cases h
  | cons c r => cases h; exact ⟨r, rfl⟩
/-- What n cells at a pointer are in the world. -/
theorem cellsAt_vr (hH : Holds g s w) {p : PV} {v : Value} (hp : VR w g p v) {n : Nat} {cs : List PV} (h : cellsAt s p n = some cs) :
    cs.length = n ∧ ∃ ad, v = .pointer (some ad) ∧ ∃ vs : List Value, vs.length = n ∧ (∀ (j : Nat) (u : Value), vs[j]? = some u → w.cell? (ad.add j) = some u) ∧ (∀ (j : Nat) (u : Value), vs[j]? = some u → Value.oneCell' u = true) ∧
      ∀ (j : Nat) (c : PV) (u : Value), cs[j]? = some c → vs[j]? = some u → VR w g c u := by
  cases hp with
  | ep cs0 ad f hm h2 =>
    simp only [cellsAt] at h
    split at h
    · rename_i hn
      cases h
      have ht : ∀ (j : Nat) (u : Value), ((List.range n).map f)[j]? = some u → u = f j ∧ j < n := by
        intro j u hj
        rw [List.getElem?_map] at hj
        cases hr : (List.range n)[j]? with
        | none => rw [hr] at hj; cases hj
        | some k =>
          rw [hr] at hj
          cases hj
          obtain ⟨h1, h2⟩ := List.getElem?_eq_some_iff.1 hr
          simp only [List.getElem_range] at h2
          subst h2
          exact ⟨rfl, by simpa using h1⟩
      refine ⟨by simp; omega, ad, rfl, (List.range n).map f, by simp, fun j u hj => ?_, fun j u hj => ?_, fun j c u hc hj => ?_⟩
      · obtain ⟨rfl, hl⟩ := ht j u hj
        exact (hm j _ (List.getElem?_eq_getElem (by omega))).2.1
      · obtain ⟨rfl, hl⟩ := ht j u hj
        exact (hm j _ (List.getElem?_eq_getElem (by omega))).2.2
      · obtain ⟨rfl, hl⟩ := ht j u hj
        rw [List.getElem?_take, if_pos hl] at hc
        exact h2 j c hc
    · cases h
  | pt i j f hi =>
    simp only [cellsAt] at h
    split at h
    · rename_i ty sz els hs
      split at h
      · rename_i el hel
        split at h
        · rename_i hn
          cases h
          obtain ⟨_, _, _, arr, hz, hb, hsz, hl, he, h5⟩ := hH.blk i _ hs
          have hlen := he j el hel
          have hjl := (List.getElem?_eq_some_iff.1 hel).1
          have hmul : j * sz + sz ≤ els.length * sz := by rw [← Nat.succ_mul]; exact Nat.mul_le_mul_right _ hjl
          have hg : ∀ k, k < n → ∃ v, arr[j * sz + (f + k)]? = some v ∧ Value.oneCell' v = true ∧ ∀ c, el[f + k]? = some c → VR w g c v := by
            intro k hk
            obtain ⟨v, h1, h2, h3⟩ := h5 j el (f + k) _ hel (List.getElem?_eq_getElem (by omega))
            exact ⟨v, h1, h2, fun c hc => by rw [List.getElem?_eq_getElem (by omega)] at hc; cases hc; exact h3⟩
          have ht : ∀ (k : Nat) (u : Value), (((arr.toList.drop (j * sz + f)).take n))[k]? = some u → arr[j * sz + (f + k)]? = some u ∧ k < n := by
            intro k u hk
            rw [List.getElem?_take] at hk
            split at hk
            · rename_i hkn
              rw [List.getElem?_drop, Array.getElem?_toList] at hk
              exact ⟨by rw [← hk]; congr 1; omega, hkn⟩
            · cases hk
          refine ⟨by simp; omega, _, rfl, (arr.toList.drop (j * sz + f)).take n, by simp; omega, fun k u hk => ?_, fun k u hk => ?_, fun k c u hc hk => ?_⟩
          · obtain ⟨h1, h2⟩ := ht k u hk
            rw [add_plain]
            simp only [World.cell?, hb, hz]
            rw [← h1]
            simp [Nat.add_assoc]
          · obtain ⟨h1, h2⟩ := ht k u hk
            obtain ⟨v, h3, h4, _⟩ := hg k h2
            rw [h1] at h3
            cases h3
            exact h4
          · obtain ⟨h1, h2⟩ := ht k u hk
            obtain ⟨v, h3, _, h4⟩ := hg k h2
            rw [h1] at h3
            cases h3
            rw [List.getElem?_take, if_pos h2, List.getElem?_drop] at hc
            exact h4 c hc
        · cases h
      · cases h
    · rename_i cs0 hs
      split at h
      · rename_i hc
        obtain ⟨rfl, hn⟩ := hc
        cases h
        obtain ⟨_, _, _, _⟩ | ⟨_, _, _⟩ | ⟨_, _, _, _, hz, hb, h5⟩ := hH.blk i _ hs
        have hg : ∀ k, k < n → ∃ v, w.cell? ⟨(g.mu i).blk, f + k, none⟩ = some v ∧ Value.oneCell' v = true ∧ ∀ c, cs0[f + k]? = some c → VR w g c v := by
          intro k hk
          obtain ⟨v, h1, h2, h3⟩ := h5 (f + k) _ (List.getElem?_eq_getElem (by omega))
          exact ⟨v, h1, h2, fun c hc => by rw [List.getElem?_eq_getElem (by omega)] at hc; cases hc; exact h3⟩
        have ht : ∀ (k : Nat) (u : Value), ((List.range n).map fun k => (w.cell? ⟨(g.mu i).blk, f + k, none⟩).getD undef)[k]? = some u → w.cell? ⟨(g.mu i).blk, f + k, none⟩ = some u ∧ k < n := by
          intro k u hk
          rw [List.getElem?_map] at hk
          cases hr : (List.range n)[k]? with
          | none => rw [hr] at hk; cases hk
          | some k2 =>
            rw [hr] at hk
            cases hk
            obtain ⟨h1, h2⟩ := List.getElem?_eq_some_iff.1 hr
            simp only [List.getElem_range] at h2
            subst h2
            have hkn : k < n := by simpa using h1
            obtain ⟨v, h3, _⟩ := hg k hkn
            exact ⟨by simp only [h3]; rfl, hkn⟩
        refine ⟨by simp; omega, _, rfl, (List.range n).map fun k => (w.cell? ⟨(g.mu i).blk, f + k, none⟩).getD undef, by simp, fun k u hk => ?_, fun k u hk => ?_, fun k c u hc hk => ?_⟩
        · obtain ⟨h1, h2⟩ := ht k u hk
          rw [add_plain]
          rw [← h1]
          simp
        · obtain ⟨h1, h2⟩ := ht k u hk
          obtain ⟨v, h3, h4, _⟩ := hg k h2
          rw [h1] at h3
          cases h3
          exact h4
        · obtain ⟨h1, h2⟩ := ht k u hk
          obtain ⟨v, h3, _, h4⟩ := hg k h2
          rw [h1] at h3
          cases h3
          rw [List.getElem?_take, if_pos h2, List.getElem?_drop] at hc
          exact h4 c hc
      · cases h
    · cases h
  | junk => cases h
  | lit => cases h
  | agg => cases h
  | tup => cases h
  | vec => cases h
  | sl => cases h
  | fn => cases h
  | mp => cases h
  | yld => cases h
theorem run_load_pv (hH : Holds g s w) {p : PV} {v : Value} (hp : VR w g p v) {t : TypeId} {n : Nat} {ag : Bool} {cs : List PV} {r : PV} (hn : tsz P t = some n) (ha : aggT P t = some ag) (h : cellsAt s p n = some cs) (hr : pack ag cs = some r) :
    ∃ u, (Instr.loadAt t v).run P w = .ok u w ∧ VR w g r u := by
  obtain ⟨hl, ad, rfl, vs, hvl, hcell, h1, hvr⟩ := cellsAt_vr hH hp h
  cases ag with
  | true =>
    cases hr
    refine ⟨.agg vs.toArray, ?_, .agg cs vs.toArray (by simp; omega) (fun i v hv => h1 i v (by simpa using hv)) (fun i c v hc hv => hvr i c v hc (by simpa using hv))⟩
    simp only [Instr.loadAt, Instr.sureAddr, loadVar, Sem.run_bind, Sem.run_pure, Result.andThen_ok, run_isAgg ha, if_true, run_sizeOf hn, run_loadCells vs hcell n hvl.symm]
  | false =>
    obtain ⟨rest, rfl⟩ := pack_one hr
    cases vs with
    | nil => simp at hl hvl; omega
    | cons u us =>
      refine ⟨u, ?_, hvr 0 _ _ rfl rfl⟩
      have h0 := hcell 0 u rfl
      have h00 : ad.add 0 = ad := by simp [Addr.add]
      rw [h00] at h0
      simp only [Instr.loadAt, Instr.sureAddr, loadVar, Sem.run_bind, Sem.run_pure, Result.andThen_ok, run_isAgg ha, Bool.false_eq_true, if_false, run_load, h0]
end
end Go.Pv
