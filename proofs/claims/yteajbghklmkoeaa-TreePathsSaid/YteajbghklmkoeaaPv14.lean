/- A logic over plain values: how simp opens it. -/
import Derived.Test.YteajbghklmkoeaaPv13
namespace Go.Pv
set_option linter.unusedVariables false
theorem nr {α : Sort _} {a b : α} (h : a = b) : a = b := h
/-- A mark that keeps simp out of what it stands behind. -/
def Tag {α : Sort _} (a : α) : Type := Unit
def tag {α : Sort _} {a : α} : Tag a := ()
def PCallsL (P : Program) (f : FuncId) (args : List PV) (s : St) (R : Res → St → Prop) (t : Tag R) : Prop := PCalls P f args s R
def PYldL (P : Program) (i : Nat) (args : List PV) (s : St) (K : PV → St → Prop) (t : Tag K) : Prop := PYld P i args s K
def PWL (P : Program) (N : Nat) (c : Code) (t : Tag c) (e : Env) (s : St) (Q : Exit → Env → St → Prop) (t2 : Tag Q) : Prop := PW P N c e s Q
set_option linter.unusedSimpArgs false
section
variable {P : Program} {N : Nat} {e : Env} {s : St} {Q : Exit → Env → St → Prop} {K : PV → St → Prop} {Kp : List PanicEntry → St → Prop}
/-- No abstract block of this number. -/
def Fresh (s : St) (i : Nat) : Prop := s i = none
@[simp] theorem fresh_upd {j i : Nat} {b : Blk} : Fresh (s.upd j (some b)) i ↔ (i ≠ j ∧ j ≠ i ∧ Fresh s i) := by
  unfold Fresh St.upd
  by_cases h : i = j
  · subst h; simp
  · simp [h, Ne.symm h]
@[simp] theorem fresh_upd_none {j i : Nat} : Fresh (s.upd j none) i ↔ (i = j ∨ Fresh s i) := by
  unfold Fresh St.upd
  by_cases h : i = j
  · subst h; simp
  · simp [h]
theorem upd_at (s : St) (i : Nat) (b : Option Blk) (j : Nat) : (s.upd i b) j = if j = i then b else s j := rfl
attribute [simp] upd_at
@[simp] theorem put_some (e : Env) (d : Tmp) (v : PV) (t : Tmp) : (e.put (some d) v) t = if t = d then v else e t := by
  have h : (e.put (some d) v) t = if t = d then v else e t := nr rfl
  by_cases ht : t = d <;> exact h
@[simp] theorem put_none (e : Env) (v : PV) : e.put none v = e := nr rfl
@[simp] theorem ev_tmp (e : Env) (t : Tmp) : e.ev (.tmp t) = e t := by
  have h : e.ev (.tmp t) = e t := nr rfl
  by_cases ht : t = 0 <;> exact h
@[simp] theorem ev_const (e : Env) (v : Value) : e.ev (.const v) = ofVal v := by
  have h : e.ev (.const v) = ofVal v := nr rfl
  by_cases ht : (0 : Nat) = 1 <;> exact h
@[simp] theorem ev_global (e : Env) (k : Nat) : e.ev (.global k) = if k < 64 then .pt k 0 0 else .junk := nr rfl
@[simp] theorem ev_func (e : Env) (f : FuncId) : e.ev (.func f) = .fn f [] [] := nr rfl
@[simp] theorem start_at (args : List PV) (t : Tmp) : (Env.start args) t = args.getD t .junk := nr rfl
@[simp] theorem ofVal_int (k : IntKind) (n : Int) : ofVal (.int k n) = .lit (.int k n) := nr rfl
@[simp] theorem ofVal_bool (b : Bool) : ofVal (.bool b) = .lit (.bool b) := nr rfl
@[simp] theorem ofVal_str (b : ByteArray) : ofVal (.string b) = .lit (.string b) := nr rfl
@[simp] theorem ofVal_nil : ofVal (.slice none 0 0) = .vec .nil [] := nr rfl
@[simp] theorem ofVal_ptr : ofVal (.pointer none) = .lit (.pointer none) := nr rfl
@[simp] theorem ofVal_map : ofVal (.map none) = .lit (.map none) := nr rfl
@[simp] theorem ofVal_nilIface : ofVal .nilIface = .lit .nilIface := nr rfl
@[simp] theorem ofVal_nilFunc : ofVal .nilFunc = .lit .nilFunc := nr rfl
@[simp] theorem ofVal_agg (cs : List Value) : ofVal (.agg cs.toArray) = if cs.all Value.oneCell' then .agg (cs.map ofCell) else .junk := by simp [ofVal]
@[simp] theorem ofCell_int (k : IntKind) (n : Int) : ofCell (.int k n) = .lit (.int k n) := nr rfl
@[simp] theorem ofCell_bool (b : Bool) : ofCell (.bool b) = .lit (.bool b) := nr rfl
@[simp] theorem ofCell_str (b : ByteArray) : ofCell (.string b) = .lit (.string b) := nr rfl
@[simp] theorem ofCell_nil : ofCell (.slice none 0 0) = .vec .nil [] := nr rfl
@[simp] theorem ofCell_ptr : ofCell (.pointer none) = .lit (.pointer none) := nr rfl
@[simp] theorem ofCell_map : ofCell (.map none) = .lit (.map none) := nr rfl
@[simp] theorem ofCell_nilFunc : ofCell .nilFunc = .lit .nilFunc := nr rfl
attribute [simp] Value.oneCell' Value.cells
theorem two_ways (t w : Bool) (A B : Prop) : ((t = w → A) ∧ (t = !w → B)) = if t = w then A else B := by
  cases t <;> cases w <;> simp
theorem two_ways' (t : Bool) (A B : Prop) : ((t = true → A) ∧ (t = false → B)) = if t = true then A else B := by
  cases t <;> simp
/-! #### code -/
@[simp ↓] theorem pwC_skip : pwC P N .skip e s Q = Q .normal e s := nr rfl
@[simp ↓] theorem pwC_seq (x y : Code) : pwC P N (.seq x y) e s Q = pwC P N x e s (thenQ (fun e s => pwC P N y e s Q) Q) := nr rfl
@[simp ↓] theorem pwC_cond (c : Operand) (x y : Code) : pwC P N (.cond c x y) e s Q = (match e.ev c with
    | .lit (.bool t) => if t = true then pwC P N x e s Q else pwC P N y e s Q
    | _ => False) := by
  simp only [← two_ways']; rfl
@[simp ↓] theorem pwC_block (id : Nat) (c : Code) : pwC P N (.block id c) e s Q = pwC P N c e s (inB id Q) := nr rfl
@[simp ↓] theorem pwC_exit (id : Nat) : pwC P N (.exit id) e s Q = Q (.exit id) e s := nr rfl
@[simp ↓] theorem pwC_ret : pwC P N .ret e s Q = Q .ret e s := nr rfl
def dstOf : List Oper → Nat → Option Tmp
  | [], _ => none
  | o :: _, 0 => o.dst
  | _ :: l, n + 1 => dstOf l n
theorem dstOf_eq : ∀ (l : List Oper), (fun j => (l[j]?).bind (·.dst)) = dstOf l
  | [] => by funext j; simp [dstOf]
  | o :: l => by
    funext j
    cases j with
    | zero => rfl
    | succ j => have := congrFun (dstOf_eq l) j; simpa [dstOf] using this
@[simp ↓] theorem dstOf_zero (d : Option Tmp) (op : Go.Op) (ty : TypeId) (pos : String) (after : Array Edge) (g : Option (Nat × Bool)) (l : List Oper) : dstOf (⟨d, op, ty, pos, after, g⟩ :: l) 0 = d := nr rfl
@[simp ↓] theorem dstOf_succ (o : Oper) (l : List Oper) (n : Nat) : dstOf (o :: l) (n + 1) = dstOf l n := nr rfl
/-- Where each operation writes, as a list: made plain once. -/
def dsts : List Oper → List (Option Tmp)
  | [] => []
  | o :: l => o.dst :: dsts l
def nthD : List (Option Tmp) → Nat → Option Tmp
  | [], _ => none
  | d :: _, 0 => d
  | _ :: l, n + 1 => nthD l n
theorem nthD_eq : ∀ (l : List Oper), nthD (dsts l) = dstOf l
  | [] => rfl
  | o :: l => by
    funext j
    cases j with
    | zero => rfl
    | succ j => exact congrFun (nthD_eq l) j
@[simp ↓] theorem dsts_nil : dsts [] = [] := nr rfl
@[simp ↓] theorem dsts_cons (d : Option Tmp) (op : Go.Op) (ty : TypeId) (pos : String) (after : Array Edge) (g : Option (Nat × Bool)) (l : List Oper) : dsts (⟨d, op, ty, pos, after, g⟩ :: l) = d :: dsts l := nr rfl
@[simp ↓] theorem nthD_zero (d : Option Tmp) (l : List (Option Tmp)) : nthD (d :: l) 0 = d := nr rfl
@[simp ↓] theorem nthD_succ (d : Option Tmp) (l : List (Option Tmp)) (n : Nat) : nthD (d :: l) (n + 1) = nthD l n := nr rfl
def fcd (ds : List (Option Tmp)) : Option (List (Option Tmp)) := some ds
@[simp] theorem fcd_def (ds : List (Option Tmp)) : fcd ds = some ds := nr rfl
@[simp ↓] theorem pwC_region (id : Nat) (ops : List Oper) : pwC P N (.region id ops.toArray false) e s Q = (match fcd (dsts ops) with
    | some ds => pws P (nthD ds) N ops e s (Q .normal) (fun c e s => Q (.panic c) e s)
    | none => False) := by
  simp only [fcd, nthD_eq]
  rw [← dstOf_eq]
  simp [pwC]
@[simp ↓] theorem pwC_loop (c : Code) : pwC P N (.loop c) e s Q = PWL P N (.loop c) tag e s Q tag := nr rfl
@[simp ↓] theorem pwC_range (f : Operand) (ps : Array Tmp) (x y : Code) : pwC P N (.rangeFunc f ps x y) e s Q = PWL P N (.rangeFunc f ps x y) tag e s Q tag := nr rfl
@[simp ↓] theorem pwC_draw (id : Nat) (ops : Array Oper) : pwC P N (.region id ops true) e s Q = PWL P N (.region id ops true) tag e s Q tag := nr rfl
@[simp ↓] theorem thenQ_normal {K : Env → St → Prop} : thenQ K Q .normal e s = K e s := nr rfl
@[simp ↓] theorem thenQ_exit {K : Env → St → Prop} (i : Nat) : thenQ K Q (.exit i) e s = Q (.exit i) e s := nr rfl
@[simp ↓] theorem thenQ_ret {K : Env → St → Prop} : thenQ K Q .ret e s = Q .ret e s := nr rfl
@[simp ↓] theorem thenQ_panic {K : Env → St → Prop} (c : List PanicEntry) : thenQ K Q (.panic c) e s = Q (.panic c) e s := nr rfl
@[simp ↓] theorem inB_normal (i : Nat) : inB i Q .normal e s = Q .normal e s := nr rfl
@[simp ↓] theorem inB_exit (i j : Nat) : inB i Q (.exit j) e s = if j = i then Q .normal e s else Q (.exit j) e s := nr rfl
@[simp ↓] theorem inB_ret (i : Nat) : inB i Q .ret e s = Q .ret e s := nr rfl
@[simp ↓] theorem inB_panic (i : Nat) (c : List PanicEntry) : inB i Q (.panic c) e s = Q (.panic c) e s := nr rfl
def dok (N : Nat) : Option Tmp → Bool
  | none => true
  | some t => decide (t < N)
@[simp] theorem dok_none : dok N none = true := nr rfl
@[simp] theorem dok_some (t : Tmp) : dok N (some t) = decide (t < N) := nr rfl
theorem dok_iff {d : Option Tmp} : dok N d = true ↔ ∀ t, d = some t → t < N := by cases d <;> simp [dok]
section
variable {dst : Nat → Option Tmp} {os : List Oper} {KE : Env → St → Prop} {KPE : List PanicEntry → Env → St → Prop}
@[simp ↓] theorem pws_nil : pws P dst N [] e s KE KPE = KE e s := nr rfl
@[simp ↓] theorem pws_cons (d : Option Tmp) (op : Go.Op) (ty : TypeId) (pos : String) (after : Array Edge) :
    pws P dst N (⟨d, op, ty, pos, after, none⟩ :: os) e s KE KPE = (dok N d = true ∧ opw P e s (fun v s' => pws P dst N os (e.put d v) s' KE KPE) (fun c s' => KPE c e s') op) := by
  simp only [pws, dok_iff]
@[simp ↓] theorem pws_guard (d : Option Tmp) (op : Go.Op) (ty : TypeId) (pos : String) (after : Array Edge) (j : Nat) (want : Bool) :
    pws P dst N (⟨d, op, ty, pos, after, some (j, want)⟩ :: os) e s KE KPE = (dok N d = true ∧ okv (dst j) fun d' => (match e d' with
      | .lit (.bool t) => if t = want then opw P e s (fun v s' => pws P dst N os (e.put d v) s' KE KPE) (fun c s' => KPE c e s') op else pws P dst N os (e.put d (.tup [])) s KE KPE
      | .tup [] => pws P dst N os (e.put d (.tup [])) s KE KPE
      | _ => False)) := by
  simp only [pws, dok_iff, two_ways]
  rfl
end
@[simp ↓] theorem okv_def {α : Type} (x : Option α) (K : α → Prop) : okv x K = (match x with
  | some v => K v
  | none => False) := nr rfl
/-! #### operations -/
def fcv (x : PV) (s : St) : Option (PV × St) := some (x, s)
@[simp] theorem fcv_def (x : PV) (s : St) : fcv x s = some (x, s) := nr rfl
@[simp] theorem empty_sub : St.empty.sub s := fun i b h => by cases h
@[simp ↓] theorem opw_move (x : Operand) : opw P e s K Kp (.move x) = (match fcv (e.ev x) s with
    | some (v, s) => K v s
    | none => False) := nr rfl
@[simp ↓] theorem opw_assign (x : Operand) : opw P e s K Kp (.assign x) = (match fcv (e.ev x) s with
    | some (v, s) => K v s
    | none => False) := nr rfl
@[simp ↓] theorem opw_pick (c a b : Operand) : opw P e s K Kp (.pick c a b) = (match e.ev c with
    | .lit (.bool t) => if t = true then (match fcv (e.ev a) s with
      | some (v, s) => K v s
      | none => False) else (match fcv (e.ev b) s with
      | some (v, s) => K v s
      | none => False)
    | _ => False) := by
  simp only [← two_ways']; rfl
@[simp ↓] theorem opw_alloc (t : TypeId) : opw P e s K Kp (.alloc t) = okv (tzero P t) fun z => (ofVal z).solid = true ∧ ∀ i, Fresh s i → K (.pt i 0 0) (s.upd i (some (.row t (ofVal z).width [(ofVal z).cells]))) := nr rfl
@[simp ↓] theorem opw_box (t : TypeId) (x : Operand) : opw P e s K Kp (.box t x) = ((e.ev x).solid = true ∧ ∀ i, Fresh s i → K (.pt i 0 0) (s.upd i (some (.row t (e.ev x).width [(e.ev x).cells])))) := nr rfl
/-- What is looked at before it is gone on: simp makes these plain first. -/
def fcb (x y : PV) (s : St) : Option (PV × PV × St) := some (x, y, s)
def fcc (f : PV) (args : List PV) (s : St) : Option (PV × List PV × St) := some (f, args, s)
@[simp] theorem fcb_def (x y : PV) (s : St) : fcb x y s = some (x, y, s) := nr rfl
@[simp] theorem fcc_def (f : PV) (args : List PV) (s : St) : fcc f args s = some (f, args, s) := nr rfl
@[simp ↓] theorem opw_store (t : TypeId) (a x : Operand) : opw P e s K Kp (.store t a x) = (match fcb (e.ev a) (e.ev x) s with
    | some (a, x, s) => storeW P s t a x (K .junk)
    | none => False) := nr rfl
@[simp ↓] theorem opw_build (t : TypeId) (parts : List (Nat × Operand)) : opw P e s K Kp (.build t parts.toArray) = okv (bld P e t parts) fun v => K v s := by simp [opw]
@[simp ↓] theorem opw_buildSlice (t : TypeId) (len : Nat) (parts : List (Nat × Operand)) : opw P e s K Kp (.buildSlice t len parts.toArray) = okv (mkSlice P e t len parts) fun v => K v s := by simp [opw]
@[simp ↓] theorem opw_load (t : TypeId) (a : Operand) : opw P e s K Kp (.load t a) = okv ((tsz P t).bind fun n => (aggT P t).bind fun ag => (cellsAt s (e.ev a) n).bind fun cs => pack ag cs) fun v => K v s := nr rfl
@[simp ↓] theorem opw_nilCheck (x : Operand) : opw P e s K Kp (.nilCheck x) = okv (match e.ev x with
    | .pt i j f => some (.pt i j f)
    | .ep cs => some (.ep cs)
    | .fn f a b => some (.fn f a b)
    | _ => none) fun v => K v s := nr rfl
@[simp ↓] theorem opw_bin (op : BinOp) (t t2 : TypeId) (x y : Operand) : opw P e s K Kp (.binOp op t x y t2) = (match fcb (e.ev x) (e.ev y) s with
    | some (x, y, s) => binW P op t x y fun v => K v s
    | none => False) := nr rfl
@[simp ↓] theorem binW_lit (op : BinOp) (t : TypeId) (a b : Value) (K : PV → Prop) : binW P op t (.lit a) (.lit b) K = okv (bin P op t (.lit a) (.lit b)) K := nr rfl
@[simp ↓] theorem binW_agg (op : BinOp) (t : TypeId) (a b : List PV) (K : PV → Prop) : binW P op t (.agg a) (.agg b) K = okv (bin P op t (.agg a) (.agg b)) K := nr rfl
@[simp ↓] theorem binW_nil_eql (t : TypeId) (k : VK) (xs : List PV) (K : PV → Prop) : binW P .eql t (.vec k xs) (.vec .nil []) K = ((sliceT P t).isSome = true ∧ ∀ t : Bool, (k = .nil → t = true) → (xs ≠ [] → t = false) → K (.lit (.bool t))) := nr rfl
@[simp ↓] theorem binW_nil_neq (t : TypeId) (k : VK) (xs : List PV) (K : PV → Prop) : binW P .neq t (.vec k xs) (.vec .nil []) K = ((sliceT P t).isSome = true ∧ ∀ t : Bool, (k = .nil → t = true) → (xs ≠ [] → t = false) → K (.lit (.bool !t))) := nr rfl
@[simp ↓] theorem opw_slice3 (t : TypeId) (x hi mx : Operand) : opw P e s K Kp (.slice t x none (some hi) (some mx)) = okv ((sliceT P t).bind fun el => (tsz P el).bind fun _ => (match e.ev x, e.ev hi, e.ev mx with
    | .vec _ _, .lit (.int _ h), .lit (.int _ m) => if h = 0 ∧ m = 0 then some (.vec .tight []) else none
    | _, _, _ => none)) fun v => K v s := nr rfl
@[simp ↓] theorem opw_un (op : UnOp) (t : TypeId) (x : Operand) : opw P e s K Kp (.unOp op t x) = okv (un op (e.ev x)) fun v => K v s := nr rfl
/-- A conversion, its operand plain. -/
def cvtW (P : Program) (src dst : TypeId) (x : PV) (s : St) (K : PV → Prop) : Prop := match x with
  | .sl i sz off len => okv (convB P s src dst (.sl i sz off len)) K
  | .vec k xs => okv (convB P s src dst (.vec k xs)) K
  | .pt i j f => ptrCv P s src dst i j f ∧ K (.pt i j f)
  | x => okv (match x with
    | .lit (.int _ n) => (P.underlying src).bind fun _ => (intT P dst).map fun k => .lit (.int k (k.wrap n))
    | .lit (.string b) => (P.underlying src).bind fun _ => if isStrT P dst = true then some (.lit (.string b)) else none
    | _ => none) K
@[simp ↓] theorem opw_convert (src dst : TypeId) (x : Operand) : opw P e s K Kp (.convert src dst x) = (match fcv (e.ev x) s with
    | some (x, s) => cvtW P src dst x s fun v => K v s
    | none => False) := by
  simp only [opw, fcv, cvtW, qop]
  cases e.ev x <;> rfl
@[simp ↓] theorem cvtW_int (src dst : TypeId) (k : IntKind) (n : Int) (K : PV → Prop) : cvtW P src dst (.lit (.int k n)) s K = okv ((P.underlying src).bind fun _ => (intT P dst).map fun k => .lit (.int k (k.wrap n))) K := nr rfl
@[simp ↓] theorem cvtW_str (src dst : TypeId) (b : ByteArray) (K : PV → Prop) : cvtW P src dst (.lit (.string b)) s K = okv ((P.underlying src).bind fun _ => if isStrT P dst = true then some (.lit (.string b)) else none) K := nr rfl
@[simp ↓] theorem cvtW_sl (src dst : TypeId) (i sz off len : Nat) (K : PV → Prop) : cvtW P src dst (.sl i sz off len) s K = okv (convB P s src dst (.sl i sz off len)) K := nr rfl
@[simp ↓] theorem cvtW_pt (src dst : TypeId) (i j f : Nat) (K : PV → Prop) : cvtW P src dst (.pt i j f) s K = (ptrCv P s src dst i j f ∧ K (.pt i j f)) := nr rfl
@[simp] theorem ptrCv_def (src dst : TypeId) (i j f : Nat) : ptrCv P s src dst i j f = (match s i with
    | some (.row ty sz els) => j = 0 ∧ f = 0 ∧ els ≠ [] ∧ sz ≠ 0 ∧ cvT P src dst ty sz = true
    | _ => False) := nr rfl
@[simp ↓] theorem opw_cap (x : Operand) (t : TypeId) : opw P e s K Kp (.call ⟨.builtin .cap, #[x], #[t]⟩) = okv (match e.ev x with
    | .vec k xs => if k = .any then none else (sliceT P t).map fun _ => .lit (.int .i64 xs.length)
    | _ => none) fun v => K v s := nr rfl
@[simp ↓] theorem opw_uSliceData (x : Operand) (ts : Array TypeId) : opw P e s K Kp (.call ⟨.builtin .unsafeSliceData, #[x], ts⟩) = okv (match e.ev x with
    | .sl i sz off len => if len = 0 then none else some (.pt i off 0)
    | .vec .nil _ => some (.lit (.pointer none))
    | _ => none) fun v => K v s := nr rfl
@[simp ↓] theorem opw_uString (x n : Operand) (t t2 : TypeId) : opw P e s K Kp (.call ⟨.builtin .unsafeString, #[x, n], #[t, t2]⟩) = (match fcb (e.ev x) (e.ev n) s with
    | some (x, n, s) => ustrW P s t x n K
    | none => False) := nr rfl
@[simp ↓] theorem opw_copy (x y : Operand) (t t2 : TypeId) : opw P e s K Kp (.call ⟨.builtin .copy, #[x, y], #[t, t2]⟩) = (match fcb (e.ev x) (e.ev y) s with
    | some (x, y, s) => cpyW P s t x y K
    | none => False) := nr rfl
@[simp ↓] theorem ustrW_pt (t : TypeId) (i j f : Nat) (k : Int) : ustrW P s t (.pt i j f) (.lit (.int .i64 k)) K = (match s i with
    | some (.row ty sz els) => j = 0 ∧ f = 0 ∧ 0 < k ∧ k ≤ 9223372036854775807 ∧ k.toNat ≤ els.length ∧ bytePT P t = some ty ∧ okv (bytesOf (els.take k.toNat)) fun b => K (.lit (.string ⟨b.toArray⟩)) (s.upd i none)
    | _ => False) := nr rfl
@[simp ↓] theorem ustrW_nil (t : TypeId) (k : Int) : ustrW P s t (.lit (.pointer none)) (.lit (.int .i64 k)) K = (k = 0 ∧ K (.lit (.string ⟨#[]⟩)) s) := nr rfl
@[simp ↓] theorem cpyW_def (t : TypeId) (d x : PV) : cpyW P s t d x K = okv (sliceT P t) fun el => okv (tsz P el) fun n => okv (elemsOf s n x) fun ys => ys = [] ∧ d.isSlice = true ∧ K (.lit (.int .i64 0)) s := nr rfl
@[simp ↓] theorem cvtW_vec (src dst : TypeId) (k : VK) (xs : List PV) (K : PV → Prop) : cvtW P src dst (.vec k xs) s K = okv (convB P s src dst (.vec k xs)) K := nr rfl
@[simp ↓] theorem opw_makeMap (t : TypeId) : opw P e s K Kp (.makeMap t none) = ((mapT P t).isSome = true ∧ ∀ i, Fresh s i → K (.mp i) (s.upd i (some (.dict [])))) := nr rfl
@[simp ↓] theorem opw_mapUpdate (t : TypeId) (m k v : Operand) : opw P e s K Kp (.mapUpdate t m k v) = (match fcb (e.ev m) (e.ev k) s, e.ev v with
    | some (m, k, s), v => mapW P s t m k v (K .junk)
    | none, _ => False) := nr rfl
@[simp ↓] theorem mapW_mp (t : TypeId) (i : Nat) (b : ByteArray) (v : PV) (K : St → Prop) : mapW P s t (.mp i) (.lit (.string b)) v K = (match s i with
    | some (.dict es) => (mapT P t).isSome = true ∧ K (s.upd i (some (.dict (dset es b v))))
    | _ => False) := nr rfl
@[simp ↓] theorem opw_lookup (t : TypeId) (x k : Operand) (c : Bool) : opw P e s K Kp (.lookup t x k c) = okv (lookV P s t (e.ev x) (e.ev k) c) fun v => K v s := nr rfl
@[simp] theorem lookV_mp (t : TypeId) (i : Nat) (b : ByteArray) (c : Bool) : lookV P s t (.mp i) (.lit (.string b)) c = (match s i with
    | some (.dict es) => lookR P t es b c
    | _ => none) := nr rfl
@[simp] theorem lookV_nil (t : TypeId) (b : ByteArray) (c : Bool) : lookV P s t (.lit (.map none)) (.lit (.string b)) c = lookR P t [] b c := nr rfl
@[simp] theorem lookR_two (t : TypeId) (es : List (ByteArray × PV)) (b : ByteArray) : lookR P t es b true = (mapT P t).bind fun q => (tzero P q.2).bind fun z => some (match dget es b with
    | some v => .tup [v, .lit (.bool true)]
    | none => .tup [ofVal z, .lit (.bool false)]) := nr rfl
@[simp] theorem lookR_one (t : TypeId) (es : List (ByteArray × PV)) (b : ByteArray) : lookR P t es b false = (mapT P t).bind fun q => (tzero P q.2).bind fun z => some (match dget es b with
    | some v => v
    | none => ofVal z) := nr rfl
@[simp] theorem dget_nil (b : ByteArray) : dget [] b = none := nr rfl
@[simp ↓] theorem opw_makeFunc (f : FuncId) (a b : List Operand) : opw P e s K Kp (.makeFunc (.func f) a.toArray b.toArray) = K (.fn f (a.map e.ev) (b.map e.ev)) s := by simp [opw, qop, okv]
@[simp ↓] theorem opw_slice (t : TypeId) (x : Operand) (lo hi : Option Operand) : opw P e s K Kp (.slice t x lo hi none) = okv (slc P t (e.ev x) (lo.map e.ev) (hi.map e.ev)) fun v => K v s := nr rfl
@[simp ↓] theorem opw_fieldAddr (t : TypeId) (x : Operand) (f : Nat) : opw P e s K Kp (.fieldAddr t x f) = okv ((fld P t f).bind fun (o, ft) => (tsz P ft).bind fun n => if n = 0 then none else (match e.ev x with
    | .pt i j g => some (.pt i j (g + o))
    | .ep cs => some (.ep (cs.drop o))
    | _ => none)) fun v => K v s := nr rfl
@[simp ↓] theorem opw_field (t : TypeId) (x : Operand) (f : Nat) : opw P e s K Kp (.field t x f) = okv ((fld P t f).bind fun (o, ft) => (tsz P ft).bind fun n => (aggT P ft).bind fun ag => (match e.ev x with
    | .agg cs => pack ag ((cs.drop o).take n)
    | _ => none)) fun v => K v s := nr rfl
@[simp ↓] theorem opw_indexAddr (t : TypeId) (x i : Operand) : opw P e s K Kp (.indexAddr t x i) = okv (idxAddr P t (e.ev x) (e.ev i)) fun v => K v s := nr rfl
@[simp ↓] theorem opw_index (t : TypeId) (x i : Operand) : opw P e s K Kp (.index t x i) = okv (idx P t (e.ev x) (e.ev i)) fun v => K v s := nr rfl
@[simp ↓] theorem opw_extract (x : Operand) (k : Nat) : opw P e s K Kp (.extract x k) = okv (match e.ev x with
    | .tup vs => vs[k]?
    | _ => none) fun v => K v s := nr rfl
@[simp ↓] theorem opw_len (x : Operand) (t : TypeId) : opw P e s K Kp (.call ⟨.builtin .len, #[x], #[t]⟩) = okv (lenOf P t (e.ev x)) fun n => K (.lit (.int .i64 n)) s := by
  simp only [opw, qcall]
  cases lenOf P t (e.ev x) <;> rfl
@[simp ↓] theorem opw_max (x y : Operand) (ts : Array TypeId) : opw P e s K Kp (.call ⟨.builtin .max, #[x, y], ts⟩) = okv (match e.ev x, e.ev y with
      | .lit (.int k i), .lit (.int k' j) => if k = k' then some (.lit (.int k (max i j))) else none
      | _, _ => none) fun v => K v s := nr rfl
@[simp ↓] theorem opw_min (x y : Operand) (ts : Array TypeId) : opw P e s K Kp (.call ⟨.builtin .min, #[x, y], ts⟩) = okv (match e.ev x, e.ev y with
      | .lit (.int k i), .lit (.int k' j) => if k = k' then some (.lit (.int k (min i j))) else none
      | _, _ => none) fun v => K v s := nr rfl
@[simp ↓] theorem opw_append (x y : Operand) (t t2 : TypeId) : opw P e s K Kp (.call ⟨.builtin .append, #[x, y], #[t, t2]⟩) = (match fcb (e.ev x) (e.ev y) s with
    | some (x, y, s) => appW P s t t2 x y K
    | none => False) := nr rfl
@[simp ↓] theorem opw_call (f : Operand) (args : List Operand) (ts : Array TypeId) : opw P e s K Kp (.call ⟨.value f, args.toArray, ts⟩) = (match fcc (e.ev f) (args.map e.ev) s with
    | some (f, a, s) => callW P s f a K Kp
    | none => False) := by simp [opw]
@[simp ↓] theorem storeW_pt (t : TypeId) (i j f : Nat) (x : PV) (K : St → Prop) : storeW P s t (.pt i j f) x K = (match s i with
    | some (.row ty sz els) => okv (els[j]?) fun cs => tsz P t = some x.width ∧ x.solid = true ∧ f + x.width ≤ cs.length ∧ K (s.upd i (some (.row ty sz (els.set j (spl cs f x.cells)))))
    | _ => False) := nr rfl
@[simp] theorem cells_agg (cs : List PV) : (PV.agg cs).cells = cs := nr rfl
@[simp] theorem cells_lit (v : Value) : (PV.lit v).cells = [.lit v] := nr rfl
@[simp] theorem cells_vec (k : VK) (xs : List PV) : (PV.vec k xs).cells = [.vec k xs] := nr rfl
@[simp] theorem cells_sl (i sz off len : Nat) : (PV.sl i sz off len).cells = [.sl i sz off len] := nr rfl
@[simp] theorem cells_pt (i j f : Nat) : (PV.pt i j f).cells = [.pt i j f] := nr rfl
@[simp] theorem cells_ep (cs : List PV) : (PV.ep cs).cells = [.ep cs] := nr rfl
@[simp] theorem cells_fn (f : FuncId) (a b : List PV) : (PV.fn f a b).cells = [.fn f a b] := nr rfl
@[simp] theorem cells_mp (i : Nat) : (PV.mp i).cells = [.mp i] := nr rfl
@[simp] theorem cells_yld (i : Nat) : (PV.yld i).cells = [.yld i] := nr rfl
@[simp] theorem width_agg (cs : List PV) : (PV.agg cs).width = cs.length := nr rfl
@[simp] theorem width_lit (v : Value) : (PV.lit v).width = 1 := nr rfl
@[simp] theorem width_vec (k : VK) (xs : List PV) : (PV.vec k xs).width = 1 := nr rfl
@[simp] theorem width_sl (i sz off len : Nat) : (PV.sl i sz off len).width = 1 := nr rfl
@[simp] theorem width_pt (i j f : Nat) : (PV.pt i j f).width = 1 := nr rfl
@[simp] theorem width_ep (cs : List PV) : (PV.ep cs).width = 1 := nr rfl
@[simp] theorem width_fn (f : FuncId) (a b : List PV) : (PV.fn f a b).width = 1 := nr rfl
@[simp] theorem width_mp (i : Nat) : (PV.mp i).width = 1 := nr rfl
@[simp] theorem width_yld (i : Nat) : (PV.yld i).width = 1 := nr rfl
@[simp] theorem solid_agg (cs : List PV) : (PV.agg cs).solid = true := nr rfl
@[simp] theorem solid_lit (v : Value) : (PV.lit v).solid = true := nr rfl
@[simp] theorem solid_vec (k : VK) (xs : List PV) : (PV.vec k xs).solid = true := nr rfl
@[simp] theorem solid_sl (i sz off len : Nat) : (PV.sl i sz off len).solid = true := nr rfl
@[simp] theorem solid_pt (i j f : Nat) : (PV.pt i j f).solid = true := nr rfl
@[simp] theorem solid_ep (cs : List PV) : (PV.ep cs).solid = true := nr rfl
@[simp] theorem solid_fn (f : FuncId) (a b : List PV) : (PV.fn f a b).solid = true := nr rfl
@[simp] theorem solid_mp (i : Nat) : (PV.mp i).solid = true := nr rfl
@[simp] theorem solid_yld (i : Nat) : (PV.yld i).solid = true := nr rfl
@[simp] theorem isSlice_vec (k : VK) (xs : List PV) : (PV.vec k xs).isSlice = true := nr rfl
@[simp] theorem isSlice_sl (i sz off len : Nat) : (PV.sl i sz off len).isSlice = true := nr rfl
@[simp] theorem pack_true (cs : List PV) : pack true cs = some (.agg cs) := nr rfl
@[simp] theorem pack_false (cs : List PV) : pack false cs = cs.head? := nr rfl
@[simp] theorem intBin_add (k : IntKind) (a b : Int) : intBin .add k a b = some (.lit (.int k (k.wrap (a + b)))) := nr rfl
@[simp] theorem intBin_sub (k : IntKind) (a b : Int) : intBin .sub k a b = some (.lit (.int k (k.wrap (a - b)))) := nr rfl
@[simp] theorem intBin_mul (k : IntKind) (a b : Int) : intBin .mul k a b = some (.lit (.int k (k.wrap (a * b)))) := nr rfl
@[simp] theorem intBin_eql (k : IntKind) (a b : Int) : intBin .eql k a b = some (.lit (.bool (decide (a = b)))) := nr rfl
@[simp] theorem intBin_neq (k : IntKind) (a b : Int) : intBin .neq k a b = some (.lit (.bool (!decide (a = b)))) := nr rfl
@[simp] theorem intBin_lss (k : IntKind) (a b : Int) : intBin .lss k a b = some (.lit (.bool (decide (a < b)))) := nr rfl
@[simp] theorem intBin_leq (k : IntKind) (a b : Int) : intBin .leq k a b = some (.lit (.bool (decide (a ≤ b)))) := nr rfl
@[simp] theorem intBin_gtr (k : IntKind) (a b : Int) : intBin .gtr k a b = some (.lit (.bool (decide (a > b)))) := nr rfl
@[simp] theorem intBin_geq (k : IntKind) (a b : Int) : intBin .geq k a b = some (.lit (.bool (decide (a ≥ b)))) := nr rfl
@[simp] theorem intBin_quo (k : IntKind) (a b : Int) : intBin .quo k a b = if b = 0 then none else some (.lit (.int k (k.wrap (a.tdiv b)))) := nr rfl
@[simp] theorem intBin_rem (k : IntKind) (a b : Int) : intBin .rem k a b = if b = 0 then none else some (.lit (.int k (a.tmod b))) := nr rfl
@[simp] theorem intBin_shr (k : IntKind) (a b : Int) : intBin .shr k a b = if b < 0 then none else some (.lit (.int k (a.fdiv (2 ^ (min b.toNat k.bits))))) := nr rfl
@[simp] theorem intBin_shl (k : IntKind) (a b : Int) : intBin .shl k a b = if b < 0 then none else some (.lit (.int k (k.wrap (a * 2 ^ (min b.toNat k.bits))))) := nr rfl
@[simp] theorem bin_nil_nil (op : BinOp) (t : TypeId) : bin P op t (.lit (.pointer none)) (.lit (.pointer none)) = if ptrT P t = true then eqB op true else none := nr rfl
@[simp] theorem bin_pt_nil (op : BinOp) (t : TypeId) (i j f : Nat) : bin P op t (.pt i j f) (.lit (.pointer none)) = if ptrT P t = true then eqB op false else none := nr rfl
@[simp] theorem bin_ep_nil (op : BinOp) (t : TypeId) (cs : List PV) : bin P op t (.ep cs) (.lit (.pointer none)) = if ptrT P t = true then eqB op false else none := nr rfl
@[simp] theorem bin_nil_pt (op : BinOp) (t : TypeId) (i j f : Nat) : bin P op t (.lit (.pointer none)) (.pt i j f) = if ptrT P t = true then eqB op false else none := nr rfl
@[simp] theorem bin_pt_pt (op : BinOp) (t : TypeId) (i j f : Nat) : bin P op t (.pt i j f) (.pt i j f) = if ptrT P t = true then eqB op true else none := by simp [bin]
@[simp] theorem eqB_eql (b : Bool) : eqB .eql b = some (.lit (.bool b)) := nr rfl
@[simp] theorem eqB_neq (b : Bool) : eqB .neq b = some (.lit (.bool !b)) := nr rfl
@[simp ↓] theorem binW_ptr (op : BinOp) (t : TypeId) (i j f i' j' f' : Nat) (K : PV → Prop) : binW P op t (.pt i j f) (.pt i' j' f') K = okv (bin P op t (.pt i j f) (.pt i' j' f')) K := nr rfl
@[simp ↓] theorem binW_pt_lit (op : BinOp) (t : TypeId) (i j f : Nat) (v : Value) (K : PV → Prop) : binW P op t (.pt i j f) (.lit v) K = okv (bin P op t (.pt i j f) (.lit v)) K := nr rfl
@[simp ↓] theorem binW_lit_pt (op : BinOp) (t : TypeId) (i j f : Nat) (v : Value) (K : PV → Prop) : binW P op t (.lit v) (.pt i j f) K = okv (bin P op t (.lit v) (.pt i j f)) K := nr rfl
@[simp ↓] theorem binW_ep_lit (op : BinOp) (t : TypeId) (cs : List PV) (v : Value) (K : PV → Prop) : binW P op t (.ep cs) (.lit v) K = okv (bin P op t (.ep cs) (.lit v)) K := nr rfl
@[simp] theorem un_neg (k : IntKind) (n : Int) : un .neg (.lit (.int k n)) = some (.lit (.int k (k.wrap (0 - n)))) := nr rfl
@[simp] theorem un_not (b : Bool) : un .not (.lit (.bool b)) = some (.lit (.bool !b)) := nr rfl
@[simp] theorem bin_int (op : BinOp) (t : TypeId) (k : IntKind) (a b : Int) : bin P op t (.lit (.int k a)) (.lit (.int k b)) = intBin op k a b := by simp [bin]
@[simp] theorem bin_str (op : BinOp) (t : TypeId) (a b : ByteArray) : bin P op t (.lit (.string a)) (.lit (.string b)) = strBin op a b := nr rfl
@[simp] theorem bin_agg_eql (t : TypeId) (cs ds : List PV) : bin P .eql t (.agg cs) (.agg ds) = (flatT P t).bind fun ts => (eqC ts cs ds).bind fun b => some (.lit (.bool b)) := nr rfl
@[simp] theorem bin_agg_neq (t : TypeId) (cs ds : List PV) : bin P .neq t (.agg cs) (.agg ds) = (flatT P t).bind fun ts => (eqC ts cs ds).bind fun b => some (.lit (.bool !b)) := nr rfl
@[simp] theorem eqC_nils : eqC [] [] [] = some true := nr rfl
@[simp] theorem eqC_conss (t : Nat) (ts : List Nat) (c d : PV) (cs ds : List PV) : eqC (t :: ts) (c :: cs) (d :: ds) = (eq1 t c d).bind fun a => (eqC ts cs ds).map fun r => a && r := nr rfl
@[simp] theorem eq1_int (k : IntKind) (a b : Int) : eq1 0 (.lit (.int k a)) (.lit (.int k b)) = some (decide (a = b)) := by simp [eq1]
@[simp] theorem eq1_str (a b : ByteArray) : eq1 1 (.lit (.string a)) (.lit (.string b)) = some (decide (a = b)) := nr rfl
@[simp] theorem eq1_bool (a b : Bool) : eq1 2 (.lit (.bool a)) (.lit (.bool b)) = some (decide (a = b)) := nr rfl
@[simp] theorem strBin_eql (a b : ByteArray) : strBin .eql a b = some (.lit (.bool (decide (a = b)))) := nr rfl
@[simp] theorem strBin_neq (a b : ByteArray) : strBin .neq a b = some (.lit (.bool (!decide (a = b)))) := nr rfl
@[simp] theorem cellsAt_ep (cs : List PV) (n : Nat) : cellsAt s (.ep cs) n = if n ≤ cs.length then some (cs.take n) else none := nr rfl
@[simp] theorem cellsAt_pt (i j f n : Nat) : cellsAt s (.pt i j f) n = (match s i with
    | some (.row _ _ els) => match els[j]? with
      | some cs => if f + n ≤ cs.length then some ((cs.drop f).take n) else none
      | none => none
    | some (.ro cs) => if j = 0 ∧ f + n ≤ cs.length then some ((cs.drop f).take n) else none
    | _ => none) := nr rfl
@[simp] theorem lenOf_vec (t : TypeId) (k : VK) (xs : List PV) : lenOf P t (.vec k xs) = (sliceT P t).map fun _ => xs.length := nr rfl
@[simp] theorem lenOf_sl (t : TypeId) (i sz off len : Nat) : lenOf P t (.sl i sz off len) = (sliceT P t).map fun _ => len := nr rfl
@[simp] theorem lenOf_str (t : TypeId) (b : ByteArray) : lenOf P t (.lit (.string b)) = if isStrT P t then some b.size else none := nr rfl
@[simp] theorem idxAddr_vec (t : TypeId) (k : VK) (xs : List PV) (ik : IntKind) (i : Int) : idxAddr P t (.vec k xs) (.lit (.int ik i)) = if 0 ≤ i then ((sliceT P t).bind fun el => (tsz P el).bind fun n => (xs[i.toNat]?).bind fun y => if y.width = n then some (.ep y.cells) else none) else none := nr rfl
@[simp] theorem idxAddr_sl (t : TypeId) (b sz off len : Nat) (ik : IntKind) (i : Int) : idxAddr P t (.sl b sz off len) (.lit (.int ik i)) = if 0 ≤ i then ((sliceT P t).bind fun el => (tsz P el).bind fun n => if i.toNat < len ∧ sz = n then some (.pt b (off + i.toNat) 0) else none) else none := nr rfl
@[simp] theorem idx_str (t : TypeId) (s : ByteArray) (ik : IntKind) (i : Int) : idx P t (.lit (.string s)) (.lit (.int ik i)) = if 0 ≤ i then (if isStrT P t then (s[i.toNat]?).map fun b => .lit (.int .u8 b.toNat) else none) else none := nr rfl
@[simp] theorem spl_def (cs : List PV) (f : Nat) (ps : List PV) : spl cs f ps = cs.take f ++ ps ++ cs.drop (f + ps.length) := nr rfl
@[simp ↓] theorem callW_yld (i : Nat) (args : List PV) : callW P s (.yld i) args K Kp = (match fcc .junk args s with
    | some (_, a, s) => PYldL P i a s K tag
    | none => False) := nr rfl
@[simp ↓] theorem callW_fn (f : FuncId) (fs cs args : List PV) : callW P s (.fn f fs cs) args K Kp = (match fcc .junk (fs ++ args ++ cs) s with
    | some (_, a, s) => PCallsL P f a s (fun r s' => match r with
      | .ret p => K p s'
      | .pan c => Kp c s') tag
    | none => False) := nr rfl
@[simp ↓ high] theorem callW_fn0 (f : FuncId) (args : List PV) : callW P s (.fn f [] []) args K Kp = PCallsL P f args s (fun r s' => match r with
      | .ret p => K p s'
      | .pan c => Kp c s') tag := by
  simp [callW, PCallsL]
/-- A quiet call: one answer, no change. -/
def callQ (P : Program) (s : St) (f : PV) (args : List PV) (K : PV → Prop) : Prop := ∃ v, callW P s f args (fun p s' => p = v ∧ s' = s) (fun _ _ => False) ∧ K v
def PQuietL (P : Program) (f : FuncId) (args : List PV) (s : St) (K : PV → Prop) (t : Tag K) : Prop := ∃ v, PCalls P f args s (fun r s' => match r with | .ret p => p = v ∧ s' = s | .pan _ => False) ∧ K v
def PQuiet (P : Program) (f : FuncId) (args : List PV) (s : St) (K : PV → Prop) : Prop := ∃ v, PCalls P f args s (fun r s' => match r with | .ret p => p = v ∧ s' = s | .pan _ => False) ∧ K v
@[simp ↓] theorem callQ_fn (f : FuncId) (args : List PV) (K : PV → Prop) : callQ P s (.fn f [] []) args K = PQuietL P f args s K tag := by
  simp only [callQ, PQuietL, callW, List.nil_append, List.append_nil]
  rfl
theorem wrap_i64 {n : Int} (h1 : -9223372036854775808 ≤ n) (h2 : n ≤ 9223372036854775807) : IntKind.i64.wrap n = n := by
  rw [IntKind.wrap_i64]; omega
attribute [simp] bld fillP mkSlice
@[simp] theorem idxOk_nil (n : Nat) : idxOk n [] = true := nr rfl
@[simp] theorem idxOk_cons (n i : Nat) (x : Operand) (l : List (Nat × Operand)) : idxOk n ((i, x) :: l) = (i == n && idxOk (n + 1) l) := nr rfl
theorem sub_upd {s' : St} {i : Nat} {b : Option Blk} (h : s'.sub s) (hi : s' i = none) : s'.sub (s.upd i b) := by
  intro j c hj
  by_cases hji : j = i
  · subst hji; rw [hi] at hj; cases hj
  · rw [St.upd_ne _ _ hji]; exact h j c hj
/-! #### regions that draw their order -/
def opAt : List Oper → Nat → Option Oper
  | [], _ => none
  | o :: _, 0 => some o
  | _ :: l, n + 1 => opAt l n
theorem opAt_eq : ∀ (l : List Oper) (i : Nat), l[i]? = opAt l i
  | [], i => by simp [opAt]
  | o :: l, 0 => rfl
  | o :: l, i + 1 => by have := opAt_eq l i; simpa [opAt] using this
@[simp ↓] theorem opAt_zero (o : Oper) (l : List Oper) : opAt (o :: l) 0 = some o := nr rfl
@[simp ↓] theorem opAt_succ (o : Oper) (l : List Oper) (n : Nat) : opAt (o :: l) (n + 1) = opAt l n := nr rfl
def dwk (P : Program) (A : St) (q : Nat) (e : Env) (s : St) (K : PV → St → Prop) (Kp : List PanicEntry → St → Prop) (op : Go.Op) : Prop := dw P A (kindOf q op) e s K Kp op
def stepL (P : Program) (A : St) (dst : Nat → Option Tmp) (q : Nat) (N : Nat) (o : Oper) (e : Env) (s : St) (K : Env → St → Prop) (Kp : List PanicEntry → Env → St → Prop) : Prop :=
  dok N o.dst = true ∧ (match o.guard with
    | none => dwk P A q e s (fun v s' => K (e.put o.dst v) s') (fun c s' => Kp c e s') o.op
    | some (j, want) => okv (dst j) fun d => (match e d with
      | .lit (.bool t) => if t = want then dwk P A q e s (fun v s' => K (e.put o.dst v) s') (fun c s' => Kp c e s') o.op else K (e.put o.dst (.tup [])) s
      | .tup [] => K (e.put o.dst (.tup [])) s
      | _ => False))
theorem yb_match (p : PV) (want : Bool) (A B : Prop) : (okv (yb p) fun y => (y = some want → A) ∧ (y ≠ some want → B)) = (match p with
    | .lit (.bool t) => if t = want then A else B
    | .tup [] => B
    | _ => False) := by
  unfold yb
  split
  · rename_i t
    by_cases h : t = want <;> simp [okv, h]
  · simp [okv]
  · rename_i h1 h2
    simp only [okv]
section
variable {A : St} {dst : Nat → Option Tmp} {l : List Oper} {kd : Nat → Nat} {KE : Env → St → Prop} {KPE : List PanicEntry → Env → St → Prop} {q : Nat}
theorem pwD_step (i : Nat) (r : List Nat) : pwD P A l.toArray kd N (i :: r) e s KE KPE = okv (opAt l i) fun o => stepL P A (dstOf l) (kd i) N o e s (fun e s => pwD P A l.toArray kd N r e s KE KPE) KPE := by
  simp only [pwD, stepD, List.getElem?_toArray, opAt_eq]
  cases opAt l i with
  | none => rfl
  | some o =>
    simp only [okv, stepL, dok_iff]
    congr 1
    unfold gd dwk
    cases hg : o.guard with
    | none => rfl
    | some jw =>
      obtain ⟨j, want⟩ := jw
      have := congrFun (dstOf_eq l) j
      simp only [List.getElem?_toArray, this, yb_match]
      rfl
/-- The operations in the order told, with their marks: made plain once. -/
def pickL (l : List Oper) (kd : Nat → Nat) : List Nat → Option (List (Oper × Nat))
  | [] => some []
  | i :: p => (opAt l i).bind fun o => (pickL l kd p).map fun L => (o, kd i) :: L
@[simp] theorem pickL_nil (l : List Oper) (kd : Nat → Nat) : pickL l kd [] = some [] := nr rfl
@[simp] theorem pickL_cons (l : List Oper) (kd : Nat → Nat) (i : Nat) (p : List Nat) : pickL l kd (i :: p) = (opAt l i).bind fun o => (pickL l kd p).map fun L => (o, kd i) :: L := nr rfl
def pwP (P : Program) (A : St) (ds : List (Option Tmp)) (N : Nat) : List (Oper × Nat) → Env → St → (Env → St → Prop) → (List PanicEntry → Env → St → Prop) → Prop
  | [], e, s, K, _ => K e s
  | (o, q) :: r, e, s, K, Kp => stepL P A (nthD ds) q N o e s (fun e s => pwP P A ds N r e s K Kp) Kp
@[simp ↓] theorem pwP_nil (ds : List (Option Tmp)) : pwP P A ds N [] e s KE KPE = KE e s := nr rfl
@[simp ↓] theorem pwP_cons (ds : List (Option Tmp)) (o : Oper) (q : Nat) (r : List (Oper × Nat)) : pwP P A ds N ((o, q) :: r) e s KE KPE = stepL P A (nthD ds) q N o e s (fun e s => pwP P A ds N r e s KE KPE) KPE := nr rfl
theorem pwP_of : ∀ (p : List Nat) (L : List (Oper × Nat)) (e : Env) (s : St), pickL l kd p = some L → pwD P A l.toArray kd N p e s KE KPE = pwP P A (dsts l) N L e s KE KPE
  | [], L, e, s, h => by cases h; rfl
  | i :: p, L, e, s, h => by
    rw [pwD_step]
    simp only [pickL] at h
    cases ho : opAt l i with
    | none => rw [ho] at h; cases h
    | some o =>
      rw [ho] at h
      simp only [Option.bind_some] at h
      obtain ⟨L', h1, rfl⟩ := Option.map_eq_some_iff.1 h
      simp only [okv, pwP, nthD_eq]
      congr 1
      funext e s
      rw [pwP_of p L' e s h1]
def fcp (ds : List (Option Tmp)) (L : Option (List (Oper × Nat))) : Option (List (Option Tmp) × List (Oper × Nat)) := L.map fun L => (ds, L)
@[simp] theorem fcp_def (ds : List (Option Tmp)) (L : List (Oper × Nat)) : fcp ds (some L) = some (ds, L) := nr rfl
/-- The way in: the order is a list of places. -/
theorem pwD_of (p : List Nat) (h : match fcp (dsts l) (pickL l kd p) with
    | some (ds, L) => pwP P A ds N L e s KE KPE
    | none => False) : pwD P A l.toArray kd N p e s KE KPE := by
  cases hp : pickL l kd p with
  | none => rw [hp] at h; exact h.elim
  | some L => rw [hp] at h; rw [pwP_of p L e s hp]; exact h
@[simp ↓] theorem stepL_none (d : Option Tmp) (op : Go.Op) (ty : TypeId) (pos : String) (after : Array Edge) :
    stepL P A dst q N ⟨d, op, ty, pos, after, none⟩ e s KE KPE = (dok N d = true ∧ dwk P A q e s (fun v s' => KE (e.put d v) s') (fun c s' => KPE c e s') op) := nr rfl
@[simp ↓] theorem stepL_some (d : Option Tmp) (op : Go.Op) (ty : TypeId) (pos : String) (after : Array Edge) (j : Nat) (want : Bool) :
    stepL P A dst q N ⟨d, op, ty, pos, after, some (j, want)⟩ e s KE KPE = (dok N d = true ∧ okv (dst j) fun d' => (match e d' with
      | .lit (.bool t) => if t = want then dwk P A q e s (fun v s' => KE (e.put d v) s') (fun c s' => KPE c e s') op else KE (e.put d (.tup [])) s
      | .tup [] => KE (e.put d (.tup [])) s
      | _ => False)) := nr rfl
end
section
variable {A : St} {q : Nat}
@[simp ↓] theorem dwk_move (x : Operand) : dwk P A q e s K Kp (.move x) = (match fcv (e.ev x) s with
    | some (v, s) => K v s
    | none => False) := nr rfl
@[simp ↓] theorem dwk_assign (x : Operand) : dwk P A q e s K Kp (.assign x) = (match fcv (e.ev x) s with
    | some (v, s) => K v s
    | none => False) := nr rfl
@[simp ↓] theorem dwk_pick (c a b : Operand) : dwk P A q e s K Kp (.pick c a b) = (match e.ev c with
    | .lit (.bool t) => (match fcv (if t = true then e.ev a else e.ev b) s with
      | some (v, s) => K v s
      | none => False)
    | _ => False) := by
  simp only [dwk, dw, kindOf, pureV, fcv]
  split <;> simp_all [okv]
@[simp ↓] theorem dwk_alloc (t : TypeId) : dwk P A q e s K Kp (.alloc t) = okv (tzero P t) fun z => (ofVal z).solid = true ∧ ∀ i, Fresh s i → K (.pt i 0 0) (s.upd i (some (.row t (ofVal z).width [(ofVal z).cells]))) := by
  simp only [dwk, dw, kindOf, opw]
  cases tzero P t with
  | none => rfl
  | some z =>
    simp only [okv]
    apply propext
    exact ⟨fun h => ⟨h.1, fun i hi => (h.2 i hi).2⟩, fun h => ⟨h.1, fun i hi => ⟨sub_upd (fun _ _ h => h) hi, h.2 i hi⟩⟩⟩
@[simp ↓] theorem dwk_box (t : TypeId) (x : Operand) : dwk P A q e s K Kp (.box t x) = ((e.ev x).solid = true ∧ ∀ i, Fresh s i → K (.pt i 0 0) (s.upd i (some (.row t (e.ev x).width [(e.ev x).cells])))) := by
  simp only [dwk, dw, kindOf, opw]
  apply propext
  exact ⟨fun h => ⟨h.1, fun i hi => (h.2 i hi).2⟩, fun h => ⟨h.1, fun i hi => ⟨sub_upd (fun _ _ h => h) hi, h.2 i hi⟩⟩⟩
@[simp ↓] theorem dwk_store (t : TypeId) (a x : Operand) : dwk P A q e s K Kp (.store t a x) = (match fcb (e.ev a) (e.ev x) s with
    | some (a, x, s) => storeW P s t a x (fun s' => A.sub s' ∧ K .junk s')
    | none => False) := nr rfl
@[simp ↓] theorem dwk_build (t : TypeId) (parts : List (Nat × Operand)) : dwk P A q e s K Kp (.build t parts.toArray) = okv (bld P e t parts) fun v => K v s := by simp [dwk, dw, kindOf, pureV]
@[simp ↓] theorem dwk_buildSlice (t : TypeId) (len : Nat) (parts : List (Nat × Operand)) : dwk P A q e s K Kp (.buildSlice t len parts.toArray) = okv (mkSlice P e t len parts) fun v => K v s := by simp [dwk, dw, kindOf, pureV]
@[simp ↓] theorem dwk_load0 (t : TypeId) (a : Operand) : dwk P A 0 e s K Kp (.load t a) = okv ((tsz P t).bind fun n => (aggT P t).bind fun ag => (cellsAt s (e.ev a) n).bind fun cs => pack ag cs) fun v => K v s := nr rfl
@[simp ↓] theorem dwk_load3 (t : TypeId) (a : Operand) : dwk P A 3 e s K Kp (.load t a) = okv ((tsz P t).bind fun n => (aggT P t).bind fun ag => (cellsAt A (e.ev a) n).bind fun cs => pack ag cs) fun v => K v s := nr rfl
@[simp ↓] theorem dwk_nilCheck (x : Operand) : dwk P A q e s K Kp (.nilCheck x) = okv (match e.ev x with
    | .pt i j f => some (.pt i j f)
    | .ep cs => some (.ep cs)
    | .fn f a b => some (.fn f a b)
    | _ => none) fun v => K v s := nr rfl
@[simp ↓] theorem dwk_bin (op : BinOp) (t t2 : TypeId) (x y : Operand) : dwk P A q e s K Kp (.binOp op t x y t2) = okv (bin P op t (e.ev x) (e.ev y)) fun v => K v s := nr rfl
@[simp ↓] theorem dwk_un (op : UnOp) (t : TypeId) (x : Operand) : dwk P A q e s K Kp (.unOp op t x) = okv (un op (e.ev x)) fun v => K v s := nr rfl
@[simp ↓] theorem dwk_slice (t : TypeId) (x : Operand) (lo hi : Option Operand) : dwk P A q e s K Kp (.slice t x lo hi none) = okv (slc P t (e.ev x) (lo.map e.ev) (hi.map e.ev)) fun v => K v s := nr rfl
@[simp ↓] theorem dwk_fieldAddr (t : TypeId) (x : Operand) (f : Nat) : dwk P A q e s K Kp (.fieldAddr t x f) = okv ((fld P t f).bind fun (o, ft) => (tsz P ft).bind fun n => if n = 0 then none else (match e.ev x with
    | .pt i j g => some (.pt i j (g + o))
    | .ep cs => some (.ep (cs.drop o))
    | _ => none)) fun v => K v s := nr rfl
@[simp ↓] theorem dwk_field (t : TypeId) (x : Operand) (f : Nat) : dwk P A q e s K Kp (.field t x f) = okv ((fld P t f).bind fun (o, ft) => (tsz P ft).bind fun n => (aggT P ft).bind fun ag => (match e.ev x with
    | .agg cs => pack ag ((cs.drop o).take n)
    | _ => none)) fun v => K v s := nr rfl
@[simp ↓] theorem dwk_indexAddr (t : TypeId) (x i : Operand) : dwk P A q e s K Kp (.indexAddr t x i) = okv (idxAddr P t (e.ev x) (e.ev i)) fun v => K v s := nr rfl
@[simp ↓] theorem dwk_index (t : TypeId) (x i : Operand) : dwk P A q e s K Kp (.index t x i) = okv (idx P t (e.ev x) (e.ev i)) fun v => K v s := nr rfl
@[simp ↓] theorem dwk_extract (x : Operand) (k : Nat) : dwk P A q e s K Kp (.extract x k) = okv (match e.ev x with
    | .tup vs => vs[k]?
    | _ => none) fun v => K v s := nr rfl
@[simp ↓] theorem dwk_len (x : Operand) (t : TypeId) : dwk P A q e s K Kp (.call ⟨.builtin .len, #[x], #[t]⟩) = okv (lenOf P t (e.ev x)) fun n => K (.lit (.int .i64 n)) s := by
  simp only [dwk, dw, kindOf, pureV, qcall]
  cases lenOf P t (e.ev x) <;> rfl
@[simp ↓] theorem dwk_cap (x : Operand) (t : TypeId) : dwk P A q e s K Kp (.call ⟨.builtin .cap, #[x], #[t]⟩) = okv (match e.ev x with
    | .vec k xs => if k = .any then none else (sliceT P t).map fun _ => .lit (.int .i64 xs.length)
    | _ => none) fun v => K v s := nr rfl
@[simp ↓] theorem dwk_uSliceData (x : Operand) (ts : Array TypeId) : dwk P A q e s K Kp (.call ⟨.builtin .unsafeSliceData, #[x], ts⟩) = okv (match e.ev x with
    | .sl i sz off len => if len = 0 then none else some (.pt i off 0)
    | .vec .nil _ => some (.lit (.pointer none))
    | _ => none) fun v => K v s := nr rfl
@[simp ↓] theorem dwk_uString (x n : Operand) (t t2 : TypeId) : dwk P A q e s K Kp (.call ⟨.builtin .unsafeString, #[x, n], #[t, t2]⟩) = (match fcb (e.ev x) (e.ev n) s with
    | some (x, n, s) => ustrW P s t x n (fun v s' => A.sub s' ∧ K v s')
    | none => False) := nr rfl
@[simp ↓] theorem dwk_lookup (t : TypeId) (x k : Operand) (c : Bool) : dwk P A q e s K Kp (.lookup t x k c) = okv (lookV P s t (e.ev x) (e.ev k) c) fun v => K v s := nr rfl
@[simp ↓] theorem dwk_append (x y : Operand) (t t2 : TypeId) : dwk P A q e s K Kp (.call ⟨.builtin .append, #[x, y], #[t, t2]⟩) = (match fcb (e.ev x) (e.ev y) s with
    | some (x, y, s) => appW P s t t2 x y (fun v s' => A.sub s' ∧ K v s')
    | none => False) := nr rfl
@[simp ↓] theorem dwk_call0 (f : Operand) (args : List Operand) (ts : Array TypeId) : dwk P A 0 e s K Kp (.call ⟨.value f, args.toArray, ts⟩) = (match fcc (e.ev f) (args.map e.ev) s with
    | some (f, a, s) => callW P s f a (fun v s' => A.sub s' ∧ K v s') Kp
    | none => False) := by simp [dwk, dw, kindOf, opw]
@[simp ↓] theorem dwk_call1 (f : Operand) (args : List Operand) (ts : Array TypeId) : dwk P A 1 e s K Kp (.call ⟨.value f, args.toArray, ts⟩) = (match fcc (e.ev f) (args.map e.ev) s with
    | some (f, a, s) => callQ P s f a fun v => K v s
    | none => False) := by simp [dwk, dw, kindOf, detV, opw, callQ]
@[simp ↓] theorem dwk_call2 (f : Operand) (args : List Operand) (ts : Array TypeId) : dwk P A 2 e s K Kp (.call ⟨.value f, args.toArray, ts⟩) = (match fcc (e.ev f) (args.map e.ev) s with
    | some (f, a, s) => callW P s f a (fun v s' => s.sub s' ∧ K v s') Kp
    | none => False) := by simp [dwk, dw, kindOf, opw]
end
def callS (P : Program) (f : PV) (args : List PV) (K : PV → Prop) : Prop := ∃ v, (∀ s, callW P s f args (fun p s' => p = v ∧ s' = s) (fun _ _ => False)) ∧ K v
def PSteadyL (P : Program) (f : FuncId) (args : List PV) (K : PV → Prop) (t : Tag K) : Prop := ∃ v, (∀ s, PCalls P f args s (fun r s' => match r with | .ret p => p = v ∧ s' = s | .pan _ => False)) ∧ K v
def PSteady (P : Program) (f : FuncId) (args : List PV) (K : PV → Prop) : Prop := ∃ v, (∀ s, PCalls P f args s (fun r s' => match r with | .ret p => p = v ∧ s' = s | .pan _ => False)) ∧ K v
@[simp ↓] theorem callS_fn0 (f : FuncId) (args : List PV) (K : PV → Prop) : callS P (.fn f [] []) args K = PSteadyL P f args K tag := by
  simp only [callS, PSteadyL, callW, List.nil_append, List.append_nil]; rfl
@[simp ↓] theorem dwk_call4 {A : St} (f : Operand) (args : List Operand) (ts : Array TypeId) : dwk P A 4 e s K Kp (.call ⟨.value f, args.toArray, ts⟩) = (match fcc (e.ev f) (args.map e.ev) s with
    | some (f, a, s) => callS P f a fun v => K v s
    | none => False) := by simp [dwk, dw, kindOf, detV, opw, callS]
theorem steady_of {f : FuncId} {args : List PV} {v : PV} {K : PV → Prop} (h : ∀ s, PCalls P f args s fun r s' => s' = s ∧ r = .ret v) (hK : K v) : PSteady P f args K :=
  ⟨v, fun s => (h s).mono fun r s' ⟨h1, h2⟩ => by subst h2; exact ⟨rfl, h1⟩, hK⟩
theorem quiet_of {f : FuncId} {args : List PV} {v : PV} {K : PV → Prop} (h : PCalls P f args s fun r s' => s' = s ∧ r = .ret v) (hK : K v) : PQuiet P f args s K :=
  ⟨v, h.mono fun r s' ⟨h1, h2⟩ => by subst h2; exact ⟨rfl, h1⟩, hK⟩
/-! #### ends -/
@[simp ↓] theorem retQ_normal (rs : List ResultVar) (R : Res → St → Prop) : retQ P rs R .normal e s = ∃ ps, resP P e s rs = some ps ∧ ∃ s', s'.sub s ∧ R (.ret (one ps)) s' := nr rfl
@[simp ↓] theorem retQ_ret (rs : List ResultVar) (R : Res → St → Prop) : retQ P rs R .ret e s = ∃ ps, resP P e s rs = some ps ∧ ∃ s', s'.sub s ∧ R (.ret (one ps)) s' := nr rfl
@[simp] theorem resP_nil : resP P e s [] = some [] := nr rfl
@[simp] theorem resP_tmp (t : Tmp) (rs : List ResultVar) : resP P e s (.tmp t :: rs) = (resP P e s rs).map fun ps => e t :: ps := nr rfl
@[simp] theorem resP_cell (a : Tmp) (t : TypeId) (rs : List ResultVar) : resP P e s (.cell a t :: rs) = ((tsz P t).bind fun n => (aggT P t).bind fun ag => (cellsAt s (e a) n).bind fun cs => pack ag cs).bind fun p => (resP P e s rs).map fun ps => p :: ps := nr rfl
@[simp] theorem one_nil : one [] = .tup [] := nr rfl
@[simp] theorem one_one (p : PV) : one [p] = p := nr rfl
@[simp] theorem one_two (p q : PV) (r : List PV) : one (p :: q :: r) = .tup (p :: q :: r) := nr rfl
@[simp] theorem sub_refl : s.sub s := fun _ _ h => h
theorem St.sub.upd {s' : St} {i : Nat} {b : Option Blk} (h : s.sub s') (hi : Fresh s' i) : s.sub (s'.upd i b) := by
  intro j c hj
  have := h j c hj
  by_cases hji : j = i
  · subst hji; rw [show s' j = none from hi] at this; cases this
  · rw [St.upd_ne _ _ hji]; exact this
theorem St.sub.trans {s1 s2 s3 : St} (h : s1.sub s2) (h' : s2.sub s3) : s1.sub s3 := fun i b hi => h' i b (h i b hi)
theorem St.sub.fresh {s' : St} {i : Nat} (h : s.sub s') (hi : Fresh s' i) : Fresh s i := by
  unfold Fresh at hi ⊢
  cases hs : s i with
  | none => rfl
  | some b => rw [h i b hs] at hi; cases hi
@[simp] theorem sub_fresh {i : Nat} {b : Option Blk} {s' : St} (hi : Fresh s' i) : s'.sub (s.upd i b) = s'.sub s := by
  apply propext
  constructor
  · intro h j c hj
    have := h j c hj
    by_cases hji : j = i
    · subst hji; rw [show s' j = none from hi] at hj; cases hj
    · rwa [St.upd_ne _ _ hji] at this
  · exact fun h => sub_upd h hi
end
end Go.Pv
