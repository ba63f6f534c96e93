/- Trees as plain data. -/
import Derived.Test.YteajbghklmkoeaaPv16
namespace Go.Pv
set_option linter.unusedVariables false
set_option linter.unusedSimpArgs false
structure Nd where
  op : Int
  s : ByteArray
  n : Int
  fr : Int
  to : Int
  l : List Nd
def enc : Nd → PV
  | ⟨op, s, n, fr, to, l⟩ => .agg [.lit (.int .i64 op), .lit (.string s), .lit (.int .i64 n), .lit (.int .i64 fr), .lit (.int .i64 to), .vec .any (l.attach.map fun ⟨x, _⟩ => enc x)]
@[reducible] def encC (x : Nd) : List PV := [.lit (.int .i64 x.op), .lit (.string x.s), .lit (.int .i64 x.n), .lit (.int .i64 x.fr), .lit (.int .i64 x.to), .vec .any (x.l.map enc)]
@[reducible] def encU (x : Nd) : PV := .agg [.lit (.int .i64 x.op), .lit (.string x.s), .lit (.int .i64 x.n), .lit (.int .i64 x.fr), .lit (.int .i64 x.to), .vec .any (x.l.map enc)]
@[simp] theorem enc_eq (x : Nd) : enc x = encU x := by
  obtain ⟨op, s, n, fr, to, l⟩ := x
  rw [enc]
  simp only [encU, List.map_attach_eq_pmap, List.pmap_eq_map]
@[simp] theorem cells_enc : PV.cells ∘ enc = encC := by funext x; simp
@[simp] theorem width_enc : PV.width ∘ enc = fun _ => 6 := by funext x; simp
def zeroN : PV := .agg [.lit (.int .i64 0), .lit (.string ⟨#[]⟩), .lit (.int .i64 0), .lit (.int .i64 0), .lit (.int .i64 0), .vec .nil []]
@[reducible] def encI (l : List Int) : List PV := l.map fun n => .lit (.int .i64 n)
@[reducible] def ints (k : VK) (l : List Int) : PV := .vec k (l.map fun n => .lit (.int .i64 n))
def Nd.size : Nd → Nat
  | ⟨_, _, _, _, _, l⟩ => 1 + (l.attach.map fun ⟨x, _⟩ => x.size).sum
theorem Nd.size_eq (x : Nd) : x.size = 1 + (x.l.map Nd.size).sum := by
  obtain ⟨op, s, n, fr, to, l⟩ := x
  rw [Nd.size]
  simp only [List.map_attach_eq_pmap, List.pmap_eq_map]
theorem Nd.size_pos (x : Nd) : 1 ≤ x.size := by rw [x.size_eq]; omega
theorem sum_take_succ {l : List Nat} {k : Nat} (h : k < l.length) : (l.take (k + 1)).sum = (l.take k).sum + l[k] := by
  rw [List.take_succ_eq_append_getElem h, List.sum_append]; simp
theorem sum_take_le (l : List Nat) (k : Nat) : (l.take k).sum ≤ l.sum := by
  conv => rhs; rw [← List.take_append_drop k l]
  rw [List.sum_append]; omega
theorem len_le_size (l : List Nd) : l.length ≤ (l.map Nd.size).sum := by
  induction l with
  | nil => simp
  | cons a l ih => have := a.size_pos; simp; omega
theorem mem_le_sum {l : List Nd} {y : Nd} (h : y ∈ l) : y.size ≤ (l.map Nd.size).sum := by
  induction l with
  | nil => cases h
  | cons a l ih =>
    rcases List.mem_cons.1 h with rfl | h
    · simp
    · have := ih h; simp; omega
theorem Nd.mem_lt {x y : Nd} (h : y ∈ x.l) : y.size < x.size := by
  have := mem_le_sum h
  rw [x.size_eq]; omega
theorem Nd.len_lt (x : Nd) : x.l.length < x.size := by
  have := len_le_size x.l
  rw [x.size_eq]; omega
/-- The node at a path. -/
def atN : Nd → List Int → Option Nd
  | x, [] => some x
  | x, i :: p => if 0 ≤ i then (match x.l[i.toNat]? with
    | some y => atN y p
    | none => none) else none
/-- A node exchanged. -/
def repN : Nd → List Int → Nd → Option Nd
  | x, [], m => some m
  | x, i :: p, m => if 0 ≤ i then (match x.l[i.toNat]? with
    | some y => (repN y p m).map fun y' => { x with l := x.l.set i.toNat y' }
    | none => none) else none
theorem fresh_ne {s : St} {i k : Nat} {b : Blk} (h : Fresh s i) (hk : s k = some b) : i ≠ k := fun e => by subst e; rw [show s i = none from h] at hk; cases hk
theorem St.sub.set {s s' : St} {i : Nat} {b : Option Blk} (h : s.sub s') (hi : Fresh s i) : s.sub (s'.upd i b) := by
  intro j c hj
  by_cases hji : j = i
  · subst hji; rw [show s j = none from hi] at hj; cases hj
  · rw [St.upd_ne _ _ hji]; exact h j c hj
end Go.Pv
