/- Code that may stand in a round of a loop over a function: operations and regions, in a fence without bounds. -/
import Derived.Test.YteajbghklmkoeaaPv0
import Derived.RangeFuncRecord
import Derived.OrdersIn
namespace Go.Pv
set_option linter.unusedVariables false
set_option linter.unusedSimpArgs false
/-- The fence without bounds, in a round or in none. -/
@[reducible] def fen (r : Option Nat) : Fence := { fn := fun _ => True, depth := none, alive := false, round := r }
theorem fen_none : fen none = Fence.wide := rfl
theorem calls_fen {P : Program} {r : Option Nat} {n : Nat} {f : FuncId} {args : Array Value} {w : World} {R : Ending → World → Prop} (h : Calls P f args w R) : CallsIn (fen r) n P f args w R :=
  show CallsIn Fence.wide n P f args w R from callsIn_wide.2 h
/-- Code without a loop over a function. -/
def flat : Code → Bool
  | .rangeFunc _ _ _ _ => false
  | .seq x y => flat x && flat y
  | .cond _ x y => flat x && flat y
  | .block _ c => flat c
  | .loop c => flat c
  | .scope c => flat c
  | _ => true
def okR (c : Code) (r : Option Nat) : Prop := flat c = true ∨ r = none
section
variable {P : Program} {ops : Array Oper} {Q : Exit → Act → World → Prop} {a : Act} {w : World} {r : Option Nat}
theorem okR.left {x y : Code} {c : Code} (h : okR c r) (hc : flat c = (flat x && flat y)) : okR x r := h.imp (fun h => by rw [hc, Bool.and_eq_true] at h; exact h.1) id
theorem okR.right {x y : Code} {c : Code} (h : okR c r) (hc : flat c = (flat x && flat y)) : okR y r := h.imp (fun h => by rw [hc, Bool.and_eq_true] at h; exact h.2) id
theorem okR.of {x : Code} {c : Code} (h : okR c r) (hc : flat c = flat x) : okR x r := h.imp (fun h => by rw [← hc]; exact h) id
/-- An operation: what it must come to. -/
def wpR (P : Program) (o : Oper) (a : Act) (w : World) (next : Act → World → Prop) (Q : Exit → Act → World → Prop) : Prop :=
  (∀ c, o.op ≠ .defer c) ∧ o.uponIn (fen none) 0 P a next Q ((execOp a.eval o).run P w)
theorem upon_fen {o : Oper} {next : Act → World → Prop} (res : Result Next) (h : o.uponIn (fen none) 0 P a next Q res) : o.uponIn (fen r) 0 P a next Q res := by
  cases res with
  | ok x w' => cases x <;> exact h
  | halt x w' => cases x <;> exact h
theorem wpR.wpIn {o : Oper} {next : Act → World → Prop} (h : wpR P o a w next Q) : o.wpIn (fen r) 0 P a w next Q := by
  refine ⟨fun _ _ => trivial, ?_⟩
  rw [Oper.semAt_eq _ _ _ h.1]
  exact upon_fen _ h.2
def wpListR (P : Program) (ops : Array Oper) (Q : Exit → Act → World → Prop) : List Oper → Act → World → Prop
  | [], a, w => Q .normal a w
  | o :: rest, a, w => if Region.wanted o (yielded ops a.tmps) then wpR P o a w (wpListR P ops Q rest) Q else wpListR P ops Q rest (a.put o.dst undef) w
theorem wpListR_ops : ∀ (l : List Oper) (k : Nat) (a : Act) (w : World), (∀ j, l[j]? = ops[k + j]?) → wpListR P ops Q l a w → wpOpsIn (fen r) 0 P ops Q (List.range' k l.length) a w
  | [], k, a, w, hl, h => h
  | o :: l, k, a, w, hl, h => by
    have h0 : ops[k]? = some o := by simpa using (hl 0).symm
    have hl' : ∀ j, l[j]? = ops[k + 1 + j]? := fun j => by have := hl (j + 1); simpa [Nat.add_assoc, Nat.add_comm 1 j] using this
    rw [List.length_cons, List.range'_succ]
    simp only [wpOpsIn, h0]
    simp only [wpListR] at h
    split at h
    · rename_i hw
      rw [if_pos hw]
      exact Oper.wpIn_mono (fun a w h => wpListR_ops l (k + 1) a w hl' h) h.wpIn
    · rename_i hw
      rw [if_neg hw]
      exact ⟨fun _ _ => trivial, wpListR_ops l (k + 1) _ w hl' h⟩
theorem wpR_region {id : Nat} (h : wpListR P ops Q ops.toList a w) : (Code.region id ops false).wpIn (fen r) 0 P Q a w := by
  refine wpIn_region ?_
  have := wpListR_ops (r := r) ops.toList 0 a w (fun j => by simp) h
  rwa [Array.length_toList, ← List.range_eq_range'] at this
def wpOpR (P : Program) (ops : Array Oper) (Q : Exit → Act → World → Prop) (i : Nat) (K : Act → World → Prop) (a : Act) (w : World) : Prop :=
  match ops[i]? with
  | none => K a w
  | some o => if Region.wanted o (yielded ops a.tmps) then wpR P o a w K Q else K (a.put o.dst undef) w
theorem wpOpR_in {i : Nat} {K K' : Act → World → Prop} (hK : ∀ a w, K a w → K' a w) (h : wpOpR P ops Q i K a w) : wpOpIn (fen r) 0 P ops Q i K' a w := by
  unfold wpOpR at h
  unfold wpOpIn
  split at h
  · rename_i ho
    simp only [ho]
    exact hK _ _ h
  · rename_i o ho
    simp only [ho]
    split at h
    · rename_i hw
      rw [if_pos hw]
      exact Oper.wpIn_mono hK h.wpIn
    · rename_i hw
      rw [if_neg hw]
      exact ⟨fun _ _ => trivial, hK _ _ h⟩
def wpAnyR (P : Program) (md : Region.Mode) (ops : Array Oper) (Q : Exit → Act → World → Prop) : Nat → Array Bool → Act → World → Prop
  | 0, listed, a, w => Region.ready md ops listed = [] ∧ Q .normal a w
  | fuel + 1, listed, a, w =>
    (Region.ready md ops listed = [] → Q .normal a w) ∧ ∀ i ∈ Region.ready md ops listed, wpOpR P ops Q i (wpAnyR P md ops Q fuel (listed.setIfInBounds i true)) a w
theorem wpAnyR_in {md : Region.Mode} : ∀ (fuel : Nat) (listed : Array Bool) (a : Act) (w : World), wpAnyR P md ops Q fuel listed a w → wpAnyIn (fen r) 0 P md ops Q fuel listed a w
  | 0, listed, a, w, h => h
  | fuel + 1, listed, a, w, h => ⟨h.1, fun i hi => wpOpR_in (fun a w h => wpAnyR_in fuel _ a w h) (h.2 i hi)⟩
theorem wpR_draw {id : Nat} (hm : P.follows .mixedOrders = true) (h : wpAnyR P .any ops Q ops.size (Array.replicate ops.size false) a { w with drawn := w.drawn + 1 }) : (Code.region id ops true).wpIn (fen r) 0 P Q a w :=
  wpIn_region_any hm (wpAnyR_in _ _ _ _ h)
/-- A loop, by a relation that bears a number which every round lowers. -/
theorem wpIn_ghost {F : Fence} {n : Nat} {c : Code} (I : Nat → Act → World → Prop) (n₀ : Nat) (h₀ : I n₀ a w)
    (round : ∀ n' a w, I n' a w → c.wpIn F n P (Exit.then (fun a' w' => ∃ m, m < n' ∧ I m a' w') Q) a w) : (Code.loop c).wpIn F n P Q a w := by
  refine wpIn_loop (fun a w => ∃ n, I n a w) (fun a w => leastOf (fun n => I n a w)) ⟨n₀, h₀⟩ ?_
  intro a w hI
  refine wpIn_mono (round _ a w (leastOf_spec hI).1) ?_
  intro e a' w' hq
  cases e with
  | normal =>
    obtain ⟨m, hm, hI'⟩ := hq
    exact ⟨⟨m, hI'⟩, Nat.lt_of_le_of_lt ((leastOf_spec ⟨m, hI'⟩).2 m hI') hm⟩
  | exit id => exact hq
  | goto l => exact hq
  | ret => exact hq
  | panic c => exact hq
  | outgrown => exact hq
end
end Go.Pv
