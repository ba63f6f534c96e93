import Derived.Test.YteajbghklmkoeaaTrx0
/-! Short words for what the printed walks say often: a block, a row, a bound carried over worlds that only grew or drew. -/
namespace Go.Proofs.Yteajbghklmkoeaa.Tr
open Go.RowKit Go.Proofs.YteajbghklmkoeaaW.PrintWords Go.Proofs.YteajbghklmkoeaaW.PrintLast Go.Proofs.YteajbghklmkoeaaW.PrintMore
class Mv (w w1 : World) : Prop where
  out : Below w.heap.size w w1
instance mv_refl (w : World) : Mv w w := ⟨Below.refl _ _⟩
instance mv_alloc (w w1 : World) (o : Obj) [h : Mv w w1] : Mv w (w1.alloc o) := ⟨below_alloc h.out o⟩
instance mv_drew (w w1 : World) [h : Mv w w1] : Mv w w1.drew := ⟨below_drew h.out⟩
instance mv_drewN (w w1 : World) (n : Nat) [h : Mv w w1] : Mv w (w1.drewN n) := ⟨pw_below_drewN h.out n⟩
section
variable {α : Type} {d : Kd α} {e base g : Nat} {ok : Nat → Prop} {w w1 w2 : World} {v : Value} {xs : List α} {o : Obj} {t : TypeId} {cs : Array Value}
theorem bm [m : Mv w w1] (h : w.heap[g]? = some o) : w1.heap[g]? = some o := blk_below h m.out
theorem nm [m : Mv w w1] (h : Kd.N d e w base ok v xs) : Kd.N d e w1 base ok v xs := Kd.N_below h m.out
theorem vm [m : Mv w w1] (h : Kd.V d e w base ok v xs) : Kd.V d e w1 base ok v xs := Kd.V_below h m.out
theorem rm [m : Mv w w1] (h : Kd.R d e w base ok v xs) : Kd.R d e w1 base ok v xs := Kd.R_below h m.out
theorem qm [m : Mv w w1] (h : Kd.Q d e w base ok v xs) : Kd.Q d e w1 base ok v xs := Kd.Q_below h m.out
theorem bl [m : Mv w1 w2] (h : Below w.heap.size w w1) : Below w.heap.size w w2 := below_step h m.out
/-- The numbers in gs are no less than b. -/
structure Ges (b : Nat) (gs : List Nat) : Prop where mk :: (out : ∀ x, x ∈ gs → b ≤ x)
theorem g0 {b : Nat} : Ges b [] := ⟨fun x hx => by simp at hx⟩
theorem ga {b x : Nat} {gs : List Nat} (h : Aside0 (b ≤ x)) (h2 : Ges b gs) : Ges b (x :: gs) := ⟨fun y hy => by
  rcases List.mem_cons.1 hy with rfl | hy
  · exact h.out
  · exact h2.out y hy⟩
class Memb (x : Nat) (gs : List Nat) : Prop where
  out : x ∈ gs
instance memb_head (x : Nat) (gs : List Nat) : Memb x (x :: gs) := ⟨List.mem_cons_self⟩
instance memb_tail (x y : Nat) (gs : List Nat) [h : Memb x gs] : Memb x (y :: gs) := ⟨List.mem_cons_of_mem _ h.out⟩
/-- .. and where blocks of gs have been written. -/
class Mw (gs : List Nat) (w w1 : World) : Prop where
  out : ∀ w0 : World, Ges w0.heap.size gs → Below w0.heap.size w0 w → Below w0.heap.size w0 w1
instance mw_refl (gs : List Nat) (w : World) : Mw gs w w := ⟨fun _ _ h => h⟩
instance mw_alloc (gs : List Nat) (w w1 : World) (o : Obj) [h : Mw gs w w1] : Mw gs w (w1.alloc o) := ⟨fun w0 hg hb => below_alloc (h.out w0 hg hb) o⟩
instance mw_drew (gs : List Nat) (w w1 : World) [h : Mw gs w w1] : Mw gs w w1.drew := ⟨fun w0 hg hb => below_drew (h.out w0 hg hb)⟩
instance mw_drewN (gs : List Nat) (w w1 : World) (n : Nat) [h : Mw gs w w1] : Mw gs w (w1.drewN n) := ⟨fun w0 hg hb => pw_below_drewN (h.out w0 hg hb) n⟩
instance mw_set (gs : List Nat) (w w1 : World) (x j : Nat) (u : Value) [h : Mw gs w w1] [hm : Memb x gs] : Mw gs w (w1.setCell ⟨x, j, none⟩ u) := ⟨fun w0 hg hb => below_set (h.out w0 hg hb) (hg.out x hm.out)⟩
theorem bw {gs : List Nat} (h : Aside0 (Below w.heap.size w w1)) (hg : Ges w.heap.size gs) [m : Mw gs w1 w2] : Below w.heap.size w w2 := m.out w hg h.out
theorem here_ {P : Program} {f : Nat} {args : Array Value} {w : World} {Q : Ending → World → Prop} (h : Calls P f args w Q) : Calls P f args w Q := h
theorem bc (h : Aside0 (w.heap[g]? = some (.cells cs t (0, 0)))) (i : Nat) {v : Value} (hv : cs[i]? = some v := by rfl) : w.cell? ⟨g, i, none⟩ = some v := (blk_cell h.out i).trans hv
end
end Go.Proofs.Yteajbghklmkoeaa.Tr
