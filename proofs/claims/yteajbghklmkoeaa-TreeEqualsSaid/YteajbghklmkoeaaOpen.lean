/- How the arguments of these laws (a tree, a list of tokens, a list of numbers) read as plain data. -/
import Derived.Test.YteajbghklmkoeaaTrx0
import Derived.Deep.Slices
import Derived.ChangeSame
import Derived.ProofKit
namespace Go.Proofs.Yteajbghklmkoeaa.Tr
open Go.RowKit Go.ChangeShapes Go.WideShapes Go.Proofs.YteajbghklmkoeaaW.PrintWords
set_option linter.unusedVariables false
set_option maxRecDepth 100000

/-- A tree of at most so many levels, whose numbers, texts and lists are of Go's sizes. -/
def GoodN : Nat → S24 → Prop
  | 0, _ => False
  | n + 1, x => (Lit.int .i64 x.f0).wf = true ∧ x.f1.size ≤ maxLen ∧ (Lit.int .i64 x.f2).wf = true ∧ (Lit.int .i64 x.f3).wf = true ∧ (Lit.int .i64 x.f4).wf = true ∧ x.f5.length ≤ maxLen ∧ ∀ y ∈ x.f5, GoodN n y
def Good (x : S24) : Prop := ∃ n, GoodN n x
theorem GoodN.up : ∀ {n : Nat} {x : S24}, GoodN n x → GoodN (n + 1) x
  | 0, _, h => h.elim
  | n + 1, x, ⟨h0, h1, h2, h3, h4, h5, h⟩ => ⟨h0, h1, h2, h3, h4, h5, fun y hy => (h y hy).up⟩
theorem GoodN.le {n m : Nat} {x : S24} (h : GoodN n x) (hm : n ≤ m) : GoodN m x := by
  obtain ⟨d, rfl⟩ := Nat.le.dest hm
  clear hm
  induction d with
  | zero => exact h
  | succ d ih => exact ih.up
theorem goodN_all : ∀ (l : List S24), (∀ y ∈ l, Good y) → ∃ n, ∀ y ∈ l, GoodN n y
  | [], _ => ⟨0, fun y hy => by cases hy⟩
  | x :: l, h => by
    obtain ⟨n, hn⟩ := goodN_all l (fun y hy => h y (List.mem_cons_of_mem _ hy))
    obtain ⟨m, hm⟩ := h x List.mem_cons_self
    refine ⟨max n m, fun y hy => ?_⟩
    rcases List.mem_cons.1 hy with rfl | hy
    · exact hm.le (Nat.le_max_right _ _)
    · exact (hn y hy).le (Nat.le_max_left _ _)
theorem Good.mk {x : S24} (h0 : (Lit.int .i64 x.f0).wf = true) (h1 : x.f1.size ≤ maxLen) (h2 : (Lit.int .i64 x.f2).wf = true) (h3 : (Lit.int .i64 x.f3).wf = true) (h4 : (Lit.int .i64 x.f4).wf = true) (h5 : x.f5.length ≤ maxLen) (h : ∀ y ∈ x.f5, Good y) : Good x := by
  obtain ⟨n, hn⟩ := goodN_all x.f5 h
  exact ⟨n + 1, h0, h1, h2, h3, h4, h5, hn⟩

section
variable {H : Type} {enc : TypeId × Value → H} {w : World} {base : Nat} {spare : Nat → Bool} {held : Bool}
/-- A slice of whatever elements: what each element reads as, as a list. -/
theorem list_of {α : Type} [Inhabited α] {p : Nat → α → Prop} : ∀ {n : Nat}, (∀ i, i < n → ∃ x, p i x) → ∃ l : List α, l.length = n ∧ ∀ i x, l[i]? = some x → p i x := by
  intro n h
  obtain ⟨f, hf⟩ := Go.Deep.choose_lt h
  refine ⟨(List.range n).map f, by simp, fun i x hx => ?_⟩
  obtain ⟨hl, hx⟩ := List.getElem?_eq_some_iff.1 hx
  have hi : i < n := by simpa using hl
  have he : f i = x := by simpa using hx
  rw [← he]
  exact hf i hi
instance : Inhabited S24 := ⟨z24⟩
instance : Inhabited S78 := ⟨z78⟩
/-- The rows' reading out of an opened slice. -/
theorem rows_of {α : Type} [Inhabited α] {t e sz : Nat} (d : Kd α) (G : α → Prop) (hd : d.sz = sz) {fuel : Nat} {cs : List Value} {x : DataW H × List MemPlace} (ht : Try.prog.underlying t = some (.slice e)) (hc : Try.prog.cellsOf e = sz)
    (ih : ∀ m, m < fuel → ∀ cs x, DataW.trod enc Try.prog w base spare held m e cs = some x → ∃ y, d.K w y cs ∧ G y)
    (h : DataW.trod enc Try.prog w base spare held fuel t cs = some x) : ∃ (A : Option Addr) (c : Nat) (l : List α), cs = [.slice A l.length c] ∧ l.length ≤ c ∧ c ≤ maxLen ∧ d.C w A l.length l ∧ ∀ y ∈ l, G y := by
  have hpos : ∃ f, fuel = f + 1 := by
    cases fuel with
    | zero => simp [DataW.trod] at h
    | succ f => exact ⟨f, rfl⟩
  obtain ⟨f, rfl⟩ := hpos
  rcases DataW.trod_slice ht h with ⟨rfl, _⟩ | ⟨a, len, cap, elems, rest, n, hf, rfl, _, hb, hl, hm, hlen, hel, _, _⟩
  · exact ⟨none, 0, [], rfl, Nat.le_refl _, Nat.zero_le _, ⟨rfl, by simp, fun hp => absurd hp (by simp)⟩, fun y hy => by cases hy⟩
  · have hn : f = n := by omega
    subst hn
    have hall : ∀ i, i < len → ∃ y : α, (∃ c, c.length = sz ∧ d.K w y c ∧ ∀ j u, c[j]? = some u → w.cell? (a.add (i * sz + j)) = some u) ∧ G y := by
      intro i hi
      have h1 := hel i hi
      rw [List.getElem?_eq_getElem (by omega)] at h1
      obtain ⟨c, hcc, ht2⟩ := Option.bind_eq_some_iff.1 h1
      obtain ⟨y, hK, hG⟩ := ih f (by omega) c _ ht2
      rw [hc] at hcc
      obtain ⟨_, hcl, hat⟩ := World.cells?_some hcc
      refine ⟨y, ⟨c, hcl, hK, fun j u hu => ?_⟩, hG⟩
      have hj : j < sz := by rw [← hcl]; exact (List.getElem?_eq_some_iff.1 hu).1
      rw [← Go.Deep.add_add, hat j hj]
      exact hu
    obtain ⟨l, hll, hp⟩ := list_of hall
    subst hll
    refine ⟨some a, cap, l, rfl, hl, hm, ⟨rfl, by unfold maxLen at hm; omega, fun _ => ⟨a, rfl, fun j p hj => ?_⟩⟩, fun y hy => ?_⟩
    · rw [hd]
      exact (hp j p hj).1
    · obtain ⟨i, hi⟩ := List.getElem?_of_mem hy
      exact (hp i y hi).2
/-- A tree. -/
theorem open_node : ∀ (fuel : Nat) (cs : List Value) (x : DataW H × List MemPlace), DataW.trod enc Try.prog w base spare held fuel 24 cs = some x → ∃ y : S24, k24.K w y cs ∧ Good y := by
  intro fuel
  induction fuel using Nat.strongRecOn with
  | _ fuel ih =>
  intro cs x h
  obtain ⟨xs, n, rfl, _, hlen, _, hf⟩ := DataW.trod_struct Try.underlying24 h
  have hl6 : cs.length = 6 := hlen.trans (by kernel_rfl)
  match cs, hl6 with
  | [c0, c1, c2, c3, c4, c5], _ =>
    have g0 : DataW.trod enc Try.prog w base spare held n 3 [c0] = xs[0]? := hf 0 _ rfl
    have g1 : DataW.trod enc Try.prog w base spare held n 9 [c1] = xs[1]? := hf 1 _ rfl
    have g2 : DataW.trod enc Try.prog w base spare held n 3 [c2] = xs[2]? := hf 2 _ rfl
    have g3 : DataW.trod enc Try.prog w base spare held n 3 [c3] = xs[3]? := hf 3 _ rfl
    have g4 : DataW.trod enc Try.prog w base spare held n 3 [c4] = xs[4]? := hf 4 _ rfl
    have g5 : DataW.trod enc Try.prog w base spare held n 22 [c5] = xs[5]? := hf 5 _ rfl
    have hx : xs.length = 6 := by assumption
    rw [List.getElem?_eq_getElem (by omega)] at g0 g1 g2 g3 g4 g5
    obtain ⟨a0, e0, _, w0⟩ := DataW.trod_int Try.underlying3 g0
    obtain ⟨a1, e1, _, w1⟩ := DataW.trod_string Try.underlying9 g1
    obtain ⟨a2, e2, _, w2⟩ := DataW.trod_int Try.underlying3 g2
    obtain ⟨a3, e3, _, w3⟩ := DataW.trod_int Try.underlying3 g3
    obtain ⟨a4, e4, _, w4⟩ := DataW.trod_int Try.underlying3 g4
    obtain ⟨A5, c, l, e5, hlc, hcm, hC, hG⟩ := rows_of k24 Good rfl Try.underlying22 (by kernel_rfl) (fun m hm => ih m (by omega)) g5
    simp only [List.cons.injEq, and_true] at e0 e1 e2 e3 e4 e5
    subst e0 e1 e2 e3 e4 e5
    exact ⟨⟨a0, a1, a2, a3, a4, l⟩, k24_mk w ⟨a0, a1, a2, a3, a4, l⟩ hlc hC, Good.mk w0 w1 w2 w3 w4 (Nat.le_trans hlc hcm) hG⟩
/-- A tree, as a value. -/
theorem open_node_val {W : World} {v : Value} {d : DataW H} {p : List MemPlace} (hv : Value.okWide Try.prog W .any base 24 v) (h : DataW.Trod enc Try.prog w 0 spare held 24 v d p) :
    ∃ (x : S24) (A : Option Addr) (c : Nat), v = .agg #[.int .i64 x.f0, .string x.f1, .int .i64 x.f2, .int .i64 x.f3, .int .i64 x.f4, .slice A x.f5.length c] ∧ x.f5.length ≤ c ∧ k24.C w A x.f5.length x.f5 ∧ Good x := by
  obtain ⟨cs, rfl, _⟩ := okWide_struct Try.underlying24 hv
  obtain ⟨fuel, hf⟩ := h
  obtain ⟨y, hK, hG⟩ := open_node fuel _ _ hf
  obtain ⟨A, c, hcs, hl, hC⟩ := k24_open hK
  refine ⟨y, A, c, ?_, hl, hC, hG⟩
  have : cs.toList = [.int .i64 y.f0, .string y.f1, .int .i64 y.f2, .int .i64 y.f3, .int .i64 y.f4, .slice A y.f5.length c] := by simpa [Value.cells] using hcs
  congr 1
  exact Array.ext' (by simpa using this)
/-- A list of tokens. -/
def GoodT (x : S78) : Prop := (Lit.int .i64 x.f0).wf = true ∧ x.f1.size ≤ maxLen ∧ x.f2.size ≤ maxLen ∧ (Lit.int .i64 x.f3).wf = true
theorem open_token (fuel : Nat) (cs : List Value) (x : DataW H × List MemPlace) (h : DataW.trod enc Try.prog w base spare held fuel 78 cs = some x) : ∃ y : S78, k78.K w y cs ∧ GoodT y := by
  obtain ⟨xs, n, rfl, _, hlen, _, hf⟩ := DataW.trod_struct Try.underlying78 h
  have hl4 : cs.length = 4 := hlen.trans (by kernel_rfl)
  match cs, hl4 with
  | [c0, c1, c2, c3], _ =>
    have g0 : DataW.trod enc Try.prog w base spare held n 3 [c0] = xs[0]? := hf 0 _ rfl
    have g1 : DataW.trod enc Try.prog w base spare held n 9 [c1] = xs[1]? := hf 1 _ rfl
    have g2 : DataW.trod enc Try.prog w base spare held n 9 [c2] = xs[2]? := hf 2 _ rfl
    have g3 : DataW.trod enc Try.prog w base spare held n 3 [c3] = xs[3]? := hf 3 _ rfl
    have hx : xs.length = 4 := by assumption
    rw [List.getElem?_eq_getElem (by omega)] at g0 g1 g2 g3
    obtain ⟨a0, e0, _, w0⟩ := DataW.trod_int Try.underlying3 g0
    obtain ⟨a1, e1, _, w1⟩ := DataW.trod_string Try.underlying9 g1
    obtain ⟨a2, e2, _, w2⟩ := DataW.trod_string Try.underlying9 g2
    obtain ⟨a3, e3, _, w3⟩ := DataW.trod_int Try.underlying3 g3
    simp only [List.cons.injEq, and_true] at e0 e1 e2 e3
    subst e0 e1 e2 e3
    exact ⟨⟨a0, a1, a2, a3⟩, k78_mk w ⟨a0, a1, a2, a3⟩, w0, w1, w2, w3⟩
theorem open_tokens {W : World} {v : Value} {d : DataW H} {p : List MemPlace} (hv : Value.okWide Try.prog W .any base 37 v) (h : DataW.Trod enc Try.prog w 0 spare held 37 v d p) :
    ∃ (l : List S78) (A : Option Addr) (c : Nat), v = .slice A l.length c ∧ l.length ≤ c ∧ k78.C w A l.length l ∧ l.length ≤ maxLen ∧ ∀ y ∈ l, GoodT y := by
  obtain ⟨a, len, cap, rfl⟩ := okWide_slice Try.underlying37 hv
  obtain ⟨fuel, hf⟩ := h
  obtain ⟨A, c, l, hcs, hlc, hcm, hC, hG⟩ := rows_of k78 GoodT rfl Try.underlying37 (by kernel_rfl) (fun m hm => open_token m) hf
  have he : Value.slice a len cap = .slice A l.length c := by simpa [Value.cells] using hcs
  exact ⟨l, A, c, he, hlc, hC, Nat.le_trans hlc hcm, hG⟩
/-- A list of numbers. -/
theorem open_num (fuel : Nat) (cs : List Value) (x : DataW H × List MemPlace) (h : DataW.trod enc Try.prog w base spare held fuel 3 cs = some x) : ∃ y : Int, (Kd.int .i64).K w y cs ∧ (Lit.int .i64 y).wf = true := by
  obtain ⟨a, e, _, hw⟩ := DataW.trod_int Try.underlying3 h
  exact ⟨a, e, hw⟩
theorem open_nums {W : World} {v : Value} {d : DataW H} {p : List MemPlace} (hv : Value.okWide Try.prog W .any base 31 v) (h : DataW.Trod enc Try.prog w 0 spare held 31 v d p) :
    ∃ (l : List Int) (A : Option Addr) (c : Nat), v = .slice A l.length c ∧ l.length ≤ c ∧ (Kd.int .i64).C w A l.length l ∧ l.length ≤ maxLen ∧ ∀ y ∈ l, (Lit.int .i64 y).wf = true := by
  obtain ⟨a, len, cap, rfl⟩ := okWide_slice Try.underlying31 hv
  obtain ⟨fuel, hf⟩ := h
  obtain ⟨A, c, l, hcs, hlc, hcm, hC, hG⟩ := rows_of (Kd.int .i64) (fun y : Int => (Lit.int .i64 y).wf = true) rfl Try.underlying31 (by kernel_rfl) (fun m hm => open_num m) hf
  have he : Value.slice a len cap = .slice A l.length c := by simpa [Value.cells] using hcs
  exact ⟨l, A, c, he, hlc, hC, Nat.le_trans hlc hcm, hG⟩
end
end Go.Proofs.Yteajbghklmkoeaa.Tr
