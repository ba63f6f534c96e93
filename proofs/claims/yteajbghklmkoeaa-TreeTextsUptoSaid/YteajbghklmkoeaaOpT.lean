/- What a law is given: tokens, with their bulk. -/
import Derived.Test.YteajbghklmkoeaaPv19
import Derived.Test.YteajbghklmkoeaaOp06
import Derived.Test.YteajbghklmkoeaaF31
import Derived.Test.YteajbghklmkoeaaRows
namespace Go.Pv
open Go.RowKit Go.ChangeShapes Go.WideShapes Go.Proofs
set_option maxRecDepth 100000
set_option linter.unusedVariables false
set_option linter.unusedSimpArgs false
section
variable {H : Type} {enc' : TypeId × Value → H} {w : World} {base : Nat} {spare : Nat → Bool} {held : Bool}
abbrev bulkD {H : Type} (d : DataW H) : Nat := Go.Proofs.Yteajbghklmkoeaa.Rows.uptoBulk d
abbrev bulkDs {H : Type} (d : List (DataW H)) : Nat := Go.Proofs.Yteajbghklmkoeaa.Rows.uptoBulkAll d
theorem bulkD_agg {l : List (DataW H)} : bulkD (.agg l) = bulkDs l + 1 := by simp [bulkD, Go.Proofs.Yteajbghklmkoeaa.Rows.uptoBulk]
theorem bulkDs_cons {d : DataW H} {l : List (DataW H)} : bulkDs (d :: l) = bulkD d + bulkDs l := by simp [bulkDs, Go.Proofs.Yteajbghklmkoeaa.Rows.uptoBulkAll]
theorem bulkDs_nil : bulkDs ([] : List (DataW H)) = 0 := by simp [bulkDs, Go.Proofs.Yteajbghklmkoeaa.Rows.uptoBulkAll]
theorem bulkD_str {b : List UInt8} : bulkD (.lit (.string b) : DataW H) = b.length + 1 := by simp [bulkD, Go.Proofs.Yteajbghklmkoeaa.Rows.uptoBulk]
theorem bulkD_pos (d : DataW H) : 1 ≤ bulkD d := by
  cases d with
  | lit l => cases l <;> simp [bulkD, Go.Proofs.Yteajbghklmkoeaa.Rows.uptoBulk]
  | nil => simp [bulkD, Go.Proofs.Yteajbghklmkoeaa.Rows.uptoBulk]
  | ptr d => simp [bulkD, Go.Proofs.Yteajbghklmkoeaa.Rows.uptoBulk]
  | slice elems spare => simp [bulkD, Go.Proofs.Yteajbghklmkoeaa.Rows.uptoBulk]
  | agg parts => simp [bulkD, Go.Proofs.Yteajbghklmkoeaa.Rows.uptoBulk]
  | iface t d => simp [bulkD, Go.Proofs.Yteajbghklmkoeaa.Rows.uptoBulk]
  | map entries => simp [bulkD, Go.Proofs.Yteajbghklmkoeaa.Rows.uptoBulk]
  | held h => simp [bulkD, Go.Proofs.Yteajbghklmkoeaa.Rows.uptoBulk]
theorem bulk_elems (d : DataW H) : bulkDs (elemsD d) ≤ bulkD d := by
  cases d with
  | slice elems spare => simp [elemsD, bulkD, bulkDs, Go.Proofs.Yteajbghklmkoeaa.Rows.uptoBulk]; omega
  | _ => simp [elemsD, bulkDs, Go.Proofs.Yteajbghklmkoeaa.Rows.uptoBulkAll]
theorem bulk_mem {d : DataW H} {l : List (DataW H)} (h : d ∈ l) : bulkD d ≤ bulkDs l := by
  induction l with
  | nil => cases h
  | cons x r ih =>
    rw [bulkDs_cons]
    rcases List.mem_cons.1 h with rfl | h
    · omega
    · have := ih h; omega
theorem bulk_sum {α : Type} (m : α → Nat) : ∀ (l : List α) (ds : List (DataW H)), l.length = ds.length → (∀ (i : Nat) y, l[i]? = some y → ∃ d, ds[i]? = some d ∧ m y ≤ bulkD d) → (l.map m).sum ≤ bulkDs ds
  | [], _, _, _ => by simp
  | y :: l, [], h, _ => by simp at h
  | y :: l, d :: ds, h, hm => by
    have ih := bulk_sum m l ds (by simpa using h) (fun i z hz => by simpa using hm (i + 1) z (by simpa using hz))
    obtain ⟨d', hd, h0⟩ := hm 0 y rfl
    cases hd
    rw [bulkDs_cons]
    simp only [List.map_cons, List.sum_cons]
    omega
/-- A token's numbers, and its texts. -/
def Tok (t : Tk) : Prop := I64 t.kind ∧ I64 t.at_
theorem open_tokC {fuel : Nat} {cs : List Value} {x : DataW H × List MemPlace} (h : DataW.trod enc' Try.prog w base spare held fuel 78 cs = some x) : ∃ y : Tk, CRd w (encT y) cs ∧ (Tok y ∧ y.before.size + y.text.size + 1 ≤ bulkD x.1) := by
  obtain ⟨xs, n, rfl, rfl, hlen, _, hf⟩ := DataW.trod_struct Try.underlying78 h
  have hl6 : cs.length = 4 := hlen.trans (by kernel_rfl)
  match cs, hl6 with
  | [c0, c1, c2, c3], _ =>
    have g0 : DataW.trod enc' Try.prog w base spare held n 3 [c0] = xs[0]? := hf 0 _ rfl
    have g1 : DataW.trod enc' Try.prog w base spare held n 9 [c1] = xs[1]? := hf 1 _ rfl
    have g2 : DataW.trod enc' Try.prog w base spare held n 9 [c2] = xs[2]? := hf 2 _ rfl
    have g3 : DataW.trod enc' Try.prog w base spare held n 3 [c3] = xs[3]? := hf 3 _ rfl
    have hx : xs.length = 4 := by assumption
    match xs, hx with
    | [x0, x1, x2, x3], _ =>
      simp at g0 g1 g2 g3
      obtain ⟨a0, e0, v0, w0⟩ := int_cr Try.underlying3 g0
      obtain ⟨a1, e1, v1, w1, d1⟩ := str_crD Try.underlying9 g1
      obtain ⟨a2, e2, v2, w2, d2⟩ := str_crD Try.underlying9 g2
      obtain ⟨a3, e3, v3, w3⟩ := int_cr Try.underlying3 g3
      simp only [List.cons.injEq, and_true] at e0 e1 e2 e3
      subst e0 e1 e2 e3
      refine ⟨⟨a0, a1, a2, a3⟩, .cons v0 rfl (.cons v1 rfl (.cons v2 rfl (.cons v3 rfl .nil))), ⟨wf_i64 w0, wf_i64 w3⟩, ?_⟩
      simp only [List.map_cons, List.map_nil]
      rw [bulkD_agg, bulkDs_cons, bulkDs_cons, bulkDs_cons, d1, d2, bulkD_str, bulkD_str]
      have s1 : a1.data.toList.length = a1.size := rfl
      have s2 : a2.data.toList.length = a2.size := rfl
      omega
/-- Tokens. -/
theorem open_tokensP {W : World} {v : Value} {d : DataW H} {p : List MemPlace} (hv : Value.okWide Try.prog W .any base 37 v) (h : DataW.Trod enc' Try.prog w 0 spare held 37 v d p) :
    ∃ l : List Tk, VR w (g0 w) (toks .any l) v ∧ l.length ≤ 2 ^ 63 - 1 ∧ ((bulkT l ≤ bulkD d ∧ l.length ≤ bulkD d) ∧ ∀ t ∈ l, Tok t) := by
  obtain ⟨a, len, cap, rfl⟩ := okWide_slice Try.underlying37 hv
  obtain ⟨fuel, hf⟩ := h
  obtain ⟨u, l, hcs, hv', _, hl, hll, hG⟩ := rows_crD (sz := 4) encT (fun y d => Tok y ∧ y.before.size + y.text.size + 1 ≤ bulkD d) (fun x => rfl) Try.underlying37 (by kernel_rfl) (fun m hm cs x h => open_tokC h) hf
  have he : Value.slice a len cap = u := by simpa [Value.cells] using hcs
  rw [he]
  have h1 := bulk_sum (fun t : Tk => t.before.size + t.text.size) l _ hll (fun i y hy => by obtain ⟨d, hd, _, hb⟩ := hG i y hy; exact ⟨d, hd, by omega⟩)
  have h2 := bulk_sum (fun t : Tk => 1) l _ hll (fun i y hy => by obtain ⟨d, hd, _, hb⟩ := hG i y hy; exact ⟨d, hd, by omega⟩)
  have h3 := bulk_elems d
  have h4 : ∀ l : List Tk, (l.map fun t : Tk => 1).sum = l.length := by intro l; induction l with | nil => rfl | cons a l ih => simp only [List.map_cons, List.sum_cons, ih, List.length_cons]; omega
  rw [h4] at h2
  simp only at h1 h2
  refine ⟨l, hv', hl, ⟨Nat.le_trans h1 h3, by omega⟩, fun t ht => ?_⟩
  obtain ⟨i, hi⟩ := List.getElem?_of_mem ht
  obtain ⟨_, _, hT, _⟩ := hG i t hi
  exact hT
end
end Go.Pv
