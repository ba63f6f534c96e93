/- How trees, tokens and numbers read as plain data. -/
import Derived.Test.YteajbghklmkoeaaPv17
import Derived.Test.YteajbghklmkoeaaF70
import Derived.Test.YteajbghklmkoeaaChecked
namespace Go.Pv
open Go.Proofs Go.RowKit Go.ChangeShapes Go.WideShapes
set_option linter.unusedVariables false
set_option linter.unusedSimpArgs false
set_option maxRecDepth 100000
def I64 (n : Int) : Prop := -9223372036854775808 ≤ n ∧ n ≤ 9223372036854775807
theorem wf_i64 {n : Int} (h : (Lit.int .i64 n).wf = true) : I64 n := by
  simp only [Lit.wf, Bool.and_eq_true, decide_eq_true_eq] at h
  have h1 : IntKind.i64.min = -9223372036854775808 := by decide
  have h2 : IntKind.i64.max = 9223372036854775807 := by decide
  rw [h1, h2] at h
  exact h
/-- Its own numbers are ints. -/
def Nd.ints (x : Nd) : Prop := I64 x.op ∧ I64 x.n ∧ I64 x.fr ∧ I64 x.to
def Gi (x : Nd) : Prop := ∀ p y, atN x p = some y → y.ints
theorem gd_mk {x : Nd} (h1 : x.l.length ≤ 2 ^ 63 - 1) (h2 : x.s.size ≤ 2 ^ 63 - 1) (h : ∀ y ∈ x.l, Gd y) : Gd x := by
  intro p y hy
  cases p with
  | nil => cases hy; exact ⟨h1, h2⟩
  | cons i p =>
    unfold atN at hy
    split at hy
    · split at hy
      · rename_i z hz; exact h z (List.mem_of_getElem? hz) p y hy
      · cases hy
    · cases hy
theorem gi_mk {x : Nd} (h1 : x.ints) (h : ∀ y ∈ x.l, Gi y) : Gi x := by
  intro p y hy
  cases p with
  | nil => cases hy; exact h1
  | cons i p =>
    unfold atN at hy
    split at hy
    · split at hy
      · rename_i z hz; exact h z (List.mem_of_getElem? hz) p y hy
      · cases hy
    · cases hy
instance : Inhabited Nd := ⟨⟨0, ⟨#[]⟩, 0, 0, 0, []⟩⟩
section
variable {H : Type} {enc' : TypeId × Value → H} {w : World} {base : Nat} {spare : Nat → Bool} {held : Bool}
theorem open_nodeC : ∀ (fuel : Nat) (cs : List Value) (x : DataW H × List MemPlace), DataW.trod enc' Try.prog w base spare held fuel 24 cs = some x → ∃ y : Nd, CRd w (enc y) cs ∧ (Gd y ∧ Gi y) := by
  intro fuel
  induction fuel using Nat.strongRecOn with
  | _ fuel ih =>
  intro cs x h
  obtain ⟨xs, n, rfl, _, hlen, _, hf⟩ := DataW.trod_struct Try.underlying24 h
  have hl6 : cs.length = 6 := hlen.trans (by kernel_rfl)
  match cs, hl6 with
  | [c0, c1, c2, c3, c4, c5], _ =>
    have g0 : DataW.trod enc' Try.prog w base spare held n 3 [c0] = xs[0]? := hf 0 _ rfl
    have g1 : DataW.trod enc' Try.prog w base spare held n 9 [c1] = xs[1]? := hf 1 _ rfl
    have g2 : DataW.trod enc' Try.prog w base spare held n 3 [c2] = xs[2]? := hf 2 _ rfl
    have g3 : DataW.trod enc' Try.prog w base spare held n 3 [c3] = xs[3]? := hf 3 _ rfl
    have g4 : DataW.trod enc' Try.prog w base spare held n 3 [c4] = xs[4]? := hf 4 _ rfl
    have g5 : DataW.trod enc' Try.prog w base spare held n 22 [c5] = xs[5]? := hf 5 _ rfl
    have hx : xs.length = 6 := by assumption
    rw [List.getElem?_eq_getElem (by omega)] at g0 g1 g2 g3 g4 g5
    obtain ⟨a0, e0, v0, w0⟩ := int_cr Try.underlying3 g0
    obtain ⟨a1, e1, v1, w1⟩ := str_cr Try.underlying9 g1
    obtain ⟨a2, e2, v2, w2⟩ := int_cr Try.underlying3 g2
    obtain ⟨a3, e3, v3, w3⟩ := int_cr Try.underlying3 g3
    obtain ⟨a4, e4, v4, w4⟩ := int_cr Try.underlying3 g4
    obtain ⟨u5, l, e5, v5, o5, hlm, hG⟩ := rows_cr (sz := 6) enc (fun y => Gd y ∧ Gi y) (fun x => by simp) Try.underlying22 (by kernel_rfl) (fun m hm => ih m (by omega)) g5
    simp only [List.cons.injEq, and_true] at e0 e1 e2 e3 e4 e5
    subst e0 e1 e2 e3 e4 e5
    refine ⟨⟨a0, a1, a2, a3, a4, l⟩, ?_, gd_mk hlm w1 (fun y hy => (hG y hy).1), gi_mk ⟨wf_i64 w0, wf_i64 w2, wf_i64 w3, wf_i64 w4⟩ (fun y hy => (hG y hy).2)⟩
    rw [enc_eq]
    exact .cons v0 rfl (.cons v1 rfl (.cons v2 rfl (.cons v3 rfl (.cons v4 rfl (.cons v5 o5 .nil)))))
/-- A tree, as a value. -/
theorem open_nodeP {W : World} {v : Value} {d : DataW H} {p : List MemPlace} (hv : Value.okWide Try.prog W .any base 24 v) (h : DataW.Trod enc' Try.prog w 0 spare held 24 v d p) :
    ∃ x : Nd, VR w (g0 w) (encU x) v ∧ Gd x ∧ Gi x := by
  obtain ⟨cs, rfl, _⟩ := okWide_struct Try.underlying24 hv
  obtain ⟨fuel, hf⟩ := h
  obtain ⟨y, hK, hG⟩ := open_nodeC fuel _ _ hf
  rw [enc_eq] at hK
  refine ⟨y, ?_, hG⟩
  have := CRd.agg hK
  simpa [Value.cells] using this
/-- A list of numbers. -/
theorem open_numsP {W : World} {v : Value} {d : DataW H} {p : List MemPlace} (hv : Value.okWide Try.prog W .any base 31 v) (h : DataW.Trod enc' Try.prog w 0 spare held 31 v d p) :
    ∃ l : List Int, VR w (g0 w) (ints .any l) v ∧ l.length ≤ 2 ^ 63 - 1 ∧ ∀ y ∈ l, I64 y := by
  obtain ⟨a, len, cap, rfl⟩ := okWide_slice Try.underlying31 hv
  obtain ⟨fuel, hf⟩ := h
  obtain ⟨u, l, hcs, hv', _, hl, hG⟩ := rows_cr (sz := 1) (fun n : Int => PV.lit (.int .i64 n)) I64 (fun x => rfl) Try.underlying31 (by kernel_rfl) (fun m hm cs x h => by
    obtain ⟨n, rfl, hv, hw⟩ := int_cr Try.underlying3 h
    exact ⟨n, CRd.one rfl hv rfl, wf_i64 hw⟩) hf
  have he : Value.slice a len cap = u := by simpa [Value.cells] using hcs
  rw [he]
  exact ⟨l, hv', hl, hG⟩
end
end Go.Pv
