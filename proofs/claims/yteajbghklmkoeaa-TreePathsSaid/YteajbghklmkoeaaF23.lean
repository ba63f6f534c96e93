/- tree.At. -/
import Derived.Test.YteajbghklmkoeaaF54
import Derived.Test.YteajbghklmkoeaaF55
namespace Go.Pv
open Go.Proofs
set_option linter.unusedVariables false
set_option linter.unusedSimpArgs false
set_option maxRecDepth 100000
set_option maxHeartbeats 1000000
theorem Al.nil {x : Nd} {v : PV} {D : List (Nat × Blk)} (h : Al [] x v D) : D = [] ∧ v = .vec .any (x.l.map enc) := h
theorem clone0_c (x : Nd) (hx : x.size ≤ 1000000) (s : St) : PCalls Try.prog 55 [encU x] s fun r s' => s' = s ∧ r = .ret (encU x) := by
  refine (clone_c x hx [] (by simp [atN]) s).mono ?_
  rintro _ _ ⟨v, D, rfl, hal, _, _, rfl⟩
  obtain ⟨rfl, rfl⟩ := hal
  exact ⟨rfl, rfl⟩
theorem at_size {x y : Nd} : ∀ {p : List Int}, atN x p = some y → y.size ≤ x.size := by
  intro p
  induction p generalizing x with
  | nil => intro h; cases h; exact Nat.le_refl _
  | cons i p ih =>
    intro h
    obtain ⟨m, z, rfl, hz, h⟩ := at_head h
    have := ih h
    have := Nd.mem_lt (List.mem_of_getElem? hz)
    omega
theorem at_c (x : Nd) (hx : x.size ≤ 1000000) (k : VK) (path : List Int) (hp : path.length ≤ 1000000) (s : St) : PCalls Try.prog 23 [encU x, ints k path] s fun r s' => s' = s ∧
    ((∃ y, atN x path = some y ∧ r = .ret (.tup [encU y, .lit (.int .i64 0)])) ∨ (atN x path = none ∧ r = .ret (.tup [zeroN, .lit (.int .i64 4)]))) := by
  refine PCalls.of Try.func23 rfl (by rfl) (by simp [Try.ntmps23]) ?_
  refine pwC_sound _ _ _ _ ?_
  simp +contextual [Try.ntmps23]
  intro i2 h2 i4 h42 h24 h4
  refine (find_c x hx k path hp _).mono ?_
  rintro _ _ ⟨rfl, (⟨y, hy, rfl⟩ | ⟨hn, rfl⟩)⟩
  · have hys := at_size hy
    simp +contextual [h42, h24]
    intro i6 h62 h26 h64 h46 h6
    refine (clone0_c y (by omega) _).mono ?_
    rintro _ _ ⟨rfl, rfl⟩
    simp [h42, h24, h62, h26, h64, h46, h2, h4, h6, hy]
  · simp +contextual [h42, h24, zeroN]
    intro i6 h62 h26 h64 h46 h6
    simp [h42, h24, h62, h26, h64, h46, h2, h4, h6, hn]
end Go.Pv
