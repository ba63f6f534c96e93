/- The laws' heavy. -/
import Derived.Test.YteajbghklmkoeaaF43
namespace Go.Pv
open Go.Proofs
set_option linter.unusedVariables false
set_option linter.unusedSimpArgs false
set_option maxRecDepth 100000
set_option maxHeartbeats 1000000
theorem PCalls.args' {P : Program} {s s' : St} {f : FuncId} {ps ps' : List PV} {R : Res → St → Prop} (h : PCalls P f ps' s' R) (hc : Conv s ps s' ps') : PCalls P f ps s R := PCalls.args hc h
theorem heavy11_c (kl kv : VK) (l v : List PV) (hl : l.length ≤ 2 ^ 63 - 1) (hv : v.length ≤ 2 ^ 63 - 1) (x : Nd) (hG : Gd x) (s : St) : PCalls Try.prog 11 [.vec kl l, .vec kv v, encU x] s (fun r s' => s' = s ∧ ∃ b, r = .ret (.lit (.bool b)) ∧ (b = false → l.length ≤ 3000 ∧ v.length ≤ 3000 ∧ x.size ≤ 3000)) := by
  refine PCalls.of Try.func11 rfl (by rfl) (by simp [Try.ntmps11]) ?_
  refine pwC_sound _ _ _ _ ?_
  by_cases h1 : l.length ≤ 3000
  · have h1' : ¬ (3000 : Int) < l.length := by omega
    by_cases h2 : v.length ≤ 3000
    · have h2' : ¬ (3000 : Int) < v.length := by omega
      simp +contextual [Try.ntmps11, h1, h1', h2, h2']
      intro i5 h5
      have := (heavy_c [x] (by simp) (by simpa using hG) (s.upd i5 (some (Blk.row 24 6 [encC x])))).args' (Conv.wk (ps := [.vec .tight ([x].map enc), .lit (.int .i64 3000)]) (.cons (.any _ _) (.cons (.refl _) .nil)))
      simp only [List.map_cons, List.map_nil, enc_eq, encU] at this
      refine this.mono ?_
      rintro _ _ ⟨rfl, b, rfl, hb⟩
      cases b
      · have := hb rfl
        simp at this
        simp [this, h1, h2]
        exact sub_upd sub_refl h5
      · simp
        exact sub_upd sub_refl h5
    · have h2' : (3000 : Int) < v.length := by omega
      simp +contextual [Try.ntmps11, h1, h1', h2, h2']
      try exact fun i5 h5 => sub_upd sub_refl h5
  · have h1' : (3000 : Int) < l.length := by omega
    simp +contextual [Try.ntmps11, h1, h1']
    try exact fun i5 h5 => sub_upd sub_refl h5
end Go.Pv
