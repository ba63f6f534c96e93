/- The law TreeSwaps answers true. -/
import Derived.Test.YteajbghklmkoeaaF11
import Derived.Test.YteajbghklmkoeaaF12
import Derived.Test.YteajbghklmkoeaaF15
import Derived.Test.YteajbghklmkoeaaF24
import Derived.Test.YteajbghklmkoeaaOp06
namespace Go.Pv
open Go.Proofs
set_option linter.unusedVariables false
set_option linter.unusedSimpArgs false
set_option maxRecDepth 100000
set_option maxHeartbeats 1000000
theorem sum_set {l : List Nat} {k a : Nat} (h : k < l.length) : (l.set k a).sum + l[k] = l.sum + a := by
  induction l generalizing k with
  | nil => simp at h
  | cons b l ih =>
    cases k with
    | zero => simp; omega
    | succ k => have := ih (k := k) (by simpa using h); simp; omega
theorem rep_facts {x m y x' : Nd} {p : List Int} (hy : atN x p = some y) (hx : repN x p m = some x') : atN x' p = some m ∧ repN x' p y = some x ∧ x'.size + y.size = x.size + m.size ∧ x'.size ≤ x.size + m.size := by
  induction p generalizing x x' with
  | nil => cases hy; cases hx; exact ⟨rfl, rfl, by omega, by omega⟩
  | cons i p ih =>
    obtain ⟨k, z, rfl, hz, hy⟩ := at_head hy
    simp only [repN, Int.natCast_nonneg, if_true, Int.toNat_natCast, hz] at hx
    obtain ⟨z', hz', rfl⟩ := Option.map_eq_some_iff.1 hx
    obtain ⟨h1, h2, h3, h4⟩ := ih hy hz'
    have hk := (List.getElem?_eq_some_iff.1 hz).1
    have hsum := sum_set (l := x.l.map Nd.size) (k := k) (a := z'.size) (by simpa using hk)
    have hzs : (x.l.map Nd.size)[k]'(by simpa using hk) = z.size := by
      rw [List.getElem_map]; congr 1; exact (List.getElem?_eq_some_iff.1 hz).2
    rw [hzs] at hsum
    refine ⟨by simp [atN, hk, h1], ?_, ?_, ?_⟩
    · simp [repN, hk, h2, List.set_set]
      obtain ⟨op, s, n, fr, to, l⟩ := x
      simp only [Nd.mk.injEq, true_and]
      exact set_same hz
    · rw [Nd.size_eq, x.size_eq]; simp only [List.map_set]; omega
    · rw [Nd.size_eq, x.size_eq]; simp only [List.map_set]; omega
theorem swaps_c (x m : Nd) (hx : Gd x) (hm : Gd m) (k : VK) (path : List Int) (hp : path.length ≤ 2 ^ 63 - 1) (s : St) : PCalls Try.prog 7 [encU x, encU m, ints k path] s (fun r s' => s' = s ∧ r = .ret (.lit (.bool true))) := by
  refine PCalls.of Try.func7 rfl (by rfl) (by simp [Try.ntmps7]) ?_
  refine pwC_sound _ _ _ _ ?_
  refine pwC_cut fun K hK => ?_
  simp [Try.ntmps7]
  intro i3 h3 i4 h43 h34 h4
  refine hK _ _ ?_
  clear hK K
  refine pwC_cut fun K hK => ?_
  simp [h43, h34]
  refine (heavy11_c .nil .nil [] [] (by simp) (by simp) x hx _).mono ?_
  rintro _ _ ⟨rfl, b, rfl, hb⟩
  have aw : ∀ s', s.sub s' → PCalls Try.prog 12 [] s' (fun r s'' => s'' = s' ∧ r = .ret (.lit (.bool true))) := fun s' _ => awake_c s'
  cases b with
  | true =>
    simp [h43, h34]
    refine (awake_c _).mono ?_
    rintro _ _ ⟨rfl, rfl⟩
    simp [h3, h4, h43, h34]
  | false =>
    obtain ⟨-, -, hxs⟩ := hb rfl
    simp [h43, h34]
    refine (heavy11_c .nil .nil [] [] (by simp) (by simp) m hm _).mono ?_
    rintro _ _ ⟨rfl, b, rfl, hb⟩
    cases b with
    | true =>
      simp [h43, h34]
      refine (awake_c _).mono ?_
      rintro _ _ ⟨rfl, rfl⟩
      simp [h3, h4, h43, h34]
    | false =>
      obtain ⟨-, -, hms⟩ := hb rfl
      by_cases hpl : path.length ≤ 100
      · have hpl' : ¬ (100 : Int) < path.length := by omega
        simp [h43, h34, hpl, hpl']
        refine hK _ _ ?_
        clear hK K aw hb
        generalize hσ : St.upd (St.upd s i3 _) i4 _ = σ
        have b3 : σ i3 = some (.row 24 6 [encC x]) := by rw [← hσ]; simp [h43, h34]
        have b4 : σ i4 = some (.row 24 6 [encC m]) := by rw [← hσ]; simp [h43, h34]
        have hs : s.sub σ := by rw [← hσ]; simp [h3, h4, h43, h34]
        clear hσ
        refine pwC_cut fun K hK => ?_
        simp [b3, b4]
        refine (at_c x (by omega) k path (by omega) _).mono ?_
        rintro _ _ ⟨rfl, (⟨y, hy, rfl⟩ | ⟨hn, rfl⟩)⟩
        · simp
          intro i7 h7
          have n73 := fresh_ne h7 b3
          have n74 := fresh_ne h7 b4
          refine hK _ _ ?_
          clear hK K
          refine pwC_cut fun K hK => ?_
          simp [b3, b4, n73.symm, n74.symm]
          obtain ⟨x', hx'⟩ := at_rep hy m
          refine (replace_c x (by omega) k path (by omega) m (by omega) _).mono ?_
          rintro _ _ ⟨rfl, (⟨y2, x2, hy2, hx2, rfl⟩ | ⟨hn, rfl⟩)⟩
          · rw [hy] at hy2; cases hy2
            rw [hx'] at hx2; cases hx2
            simp
            intro i9 h97 h79 h9
            have n93 := fresh_ne h9 b3
            have n94 := fresh_ne h9 b4
            refine hK _ _ ?_
            clear hK K
            generalize hσ' : St.upd (St.upd _ i7 _) i9 _ = σ'
            have f7 := hs.fresh h7
            have f9 := hs.fresh h9
            have d3 : σ' i3 = some (.row 24 6 [encC x]) := by rw [← hσ']; simp [n73.symm, n93.symm, b3]
            have d4 : σ' i4 = some (.row 24 6 [encC m]) := by rw [← hσ']; simp [n74.symm, n94.symm, b4]
            have d7 : σ' i7 = some (.row 24 6 [encC y]) := by rw [← hσ']; simp [h79]
            have d9 : σ' i9 = some (.row 24 6 [encC x']) := by rw [← hσ']; simp [h97]
            have hs' : s.sub σ' := by rw [← hσ']; exact (hs.set f7).set f9
            clear hσ'
            refine pwC_cut fun K hK => ?_
            simp
            refine hK _ _ ?_
            clear hK K
            obtain ⟨xs1, xs2, xs3, xs4⟩ := rep_facts hy hx'
            refine pwC_cut fun K hK => ?_
            simp [d9]
            refine (at_c x' (by omega) k path (by omega) _).mono ?_
            rintro _ _ ⟨rfl, (⟨y2, hy2, rfl⟩ | ⟨hn, rfl⟩)⟩
            · rw [xs1] at hy2; cases hy2
              simp
              intro i11 h11
              have n3 := fresh_ne h11 d3
              have n4 := fresh_ne h11 d4
              have n7 := fresh_ne h11 d7
              have n9 := fresh_ne h11 d9
              refine hK _ _ ?_
              clear hK K
              refine pwC_cut fun K hK => ?_
              simp [d9, d7, n9.symm, n7.symm]
              refine (replace_c x' (by omega) k path (by omega) y (by omega) _).mono ?_
              rintro _ _ ⟨rfl, (⟨y2, x2, hy2, hx2, rfl⟩ | ⟨hn, rfl⟩)⟩
              · rw [xs2] at hx2; cases hx2
                simp
                intro i13 m1 m2 h13
                have p3 := fresh_ne h13 d3
                have p4 := fresh_ne h13 d4
                have p7 := fresh_ne h13 d7
                have p9 := fresh_ne h13 d9
                refine hK _ _ ?_
                clear hK K
                refine pwC_cut fun K hK => ?_
                generalize hσ'' : St.upd (St.upd _ i11 _) i13 _ = σ''
                have e3 : σ'' i3 = some (.row 24 6 [encC x]) := by rw [← hσ'']; simp [n3.symm, p3.symm, d3]
                have e4 : σ'' i4 = some (.row 24 6 [encC m]) := by rw [← hσ'']; simp [n4.symm, p4.symm, d4]
                have e7 : σ'' i7 = some (.row 24 6 [encC y]) := by rw [← hσ'']; simp [n7.symm, p7.symm, d7]
                have e9 : σ'' i9 = some (.row 24 6 [encC x']) := by rw [← hσ'']; simp [n9.symm, p9.symm, d9]
                have e11 : σ'' i11 = some (.row 24 6 [encC m]) := by rw [← hσ'']; simp [m1, m2]
                have e13 : σ'' i13 = some (.row 24 6 [encC x]) := by rw [← hσ'']; simp [m1, m2]
                have hs2 : s.sub σ'' := by rw [← hσ'']; exact (hs'.set (hs'.fresh h11)).set (hs'.fresh h13)
                clear hσ''
                simp
                generalize hE : Env.put _ _ _ = E
                have g3 : E 3 = .pt i3 0 0 := by rw [← hE]; simp
                have g4 : E 4 = .pt i4 0 0 := by rw [← hE]; simp
                have g7 : E 7 = .pt i7 0 0 := by rw [← hE]; simp
                have g9 : E 9 = .pt i9 0 0 := by rw [← hE]; simp
                have g11 : E 11 = .pt i11 0 0 := by rw [← hE]; simp
                have g13 : E 13 = .pt i13 0 0 := by rw [← hE]; simp
                have g12 : E 12 = .lit (.int .i64 0) := by rw [← hE]; simp
                have g14 : E 14 = .lit (.int .i64 0) := by rw [← hE]; simp
                clear hE
                refine PW.drawn (fun i => match i with | 9 => 1 | 14 => 1 | 18 => 1 | 20 => 1 | 22 => 1 | 25 => 1 | 30 => 1 | _ => 0) (List.range 33) mixed_ (fun _ _ _ _ h => h) (by kernel_rfl) ?_
                rw [show List.range 33 = [0, 1, 2, 3, 4, 5, 6, 7, 8, 9, 10, 11, 12, 13, 14, 15, 16, 17, 18, 19, 20, 21, 22, 23, 24, 25, 26, 27, 28, 29, 30, 31, 32] from rfl]
                simp [e3, e4, e7, e9, e11, e13, g3, g4, g7, g9, g11, g13, g12, g14]
                refine quiet_of (eqnode_c m (by omega) true _) ?_
                simp [e3, e4, e7, e9, e11, e13, g3, g4, g7, g9, g11, g13, g12, g14]
                refine quiet_of (eqnode_c x (by omega) true _) ?_
                simp [e3, e4, e7, e9, e11, e13, g3, g4, g7, g9, g11, g13, g12, g14]
                refine quiet_of (size_c x' (by omega) _) ?_
                simp [e3, e4, e7, e9, e11, e13, g3, g4, g7, g9, g11, g13, g12, g14]
                refine quiet_of (size_c x (by omega) _) ?_
                simp [e3, e4, e7, e9, e11, e13, g3, g4, g7, g9, g11, g13, g12, g14]
                refine quiet_of (size_c y (by omega) _) ?_
                simp [e3, e4, e7, e9, e11, e13, g3, g4, g7, g9, g11, g13, g12, g14]
                refine quiet_of (size_c m (by omega) _) ?_
                have w1 : IntKind.i64.wrap ((x.size : Int) - y.size) = x.size - y.size := wrap_i64 (by omega) (by omega)
                have w2 : IntKind.i64.wrap ((x.size : Int) - y.size + m.size) = x.size - y.size + m.size := wrap_i64 (by omega) (by omega)
                have w3 : (x'.size : Int) = x.size - y.size + m.size := by omega
                simp [e3, e4, e7, e9, e11, e13, g3, g4, g7, g9, g11, g13, g12, g14, w1, w2, w3]
                refine quiet_of (awake_c _) ?_
                simp [e3, e4, e7, e9, e11, e13, g3, g4, g7, g9, g11, g13, g12, g14]
                refine hK _ _ ?_
                simp [hs2]
              · rw [xs1] at hn; cases hn
            · rw [xs1] at hn; cases hn
          · rw [hy] at hn; cases hn
        · simp [zeroN]
          intro i7 h7
          have n73 := fresh_ne h7 b3
          have n74 := fresh_ne h7 b4
          refine hK _ _ ?_
          clear hK K
          refine pwC_cut fun K hK => ?_
          simp [b3, b4, n73.symm, n74.symm]
          refine (replace_c x (by omega) k path (by omega) m (by omega) _).mono ?_
          rintro _ _ ⟨rfl, (⟨y2, x2, hy2, hx2, rfl⟩ | ⟨hn', rfl⟩)⟩
          · rw [hn] at hy2; cases hy2
          · simp [zeroN]
            intro i9 h97 h79 h9
            refine hK _ _ ?_
            clear hK K
            refine pwC_cut fun K hK => ?_
            simp
            refine (awake_c _).mono ?_
            rintro _ _ ⟨rfl, rfl⟩
            have f7 := hs.fresh h7
            have f9 := hs.fresh h9
            simp
            exact (hs.set f7).set f9
      · have hpl' : (100 : Int) < path.length := by omega
        simp [h43, h34, hpl, hpl']
        refine (awake_c _).mono ?_
        rintro _ _ ⟨rfl, rfl⟩
        simp [h3, h4, h43, h34]
theorem treeSwaps_c (x : Nd) (hx : Gd x) (_ : Gi x) (m : Nd) (hm : Gd m) (_ : Gi m) (path : List Int) (hp : path.length ≤ 2 ^ 63 - 1) (_ : ∀ y ∈ path, I64 y) (s : St) : PCalls Try.prog 7 [encU x, encU m, ints .any path] s (fun r s' => s' = s ∧ r = .ret (.lit (.bool true))) := swaps_c x m hx hm .any path hp s
end Go.Pv
