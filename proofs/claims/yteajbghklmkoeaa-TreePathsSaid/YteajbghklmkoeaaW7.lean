/- The reference's CopyNode and Replace. -/
import Derived.Test.YteajbghklmkoeaaW6
import Derived.Test.YteajbghklmkoeaaF24
namespace Go.Pv
open Go.Proofs
set_option linter.unusedVariables false
set_option linter.unusedSimpArgs false
set_option maxRecDepth 100000
set_option maxHeartbeats 1000000
@[reducible] def rowN (l : List Nd) : List (List PV) := l.map encC
@[reducible] def nodeV (x : Nd) (v : PV) : PV := .agg [.lit (.int .i64 x.op), .lit (.string x.s), .lit (.int .i64 x.n), .lit (.int .i64 x.fr), .lit (.int .i64 x.to), v]
@[reducible] def nodeC (x : Nd) (v : PV) : List PV := [.lit (.int .i64 x.op), .lit (.string x.s), .lit (.int .i64 x.n), .lit (.int .i64 x.fr), .lit (.int .i64 x.to), v]
theorem OwnL.one {ty : TypeId} {base s : St} {els : List (List PV)} {v : PV} {sz : Nat} (h : OwnL ty sz base els v s) : v.width = 1 ∧ v.solid = true ∧ v.cells = [v] := by
  rcases h with ⟨_, rfl, _⟩ | ⟨_, j, _, rfl, _⟩ <;> exact ⟨rfl, rfl, rfl⟩
theorem cnode_of (x : Nd) (h : ∀ s, PCalls Try.prog 73 [.vec .any (x.l.map enc)] s (fun r s' => ∃ v, r = .ret v ∧ OwnL 24 6 s (rowN x.l) v s')) (s : St) :
    PCalls Try.prog 56 [encU x] s (fun r s' => ∃ v, r = .ret (nodeV x v) ∧ OwnL 24 6 s (rowN x.l) v s') := by
  refine PCalls.of Try.func56 rfl (by rfl) (by simp [Try.ntmps56]) ?_
  refine pwC_sound _ _ _ _ ?_
  simp +contextual [Try.ntmps56]
  intro i1 h1 i2 h21 h12 h2
  refine (h _).mono ?_
  rintro _ s' ⟨v, rfl, hO⟩
  have j1 := hO.at (k := i1) (b := .row 24 6 [encC x]) (by simp [h12])
  have j2 := hO.at (k := i2) (b := .row 24 6 [[.lit (.int .i64 0), .lit (.string ⟨#[]⟩), .lit (.int .i64 0), .lit (.int .i64 0), .lit (.int .i64 0), .vec .nil []]]) (by simp [h21])
  have hO2 := (hO.upd (k := i1) (x := some (.row 24 6 [nodeC x v])) (.inr (by simp [h12]))).upd (k := i2) (x := some (.row 24 6 [nodeC x v])) (.inr (by simp [h21]))
  obtain ⟨s2, q1, q2⟩ := hO2.shrink (b := s) ((((sub_refl.upd_of h1).upd_of h2).upd_of h1).upd_of h2)
  simp [h12, h21, j1, j2, hO.one.1, hO.one.2.1, hO.one.2.2]
  exact ⟨s2, q1, q2⟩
theorem cnodeQ_of (x : Nd) (h : ∀ s, PCalls Try.prog 73 [.vec .any (x.l.map enc)] s (fun r s' => ∃ v, r = .ret v ∧ OwnL 24 6 s (rowN x.l) v s')) (s : St) :
    PCalls Try.prog 56 [encU x] s (fun r s' => s' = s ∧ r = .ret (encU x)) := by
  refine PCalls.conv (cnode_of x h s) ?_ ?_
  · rintro p s' ⟨v, hv, hO⟩
    cases hv
    exact ⟨_, _, Conv.ownAgg hO (xs := x.l.map enc) (enc_cells' _) [.lit (.int .i64 x.op), .lit (.string x.s), .lit (.int .i64 x.n), .lit (.int .i64 x.fr), .lit (.int .i64 x.to)] [] (by simp) (by simp), rfl, rfl⟩
  · rintro c s' ⟨v, hv, _⟩
    cases hv
theorem cnodes_c (l : List Nd) (hl : (l.map Nd.size).sum ≤ 1000000) (s : St) : PCalls Try.prog 73 [.vec .any (l.map enc)] s (fun r s' => ∃ v, r = .ret v ∧ OwnL 24 6 s (rowN l) v s') := by
  refine PCalls.of Try.func73 rfl (by rfl) (by simp [Try.ntmps73]) ?_
  refine PW.cutR fun R hR hC => ?_
  simp [Try.ntmps73]
  refine hR _ _ ?_
  clear hR hC R
  refine PW.cutR fun R hR hC => ?_
  simp
  refine hR _ _ ?_
  clear hR hC R
  refine PW.cutR fun R hR hC => ?_
  simp
  have hll := len_le_size l
  refine PW.loop (fun n e s' => ∃ j : Nat, j + n = l.length ∧ e 0 = .vec .any (l.map enc) ∧ e 4 = .lit (.int .i64 j) ∧ OwnL 24 6 s (rowN (l.take j)) (e 3) s') l.length ⟨0, by omega, by simp, by simp, by simpa using OwnL.nil _ _ _⟩ ?_
  rintro n e s' ⟨j, hj, e0, e4, hO⟩
  refine pwC_sound _ _ _ _ ?_
  by_cases hlt : j < l.length
  · have hlt' : (j : Int) < l.length := by omega
    have hg : l[j]? = some l[j] := List.getElem?_eq_getElem hlt
    have hm := mem_le_sum (List.getElem_mem hlt)
    have hsz := l[j].size_eq
    have w1 : IntKind.i64.wrap ((j : Int) + 1) = ((j + 1 : Nat) : Int) := by rw [wrap_i64 (by omega) (by omega)]; omega
    generalize hv : e 3 = v at hO
    simp [e0, e4, hv, hlt, hlt', hg]
    refine (cnodeQ_of l[j] (fun s => cnodes_c l[j].l (by omega) s) _).mono ?_
    rintro _ _ ⟨rfl, rfl⟩
    simp [e0, e4, hv, hlt, hlt', hg]
    refine appOwn (b := 72) (z := .agg #[.int .i64 0, .string ⟨#[]⟩, .int .i64 0, .int .i64 0, .int .i64 0, .slice none 0 0]) (ys := [encC l[j]]) hO (by simp) (by simp) (by simp) (by simp) rfl (by omega) (by simp) (fun s => by simp [elemsOf]) (by simp; omega) (fun v1 s1 hO1 => ?_)
    simp [e0, e4, hv, w1]
    refine ⟨n - 1, by omega, j + 1, by omega, by omega, ?_⟩
    have hr : rowN (l.take j) ++ [encC l[j]] = rowN (l.take (j + 1)) := by rw [List.take_succ_eq_append_getElem hlt]; simp only [rowN, List.map_append, List.map_cons, List.map_nil]
    rw [hr] at hO1
    simpa using hO1
  · have hjl : j = l.length := by omega
    subst hjl
    rw [List.take_length] at hO
    simp [e0, e4]
    refine hR _ _ ?_
    refine pwC_sound _ _ _ _ ?_
    simp
    exact ⟨s', sub_refl, hO⟩
termination_by (l.map Nd.size).sum
decreasing_by omega
theorem slc_tail (k : VK) (i : Int) (l : List Int) : slc Try.prog 31 (ints k (i :: l)) (some (.lit (.int .i64 1))) none = some (ints k l) := by
  cases k <;> simp [slc, bound] <;> rw [List.take_of_length_le (by simp)]
theorem rreplace_c (x : Nd) (hx : x.size ≤ 1000000) (k : VK) (path : List Int) (hp : path.length ≤ 1000000) (m : Nd) (hm : m.size ≤ 1000000) (s : St) : PCalls Try.prog 27 [encU x, ints k path, encU m] s fun r s' => s' = s ∧
    ((∃ y x', atN x path = some y ∧ repN x path m = some x' ∧ r = .ret (.tup [encU x', .lit (.int .i64 0)])) ∨ (atN x path = none ∧ r = .ret (.tup [zeroN, .lit (.int .i64 4)]))) := by
  have hmz := m.size_eq
  have hxz := x.size_eq
  refine PCalls.conv (R := fun r s' => (s' = s ∧ ((∃ y x', atN x path = some y ∧ repN x path m = some x' ∧ r = .ret (.tup [encU x', .lit (.int .i64 0)])) ∨ (atN x path = none ∧ r = .ret (.tup [zeroN, .lit (.int .i64 4)])))) ∨
    (∃ j l' y, Fresh s j ∧ atN x path = some y ∧ repN x path m = some { x with l := l' } ∧ r = .ret (.tup [nodeV x (.sl j 6 0 l'.length), .lit (.int .i64 0)]) ∧ s' = s.upd j (some (.row 24 6 (rowN l'))))) ?_ ?_ ?_
  · refine PCalls.of Try.func27 rfl (by rfl) (by simp [Try.ntmps27]) ?_
    refine PW.cutR fun R hR hC => ?_
    simp +contextual [Try.ntmps27]
    intro i3 h3 i5 h53 h35 h5 i6 h65 h56 h63 h36 h6
    refine hR _ _ ?_
    clear hR hC R
    refine PW.cutR fun R hR hC => ?_
    cases path with
    | nil =>
      simp [h53, h35, h65, h56, h63, h36]
      refine (cnodeQ_of m (fun s => cnodes_c m.l (by omega) s) _).mono ?_
      rintro _ _ ⟨rfl, rfl⟩
      simp [h53, h35, h65, h56, h63, h36, atN, repN]
      exact ((sub_refl.upd_of h3).upd_of h5).upd_of h6
    | cons i p =>
      have hpl : ¬ (p.length : Int) + 1 = 0 := by omega
      simp [h53, h35, h65, h56, h63, h36, hpl]
      refine hR _ _ ?_
      clear hR hC R
      generalize hσ : St.upd (St.upd (St.upd s i3 _) i5 _) i6 _ = σ
      have b3 : σ i3 = some (.row 24 6 [encC x]) := by rw [← hσ]; simp [h53, h35, h65, h56, h63, h36]
      have b5 : σ i5 = some (.row 24 6 [encC m]) := by rw [← hσ]; simp [h53, h35, h65, h56, h63, h36]
      have b6 : σ i6 = some (.row 24 6 [[.lit (.int .i64 0), .lit (.string ⟨#[]⟩), .lit (.int .i64 0), .lit (.int .i64 0), .lit (.int .i64 0), .vec .nil []]]) := by rw [← hσ]; simp
      have hs : s.sub σ := by rw [← hσ]; exact ((sub_refl.upd_of h3).upd_of h5).upd_of h6
      clear hσ
      generalize hE : Env.put _ _ _ = E
      have g1 : E 1 = ints k (i :: p) := by rw [← hE]; simp
      have g3 : E 3 = .pt i3 0 0 := by rw [← hE]; simp
      have g5 : E 5 = .pt i5 0 0 := by rw [← hE]; simp
      have g6 : E 6 = .pt i6 0 0 := by rw [← hE]; simp
      clear hE
      refine PW.cutR fun R hR hC => ?_
      simp
      refine PW.drawn (fun i => 0) [0, 1, 2, 3, 4, 5, 6, 7, 8, 9, 10, 11, 12] mixed_ (fun _ _ _ _ h => h) (by kernel_rfl) ?_
      by_cases h0 : i < 0
      · have hat : atN x (i :: p) = none := by rw [atN, if_neg (by omega)]
        simp [g1, g3, g5, g6, b3, b5, b6, h0, hat]
        exact ⟨s, hs.set h6, rfl, rfl⟩
      · obtain ⟨q, hq⟩ := Int.eq_ofNat_of_zero_le (show 0 ≤ i by omega)
        subst hq
        have hcl := x.len_lt
        by_cases hin : q < x.l.length
        · have hg : x.l[q]? = some x.l[q] := List.getElem?_eq_getElem hin
          have hge : ¬ x.l.length ≤ q := by omega
          have hms := Nd.mem_lt (List.getElem_mem hin)
          have hat : atN x ((q : Int) :: p) = atN x.l[q] p := by simp [atN, hg]
          have hq0 : ¬ (q : Int) < 0 := by omega
          simp [g1, g3, g5, g6, b3, b5, b6, hin, hg, hge, hq0]
          refine hR _ _ ?_
          clear hR hC R
          generalize hE : Env.put _ _ _ = E'
          have f1 : E' 1 = ints k ((q : Int) :: p) := by rw [← hE]; simp [g1]
          have f3 : E' 3 = .pt i3 0 0 := by rw [← hE]; simp [g3]
          have f5 : E' 5 = .pt i5 0 0 := by rw [← hE]; simp [g5]
          have f6 : E' 6 = .pt i6 0 0 := by rw [← hE]; simp [g6]
          clear hE g1 g3 g5 g6 E
          have hpl2 : p.length ≤ 1000000 := by simp at hp; omega
          have ih := fun k s => rreplace_c x.l[q] (by omega) k p hpl2 m hm s
          refine PW.cutR fun R hR hC => ?_
          refine PW.drawn (fun i => match i with | 10 => 4 | _ => 0) [0, 1, 2, 3, 4, 5, 6, 7, 8, 9, 10, 11, 12, 13, 14, 15, 16] mixed_ (fun _ _ _ _ h => h) (by kernel_rfl) ?_
          simp [f1, f3, f5, f6, b3, b5, b6, hin, hg, hge, hq0, slc_tail]
          cases hya : atN x.l[q] p with
          | none =>
            have hat0 : atN x ((q : Int) :: p) = none := by rw [hat, hya]
            refine steady_of (v := .tup [zeroN, .lit (.int .i64 4)]) (fun s => (ih k s).mono fun r s' ⟨h1, h⟩ => ⟨h1, by
              rcases h with ⟨y, x', h2, _⟩ | ⟨_, h2⟩
              · rw [hya] at h2; cases h2
              · exact h2⟩) ?_
            simp [f1, f3, f5, f6, zeroN]
            intro i8 h8
            refine hR _ _ ?_
            clear hR hC R
            refine pwC_sound _ _ _ _ ?_
            have n68 := fresh_ne h8 b6
            simp [f6, b6, n68, n68.symm]
            exact ⟨s, (hs.upd h8).set h6, rfl, hat0, rfl⟩
          | some y0 =>
            obtain ⟨x1, hx1⟩ := at_rep hya m
            refine steady_of (v := .tup [encU x1, .lit (.int .i64 0)]) (fun s => (ih k s).mono fun r s' ⟨h1, h⟩ => ⟨h1, by
              rcases h with ⟨y, x', h2, h3, h4⟩ | ⟨h2, _⟩
              · rw [hx1] at h3; cases h3; exact h4
              · rw [hya] at h2; cases h2⟩) ?_
            simp [f1, f3, f5, f6]
            intro i8 h8
            refine hR _ _ ?_
            clear hR hC R
            generalize hE : Env.put _ _ _ = E
            have g1 : E 1 = ints k ((q : Int) :: p) := by rw [← hE]; simp [f1]
            have g3 : E 3 = .pt i3 0 0 := by rw [← hE]; simp [f3]
            have g6 : E 6 = .pt i6 0 0 := by rw [← hE]; simp [f6]
            have g8 : E 8 = .pt i8 0 0 := by rw [← hE]; simp
            have g9 : E 9 = .lit (.int .i64 0) := by rw [← hE]; simp
            clear hE f1 f3 f5 f6 E'
            have n63 : i6 ≠ i3 := h63
            have n83 := fresh_ne h8 b3
            have n86 := fresh_ne h8 b6
            have hs8 : s.sub (σ.upd i8 (some (.row 24 6 [encC x1]))) := hs.upd h8
            generalize hσ : St.upd σ i8 _ = σ1 at *
            have d3 : σ1 i3 = some (.row 24 6 [encC x]) := by rw [← hσ]; simp [n83.symm, b3]
            have d6 : σ1 i6 = some (.row 24 6 [[.lit (.int .i64 0), .lit (.string ⟨#[]⟩), .lit (.int .i64 0), .lit (.int .i64 0), .lit (.int .i64 0), .vec .nil []]]) := by rw [← hσ]; simp [n86.symm, b6]
            have d8 : σ1 i8 = some (.row 24 6 [encC x1]) := by rw [← hσ]; simp
            clear hσ b3 b5 b6
            refine PW.cutR fun R hR hC => ?_
            simp [g9]
            refine hR _ _ ?_
            clear hR hC R
            refine PW.cutR fun R hR hC => ?_
            simp [g3, d3]
            refine (cnode_of x (fun s => cnodes_c x.l (by omega) s) _).mono ?_
            rintro _ s2 ⟨v, rfl, hO⟩
            have u3 := hO.at d3
            have hne : x.l ≠ [] := fun e => by rw [e] at hin; simp at hin
            rcases hO with ⟨h0, _⟩ | ⟨_, j, hj, rfl, rfl⟩
            · exact absurd h0 (by simpa using hne)
            have nj3 := fresh_ne hj d3
            have nj6 := fresh_ne hj d6
            have nj8 := fresh_ne hj d8
            simp [g3, d3, nj3.symm]
            refine hR _ _ ?_
            clear hR hC R
            refine PW.cutR fun R hR hC => ?_
            refine PW.drawn (fun i => 0) [0, 2, 3, 1, 4, 5, 6, 7] mixed_ (fun _ _ _ _ h => h) (by kernel_rfl) ?_
            simp [g1, g3, g6, g8, d3, d6, d8, nj3, nj6, nj8, nj3.symm, nj6.symm, nj8.symm, n63, n63.symm, n83, n83.symm, n86, n86.symm, hin]
            refine hR _ _ ?_
            clear hR hC R
            refine pwC_sound _ _ _ _ ?_
            simp [g1, g3, g6, g8, d3, d6, d8, nj3, nj6, nj8, nj3.symm, nj6.symm, nj8.symm, n63, n63.symm, n83, n83.symm, n86, n86.symm, hin]
            have sj : Fresh s j := hs8.fresh hj
            refine ⟨s.upd j (some (.row 24 6 ((rowN x.l).set q (encC x1)))), fun a z ha => ?_, j, sj, ⟨y0, by rw [hat, hya]⟩, x.l.set q x1, by simp [repN, hg, hx1], ⟨rfl, by simp⟩, by rw [show rowN (x.l.set q x1) = (rowN x.l).set q (encC x1) from List.map_set]⟩
            by_cases a1 : a = j
            · subst a1
              rw [St.upd_same] at ha
              rw [St.upd_ne _ _ nj6, St.upd_same]
              exact ha
            · rw [St.upd_ne _ _ a1] at ha
              have a3 : a ≠ i3 := fun e => by rw [e, show s i3 = none from h3] at ha; cases ha
              have a6 : a ≠ i6 := fun e => by rw [e, show s i6 = none from h6] at ha; cases ha
              rw [St.upd_ne _ _ a6, St.upd_ne _ _ a1, St.upd_ne _ _ a3, St.upd_ne _ _ a1]
              exact hs8 a z ha
        · have hg : x.l[q]? = none := List.getElem?_eq_none (by omega)
          have hge : x.l.length ≤ q := by omega
          have hat : atN x ((q : Int) :: p) = none := by simp [atN, hg]
          simp [g1, g3, g5, g6, b3, b5, b6, hin, hg, hge, hat]
          exact ⟨s, hs.set h6, rfl, rfl⟩
  · rintro p' s' (⟨rfl, h⟩ | ⟨j, l', y, hj, h1, h2, h3, rfl⟩)
    · exact ⟨_, _, Conv.refl _ _, rfl, h⟩
    · cases h3
      have := Conv.freezeT (s := s.upd j (some (.row 24 6 (rowN l')))) (i := j) (St.upd_same _ _ _) (enc_cells' l') [nodeV x (.sl j 6 0 l'.length), .lit (.int .i64 0)] (fun a z o n hm _ => by
        rcases hm with hm | ⟨cs, hm, hc⟩
        · simp at hm
        · simp at hm
          subst hm
          simp at hc
          obtain ⟨_, _, rfl, rfl⟩ := hc
          simp)
      rw [St.upd_upd, St.upd_none hj] at this
      refine ⟨_, _, this, rfl, .inl ⟨y, _, h1, h2, ?_⟩⟩
      simp [fz, fz1]
      rw [List.take_of_length_le (by simp)]
  · rintro c s' (⟨_, (⟨_, _, _, _, h⟩ | ⟨_, h⟩)⟩ | ⟨_, _, _, _, _, _, h, _⟩) <;> cases h
termination_by path.length
end Go.Pv
