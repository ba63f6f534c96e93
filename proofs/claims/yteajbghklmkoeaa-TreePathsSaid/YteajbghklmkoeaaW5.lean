/- The reference's Paths. -/
import Derived.Test.YteajbghklmkoeaaW4
import Derived.Test.YteajbghklmkoeaaPv21
namespace Go.Pv
open Go.Proofs
set_option linter.unusedVariables false
set_option linter.unusedSimpArgs false
set_option maxRecDepth 100000
set_option maxHeartbeats 1000000
theorem opPaths_append (op : Int) (a b : List (List Int × Nd)) : opPaths op (a ++ b) = opPaths op a ++ opPaths op b := by simp [opPaths]
theorem opPaths_le (op : Int) (l : List (List Int × Nd)) : (opPaths op l).length ≤ l.length := by unfold opPaths; rw [List.length_map]; exact List.length_filter_le _ _
theorem rowL_snoc (l : List (List Int)) (p : List Int) : rowL (l ++ [p]) = rowL l ++ [[ints .any p]] := by simp
theorem gath_app {base1 s1 s2 : St} {acc : List (List Int)} {p : List Int} {v v1 : PV} {K' : PV → St → Prop} (hO1 : OwnL 31 1 base1 (rowL acc) v s1) (hT : OwnT 3 1 s1 (rowI p) v1 s2) (hacc : acc.length ≤ 2000000) (hK' : ∀ v3 s3 s4, Conv s3 [] s4 [] → OwnL 31 1 base1 (rowL (acc ++ [p])) v3 s4 → K' v3 s3) :
    appW Try.prog s2 46 46 v (.vec .tight [v1]) K' := by
  rcases hT with ⟨hp0, rfl, rfl⟩ | ⟨hp0, j, hj, rfl, rfl⟩
  · have hp : p = [] := by simpa using hp0
    subst hp
    refine appOwn (b := 24) (z := .slice none 0 0) (ys := [[.vec .tight []]]) hO1 (by simp) (by simp) (by simp) (by simp) rfl (by omega) (by simp) (fun s => by simp [elemsOf]) (by simp; omega) (fun v3 s3 hO3 => ?_)
    rcases hO3 with ⟨hnil, _⟩ | ⟨_, j', hj', rfl, rfl⟩
    · simp at hnil
    · refine hK' _ _ _ (Conv.wkBlk (els' := rowL (acc ++ [[]])) (St.upd_same _ _ _) (by simp) (fun m cs hm => ?_)) ?_
      · rw [rowL_snoc]
        by_cases hlt : m < (rowL acc).length
        · rw [List.getElem?_append_left hlt] at hm ⊢
          exact ⟨cs, hm, rfl, fun f c c' hc hc' => by rw [hc] at hc'; cases hc'; exact .refl _⟩
        · rw [List.getElem?_append_right (by omega)] at hm ⊢
          cases hd : m - (rowL acc).length with
          | zero =>
            rw [hd] at hm
            cases hm
            refine ⟨_, rfl, rfl, fun f c c' hc hc' => ?_⟩
            cases f with
            | zero => cases hc; cases hc'; exact .any .tight []
            | succ f => simp at hc
          | succ d => (rw [hd] at hm; simp at hm)
      · rw [St.upd_upd, rowL_snoc]
        exact .inr ⟨by simp, j', hj', by simp, rfl⟩
  · have hp : p ≠ [] := by simpa using hp0
    have hO2 := hO1.upd (k := j) (x := some (.row 3 1 (rowI p))) (.inl hj)
    refine appOwn (b := 24) (z := .slice none 0 0) (ys := [[.sl j 1 0 (rowI p).length]]) hO2 (by simp) (by simp) (by simp) (by simp) rfl (by omega) (by simp) (fun s => by simp [elemsOf]) (by simp; omega) (fun v3 s3 hO3 => ?_)
    rcases hO3 with ⟨hnil, _⟩ | ⟨_, j', hj', rfl, rfl⟩
    · simp at hnil
    · have hjj : j ≠ j' := fun e => by subst e; simp [Fresh] at hj'
      have hbj : Fresh base1 j := hO1.sub.fresh hj
      have hbj' : Fresh base1 j' := by unfold Fresh at hj' ⊢; rwa [St.upd_ne _ _ hjj.symm] at hj'
      have h1 : ((base1.upd j (some (.row 3 1 (rowI p)))).upd j' (some (.row 31 1 (rowL acc ++ [[.sl j 1 0 (rowI p).length]])))) j = some (.row 3 1 (rowI p)) := by rw [St.upd_ne _ _ hjj, St.upd_same]
      refine hK' _ _ _ (Conv.drop0 (p := [.lit (.bool true)]) (Conv.inner (m := (rowL acc).length) (cs := [.sl j 1 0 (rowI p).length]) hjj h1 (cells_ints p) (St.upd_same _ _ _) (by simp) (fun a z o l hm _ => by simp at hm; obtain ⟨_, _, rfl, rfl⟩ := hm; simp) _)) ?_
      rw [St.upd_comm _ _ _ hjj.symm, St.upd_upd, St.upd_upd, St.upd_none hbj]
      have hset : (rowL acc ++ [[PV.sl j 1 0 (rowI p).length]]).set (rowL acc).length (List.map (fz1 j (List.map (fun n => PV.lit (Value.int IntKind.i64 n)) p)) [PV.sl j 1 0 (rowI p).length]) = rowL (acc ++ [p]) := by
        rw [rowL_snoc, List.set_append_right _ _ (Nat.le_refl _), Nat.sub_self]
        simp [fz1]
        rw [List.take_of_length_le (by simp)]
      rw [hset, rowL_snoc]
      exact .inr ⟨by simp, j', hbj', by simp, rfl⟩
theorem OwnT.one {ty : TypeId} {base s : St} {els : List (List PV)} {v : PV} {sz : Nat} (h : OwnT ty sz base els v s) : v.width = 1 ∧ v.solid = true := by
  rcases h with ⟨_, rfl, _⟩ | ⟨_, j, _, rfl, _⟩ <;> exact ⟨rfl, rfl⟩
theorem gath_c (x : Nd) (op : Int) (k : VK) (p : List Int) (acc : List (List Int)) (base s : St) (v : PV) (hO : OwnL 31 1 base (rowL acc) v s) (hsz : x.size + p.length ≤ 1000000) (hacc : acc.length + x.size ≤ 2000000) :
    PCalls Try.prog 58 [encU x, .lit (.int .i64 op), ints k p, v] s (fun r s' => ∃ v', r = .ret v' ∧ OwnL 31 1 base (rowL (acc ++ opPaths op (walkN x p))) v' s') := by
  refine PCalls.of Try.func58 rfl (by rfl) (by simp [Try.ntmps58]) ?_
  have hxs := x.size_eq
  have hxp := x.len_lt
  refine PW.cutR fun R hR hC => ?_
  simp [Try.ntmps58]
  intro i4 h4
  have hb4 : Fresh base i4 := hO.sub.fresh h4
  have hO1 := hO.upd (k := i4) (x := some (.row 24 6 [encC x])) (.inl h4)
  have c4 : (base.upd i4 (some (.row 24 6 [encC x]))) i4 = some (.row 24 6 [encC x]) := St.upd_same _ _ _
  have hs1 : base.sub (base.upd i4 (some (.row 24 6 [encC x]))) := sub_refl.upd_of hb4
  generalize base.upd i4 (some (.row 24 6 [encC x])) = base1 at *
  generalize s.upd i4 (some (.row 24 6 [encC x])) = s1 at *
  have j4 := hO1.at c4
  refine hR _ _ ?_
  clear hR hC R
  refine PW.cutR fun R hR hC => ?_
  -- behind the node itself
  have fin : ∀ (E : Env) (v' : PV) (s' : St), E 1 = .lit (.int .i64 op) → E 2 = ints k p → E 3 = v' → E 4 = .pt i4 0 0 → OwnL 31 1 base1 (rowL (acc ++ opPaths op [(p, x)])) v' s' → R E s' := by
    intro E v' s' g1 g2 g3 g4 hO'
    refine hR _ _ ?_
    clear hR hC R
    refine PW.cutR fun R hR hC => ?_
    have j4 := hO'.at c4
    simp [g4, j4]
    refine PW.loop (fun n e s' => ∃ (j : Nat) (v' : PV), j + n = x.l.length ∧ e 1 = .lit (.int .i64 op) ∧ e 2 = ints k p ∧ e 3 = v' ∧ e 4 = .pt i4 0 0 ∧ e 9 = .lit (.int .i64 j) ∧ OwnL 31 1 base1 (rowL (acc ++ opPaths op ((p, x) :: walkL p (x.l.take j).zipIdx))) v' s') x.l.length ⟨0, v', by omega, by simp [g1], by simp [g2], by simp [g3], by simp [g4], by simp, by simpa [walkL] using hO'⟩ ?_
    clear hO' j4 g1 g2 g3 g4 E v' s'
    rintro n e s' ⟨j, v', hj, e1, e2, e3, e4, e9, hO'⟩
    have j4 := hO'.at c4
    refine pwC_sound _ _ _ _ ?_
    by_cases hlt : j < x.l.length
    · have hlt' : (j : Int) < x.l.length := by omega
      have hg : x.l[j]? = some x.l[j] := List.getElem?_eq_getElem hlt
      have hm := Nd.mem_lt (List.getElem_mem hlt)
      have w1 : IntKind.i64.wrap ((j : Int) + 1) = ((j + 1 : Nat) : Int) := by rw [wrap_i64 (by omega) (by omega)]; omega
      have hss := sum_take_succ (l := x.l.map Nd.size) (k := j) (by simpa using hlt)
      have hsl := sum_take_le (x.l.map Nd.size) (j + 1)
      rw [List.getElem_map] at hss
      simp [e4, e9, j4, hlt, hlt']
      refine PW.drawnA base1 (fun i => match i with | 1 => 3 | 4 => 3 | _ => 0) [0, 1, 2, 3, 4, 5, 6, 7, 9, 10, 12, 8, 11, 13, 14] mixed_ (fun _ _ _ _ h => h) (by kernel_rfl) hO'.sub ?_
      simp [e1, e2, e3, e4, e9, c4, hlt, hlt', hg]
      refine appT (ty := 3) (b := 8) (z := .int .i64 0) (sz := 1) (by simp) (by simp) (by simp) (by simp) rfl (by omega) (by simp) (elems_ints _ k p) (by simp; omega) (fun v1 s1 hT => ?_)
      refine ⟨hO'.sub.trans hT.sub, ?_⟩
      refine appT2 (b := 8) (z := .int .i64 0) (ys := [[.lit (.int .i64 j)]]) hT (by simp) (by simp) (by simp) (by simp) rfl (by omega) (by simp) (fun s => by simp [elemsOf]) (by simp) (by simp; omega) (fun v2 s2 hO2 => ?_)
      refine ⟨hO'.sub.trans hO2.sub, ?_⟩
      have hrow : rowI p ++ [[PV.lit (.int .i64 j)]] = rowI (p ++ [(j : Int)]) := by simp
      rw [hrow] at hO2
      refine PCalls.args (Conv.mid (pre := [encU x.l[j], .lit (.int .i64 op)]) (post := [v']) (Conv.own hO2 (cells_ints _) _)) ?_
      have hln := walkL_length p (x.l.take j) 0 (fun y _ q => walkN_length y q)
      have hll : (opPaths op ((p, x) :: walkL p (x.l.take j).zipIdx)).length ≤ 1 + ((x.l.map Nd.size).take j).sum := by
        have := opPaths_le op ((p, x) :: walkL p (x.l.take j).zipIdx)
        rw [List.length_cons, hln, List.map_take] at this
        omega
      refine (gath_c x.l[j] op .any (p ++ [(j : Int)]) _ base1 s' v' hO' (by simp; omega) (by simp only [List.length_append]; omega)).mono ?_
      rintro _ s3 ⟨v3, rfl, hO3⟩
      refine ⟨hO3.sub, ?_⟩
      simp [e1, e2, e3, e4, e9, w1]
      refine ⟨n - 1, by omega, j + 1, by omega, by omega, ?_⟩
      rw [zipIdx_take _ _ hlt, walkL_snoc, ← List.cons_append, opPaths_append]
      simpa using hO3
    · have hjl : j = x.l.length := by omega
      subst hjl
      simp [e4, e9, j4]
      refine hR _ _ ?_
      refine pwC_sound _ _ _ _ ?_
      simp [e3]
      obtain ⟨s2, q1, q2⟩ := hO'.shrink hs1
      refine ⟨s2, q1, ?_⟩
      rw [walkN_eq]
      simpa using q2
  by_cases hop : op = 0 ∨ x.op = op
  · have hac : acc.length ≤ 2000000 := by omega
    by_cases q1 : op = 0
    · simp [j4, q1]
      refine appT (ty := 3) (b := 8) (z := .int .i64 0) (sz := 1) (by simp) (by simp) (by simp) (by simp) rfl (by omega) (by simp) (elems_ints _ k p) (by simp; omega) (fun v1 s2 hT => ?_)
      simp [hT.one.1, hT.one.2]
      refine gath_app hO1 hT hac fun v3 s3 s4 hcv hO4 => ?_
      refine hC _ _ s4 hcv (fin _ v3 s4 (by simp [q1]) (by simp) (by simp) (by simp) ?_)
      rw [show opPaths op [(p, x)] = [p] by rw [← List.nil_append [(p, x)], opPaths_snoc, if_pos hop]; rfl]
      exact hO4
    · have q2 : (x.op = op) = True := eq_true (hop.resolve_left q1)
      simp [j4, q1, q2]
      refine appT (ty := 3) (b := 8) (z := .int .i64 0) (sz := 1) (by simp) (by simp) (by simp) (by simp) rfl (by omega) (by simp) (elems_ints _ k p) (by simp; omega) (fun v1 s2 hT => ?_)
      simp [hT.one.1, hT.one.2]
      refine gath_app hO1 hT hac fun v3 s3 s4 hcv hO4 => ?_
      refine hC _ _ s4 hcv (fin _ v3 s4 (by simp) (by simp) (by simp) (by simp) ?_)
      rw [show opPaths op [(p, x)] = [p] by rw [← List.nil_append [(p, x)], opPaths_snoc, if_pos hop]; rfl]
      exact hO4
  · have q1 : ¬ op = 0 := fun h => hop (.inl h)
    have q2 : ¬ x.op = op := fun h => hop (.inr h)
    simp [j4, q1, q2]
    refine fin _ v s1 (by simp) (by simp) (by simp) (by simp) ?_
    rw [show opPaths op [(p, x)] = [] by rw [← List.nil_append [(p, x)], opPaths_snoc, if_neg hop]; rfl, List.append_nil]
    exact hO1
termination_by x.size
decreasing_by exact Nd.mem_lt (List.getElem_mem _)
end Go.Pv
