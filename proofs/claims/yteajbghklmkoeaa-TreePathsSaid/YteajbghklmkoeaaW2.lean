/- A walk through a tree, as a function that is ranged over. -/
import Derived.Test.YteajbghklmkoeaaW1
namespace Go.Pv
open Go.Proofs
set_option linter.unusedVariables false
set_option linter.unusedSimpArgs false
set_option maxRecDepth 100000
set_option maxHeartbeats 1000000
theorem walkL_length (p : List Int) : ∀ (l : List Nd) (i : Nat), (∀ y ∈ l, ∀ p, (walkN y p).length = y.size) → (walkL p (l.zipIdx i)).length = (l.map Nd.size).sum
  | [], i, h => rfl
  | y :: l, i, h => by
    have h1 := walkL_length p l (i + 1) (fun z hz => h z (List.mem_cons_of_mem _ hz))
    have h2 := h y List.mem_cons_self (p ++ [(i : Int)])
    unfold walkL at h1 ⊢
    rw [List.zipIdx_cons, List.flatMap_cons, List.length_append, List.map_cons, List.sum_cons]
    simp only at h2 ⊢
    omega
theorem walkN_length (x : Nd) (p : List Int) : (walkN x p).length = x.size := by
  rw [walkN_eq, x.size_eq, List.length_cons, walkL_length p x.l 0 (fun y hy q => walkN_length y q)]
  omega
termination_by x.size
decreasing_by exact Nd.mem_lt hy
/-- What a round of a walk's loop does: from what there is so far to the next. -/
def Rounds (P : Program) (i : Nat) (B0 : St) (I : List (List Int × Nd) → St → Prop) (M : Nat) : Prop :=
  ∀ (pre : List (List Int × Nd)) (p : List Int) (x : Nd) (base own : St), pre.length < M → I pre own → Disj base own → B0.sub base →
    PYld P i [ints .any p, encU x] (join base own) (fun v s' => v = .lit (.bool true) ∧ ∃ own', I (pre ++ [(p, x)]) own' ∧ Disj base own' ∧ s' = join base own')
theorem St.sub.upd_of {s t : St} {i : Nat} {b : Option Blk} (h : s.sub t) (hi : s i = none) : s.sub (t.upd i b) := fun j c hj => by
  by_cases hji : j = i
  · subst hji; rw [hi] at hj; cases hj
  · rw [St.upd_ne _ _ hji]; exact h j c hj
theorem down_c {i b2 b3 M : Nat} {B0 : St} {I : List (List Int × Nd) → St → Prop} (hR : Rounds Try.prog i B0 I M) (x : Nd) (k : VK) (p : List Int) (hk : p = [] → k = .nil) (hsz : x.size + p.length ≤ 1000000) (pre : List (List Int × Nd)) (base own : St) (hM : pre.length + x.size ≤ M)
    (hI : I pre own) (hd : Disj base own) (hB : B0.sub base) (hb2 : base b2 = some (.row 92 1 [[.yld i]])) (hb3 : base b3 = some (.row 92 1 [[.fn 75 [] [.pt b2 0 0, .pt b3 0 0]]])) :
    PCalls Try.prog 75 [ints k p, encU x, .pt b2 0 0, .pt b3 0 0] (join base own) (fun r s' => r = .ret (.lit (.bool true)) ∧ ∃ own', I (pre ++ walkN x p) own' ∧ Disj base own' ∧ s' = join base own') := by
  refine PCalls.of Try.func75 rfl (by rfl) (by simp [Try.ntmps75]) ?_
  refine pwC_sound _ _ _ _ ?_
  have hxs := x.size_eq
  have hxp := x.len_lt
  refine pwC_cut fun K hK => ?_
  simp [Try.ntmps75]
  intro i5 h5
  obtain ⟨h5b, h5o⟩ := join_none h5
  refine hK _ _ ?_
  clear hK K
  rw [join_upd _ h5o]
  have hd1 := hd.upd (x := some (.row 24 6 [encC x])) h5o
  have hs1 : base.sub (base.upd i5 (some (.row 24 6 [encC x]))) := sub_refl.upd_of h5b
  have c5 : (base.upd i5 (some (.row 24 6 [encC x]))) i5 = some (.row 24 6 [encC x]) := St.upd_same _ _ _
  generalize base.upd i5 (some (.row 24 6 [encC x])) = base1 at *
  have c2 := hs1 _ _ hb2
  have c3 := hs1 _ _ hb3
  refine pwC_cut fun K hK => ?_
  refine PW.drawn (fun i => match i with | 2 => 1 | _ => 0) [0, 1, 2, 3, 4, 5] mixed_ (fun _ _ _ _ h => h) (by kernel_rfl) ?_
  have j2 := join_base (o := own) c2
  have j3 := join_base (o := own) c3
  have j5 := join_base (o := own) c5
  simp [j2, j3, j5]
  refine quiet_of (icloneQ_c k p hk (by omega) _) ?_
  simp [j2, j3, j5]
  refine (hR pre p x base1 own (by have := x.size_pos; omega) hI hd1 (hB.trans hs1)).mono ?_
  rintro _ _ ⟨rfl, own1, hI1, hd2, rfl⟩
  simp
  refine hK _ _ ?_
  clear hK K
  have j5 := join_base (o := own1) c5
  refine pwC_cut fun K hK => ?_
  simp [j5]
  refine PW.loop (fun n e s' => ∃ (j : Nat) (own' base' : St), j + n = x.l.length ∧ e 0 = ints k p ∧ e 2 = .pt b2 0 0 ∧ e 3 = .pt b3 0 0 ∧ e 16 = .vec .any (x.l.map enc) ∧ e 17 = .lit (.int .i64 x.l.length) ∧ e 18 = .lit (.int .i64 j) ∧
    I (pre ++ (p, x) :: walkL p (x.l.take j).zipIdx) own' ∧ Disj base' own' ∧ base.sub base' ∧ s' = join base' own') x.l.length ⟨0, own1, base1, by omega, by simp, by simp, by simp, by simp, by simp, by simp, by simpa [walkL] using hI1, hd2, hs1, rfl⟩ ?_
  clear hI1 hd2 hd1 hI hd j2 j3 j5 c2 c3 c5 hs1 own1
  rintro n e s' ⟨j, own', base', hj, e0, e2, e3, e16, e17, e18, hI', hd', hs', rfl⟩
  refine pwC_sound _ _ _ _ ?_
  by_cases hlt : j < x.l.length
  · have hlt' : (j : Int) < x.l.length := by omega
    have hg : x.l[j]? = some x.l[j] := List.getElem?_eq_getElem hlt
    have hm := Nd.mem_lt (List.getElem_mem hlt)
    have w1 : IntKind.i64.wrap ((j : Int) + 1) = ((j + 1 : Nat) : Int) := by rw [wrap_i64 (by omega) (by omega)]; omega
    have hss := sum_take_succ (l := x.l.map Nd.size) (k := j) (by simpa using hlt)
    have hsl := sum_take_le (x.l.map Nd.size) (j + 1)
    rw [List.getElem_map] at hss
    simp [e0, e2, e3, e16, e17, e18, hlt, hlt', hg]
    intro i8 h8
    obtain ⟨h8b, h8o⟩ := join_none h8
    rw [join_upd _ h8o]
    have hd2 := hd'.upd (x := some (.row 24 6 [encC x.l[j]])) h8o
    have hs2 : base.sub (base'.upd i8 (some (.row 24 6 [encC x.l[j]]))) := hs'.trans (sub_refl.upd_of h8b)
    have c8 : (base'.upd i8 (some (.row 24 6 [encC x.l[j]]))) i8 = some (.row 24 6 [encC x.l[j]]) := St.upd_same _ _ _
    generalize base'.upd i8 (some (.row 24 6 [encC x.l[j]])) = base2 at *
    have c2 := hs2 _ _ hb2
    have c3 := hs2 _ _ hb3
    refine PW.drawnA base2 (fun i => match i with | 0 => 3 | 6 => 3 | 2 => 2 | _ => 0) [0, 1, 3, 4, 6, 2, 5, 7, 8] mixed_ (fun _ _ _ _ h => h) (by kernel_rfl) (join_sub _ _) ?_
    simp [e0, e2, e3, e16, e17, e18, c2, c3, c8]
    refine (iclone_c k p hk (by omega) _).mono ?_
    rintro _ _ ⟨v, rfl, hO⟩
    refine ⟨hO.sub, ?_⟩
    simp [e0, e2, e3, e16, e17, e18, c2, c3, c8]
    refine appOwn (b := 8) (z := .int .i64 0) (ys := [[.lit (.int .i64 j)]]) hO (by simp) (by simp) (by simp) (by simp) rfl (by omega) (by simp) (fun s => by simp [elemsOf]) (by simp; omega) (fun v1 s1 hO1 => ?_)
    refine ⟨(join_sub base2 own').trans hO1.sub, ?_⟩
    have hrow : rowI p ++ [[PV.lit (.int .i64 j)]] = rowI (p ++ [(j : Int)]) := by simp
    rw [hrow] at hO1
    refine PCalls.args (Conv.own hO1 (cells_ints _) _) ?_
    refine (down_c hR x.l[j] .any (p ++ [(j : Int)]) (by simp) (by simp; omega) (pre ++ (p, x) :: walkL p (x.l.take j).zipIdx) base2 own' ?_ hI' hd2 (hB.trans hs2) c2 c3).mono ?_
    · have := walkL_length p (x.l.take j) 0 (fun y _ q => walkN_length y q)
      rw [List.length_append, List.length_cons, this, List.map_take]
      omega
    rintro _ _ ⟨rfl, own3, hI3, hd3, rfl⟩
    simp [e0, e2, e3, e16, e17, e18, c2, c3, c8]
    refine ⟨join_sub base2 own3, ?_⟩
    simp [e0, e2, e3, e16, e17, e18, c2, c3, c8, w1]
    refine ⟨n - 1, by omega, j + 1, by omega, by omega, own3, ?_, base2, hd3, hs2, rfl⟩
    rw [zipIdx_take _ _ hlt, walkL_snoc]
    simpa using hI3
  · have hjl : j = x.l.length := by omega
    subst hjl
    simp [e0, e2, e3, e16, e17, e18]
    refine hK _ _ ?_
    simp
    refine ⟨_, join_mono hs' hd', own', ?_, hd'.sub hs', rfl⟩
    rw [walkN_eq]
    simpa using hI'
termination_by x.size
decreasing_by exact Nd.mem_lt (List.getElem_mem _)
end Go.Pv
