/- Two parts of a state; a tree's nodes with their paths, in the order of a walk. -/
import Derived.Test.YteajbghklmkoeaaPvT
import Derived.Test.YteajbghklmkoeaaPv18
import Derived.Test.YteajbghklmkoeaaNd
namespace Go.Pv
set_option linter.unusedVariables false
set_option linter.unusedSimpArgs false
/-- One part, and another one beside it. -/
def join (b o : St) : St := fun i => match b i with
  | some x => some x
  | none => o i
def Disj (b o : St) : Prop := ∀ i, b i ≠ none → o i = none
theorem join_base {b o : St} {i : Nat} {x : Blk} (h : b i = some x) : join b o i = some x := by simp [join, h]
theorem join_own {b o : St} {i : Nat} {x : Blk} (hd : Disj b o) (h : o i = some x) : join b o i = some x := by
  unfold join
  cases hb : b i with
  | none => exact h
  | some y => have := hd i (by rw [hb]; simp); rw [h] at this; cases this
theorem Disj.off {b o : St} (hd : Disj b o) {i : Nat} {x : Blk} (h : o i = some x) : b i = none := by
  cases hb : b i with
  | none => rfl
  | some y => have := hd i (by rw [hb]; simp); rw [h] at this; cases this
theorem join_none {b o : St} {i : Nat} (h : Fresh (join b o) i) : Fresh b i ∧ Fresh o i := by
  unfold Fresh join at h
  cases hb : b i with
  | none => rw [hb] at h; exact ⟨hb, h⟩
  | some y => rw [hb] at h; cases h
theorem join_upd {b o : St} {i : Nat} (x : Option Blk) (h : o i = none) : (join b o).upd i x = join (b.upd i x) o := by
  funext j
  unfold join St.upd
  by_cases hj : j = i
  · subst hj
    simp only [if_true]
    cases x with
    | none => simp [h]
    | some y => rfl
  · simp [hj]
theorem join_updO {b o : St} {i : Nat} (x : Option Blk) (h : b i = none) : (join b o).upd i x = join b (o.upd i x) := by
  funext j
  unfold join St.upd
  by_cases hj : j = i
  · subst hj; simp [h]
  · simp [hj]
theorem Disj.upd {b o : St} {i : Nat} {x : Option Blk} (h : Disj b o) (ho : o i = none) : Disj (b.upd i x) o := fun j hj => by
  by_cases hji : j = i
  · subst hji; exact ho
  · rw [St.upd_ne _ _ hji] at hj; exact h j hj
theorem Disj.updO {b o : St} {i : Nat} {x : Option Blk} (h : Disj b o) (hb : b i = none) : Disj b (o.upd i x) := fun j hj => by
  by_cases hji : j = i
  · subst hji; exact absurd hb hj
  · rw [St.upd_ne _ _ hji]; exact h j hj
theorem join_sub (b o : St) : b.sub (join b o) := fun i x h => join_base h
theorem join_mono {b b' o : St} (h : b'.sub b) (hd : Disj b o) : (join b' o).sub (join b o) := fun i x hx => by
  unfold join at hx
  cases hb : b' i with
  | none =>
    rw [hb] at hx
    exact join_own hd hx
  | some y => rw [hb] at hx; cases hx; exact join_base (h i _ hb)
theorem Disj.sub {b b' o : St} (hd : Disj b o) (h : b'.sub b) : Disj b' o := fun i hi => by
  obtain ⟨y, hy⟩ := Option.ne_none_iff_exists'.1 hi
  exact hd i (by rw [h i y hy]; simp)
/-- A slice of one's own, in a part of a state; with a block more. -/
theorem OwnL.join {ty : TypeId} {sz : Nat} {base b o : St} {els : List (List PV)} {v : PV} (h : OwnL ty sz b els v o) (hd : Disj base o) : OwnL ty sz (Pv.join base b) els v (Pv.join base o) := by
  rcases h with ⟨h1, h2, rfl⟩ | ⟨h0, j, hj, rfl, rfl⟩
  · exact .inl ⟨h1, h2, rfl⟩
  · have hb : base j = none := by
      cases hb : base j with
      | none => rfl
      | some y => have := hd j (by rw [hb]; simp); rw [St.upd_same] at this; cases this
    refine .inr ⟨h0, j, ?_, rfl, (join_updO _ hb).symm⟩
    unfold Fresh Pv.join
    rw [hb]
    exact hj
theorem OwnL.upd {ty : TypeId} {sz k : Nat} {b o : St} {els : List (List PV)} {v : PV} {x : Option Blk} (h : OwnL ty sz b els v o) (hk : o k = none ∨ b k ≠ none) : OwnL ty sz (b.upd k x) els v (o.upd k x) := by
  rcases h with ⟨h1, h2, rfl⟩ | ⟨h0, j, hj, rfl, rfl⟩
  · exact .inl ⟨h1, h2, rfl⟩
  · have hjk : j ≠ k := by
      rintro rfl
      rcases hk with hk | hk
      · rw [St.upd_same] at hk; cases hk
      · exact hk hj
    refine .inr ⟨h0, j, ?_, rfl, St.upd_comm _ _ _ hjk⟩
    unfold Fresh
    rw [St.upd_ne _ _ hjk]
    exact hj
/-- The nodes of a tree with their paths, in preorder. -/
def walkN : Nd → List Int → List (List Int × Nd)
  | ⟨op, s, n, fr, to, l⟩, p => (p, ⟨op, s, n, fr, to, l⟩) :: (l.attach.zipIdx.flatMap fun ⟨⟨y, _⟩, i⟩ => walkN y (p ++ [(i : Int)]))
def walkL (p : List Int) (l : List (Nd × Nat)) : List (List Int × Nd) := l.flatMap fun yi => walkN yi.1 (p ++ [(yi.2 : Int)])
theorem walkN_eq (x : Nd) (p : List Int) : walkN x p = (p, x) :: walkL p x.l.zipIdx := by
  obtain ⟨op, s, n, fr, to, l⟩ := x
  rw [walkN]
  congr 1
  unfold walkL
  simp only
  conv => rhs; rw [← List.attach_map_subtype_val l]
  rw [List.zipIdx_map, List.flatMap_map]
  rfl
theorem walkL_snoc (p : List Int) (l : List (Nd × Nat)) (y : Nd) (i : Nat) : walkL p (l ++ [(y, i)]) = walkL p l ++ walkN y (p ++ [(i : Int)]) := by
  simp [walkL]
theorem zipIdx_take (l : List Nd) (j : Nat) (h : j < l.length) : (l.take (j + 1)).zipIdx = (l.take j).zipIdx ++ [(l[j], j)] := by
  rw [List.take_succ_eq_append_getElem h, List.zipIdx_append]
  simp [Nat.min_eq_left (Nat.le_of_lt h)]
end Go.Pv
