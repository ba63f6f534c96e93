/- tree.Clone: a tree is copied; along a path the copy's rows stay the caller's own. -/
import Derived.Test.YteajbghklmkoeaaF48
namespace Go.Pv
open Go.Proofs
set_option linter.unusedVariables false
set_option linter.unusedSimpArgs false
set_option maxRecDepth 100000
set_option maxHeartbeats 1000000
/-- A node's cells, its parts' row being v. -/
@[reducible] def cellsW (x : Nd) (v : PV) : List PV := [.lit (.int .i64 x.op), .lit (.string x.s), .lit (.int .i64 x.n), .lit (.int .i64 x.fr), .lit (.int .i64 x.to), v]
/-- v is x's row; along the path its rows are the blocks D. -/
def Al : List Int → Nd → PV → List (Nat × Blk) → Prop
  | [], x, v, D => D = [] ∧ v = .vec .any (x.l.map enc)
  | i :: p, x, v, D => ∃ (m : Nat) (y : Nd) (v1 : PV) (id : Nat) (D1 : List (Nat × Blk)), i = m ∧ x.l[m]? = some y ∧ Al p y v1 D1 ∧ v = .sl id 6 0 x.l.length ∧ D = (id, .row 24 6 ((x.l.map encC).set m (cellsW y v1))) :: D1
def putAll (s : St) : List (Nat × Blk) → St
  | [] => s
  | (i, b) :: D => (putAll s D).upd i (some b)
theorem putAll_ne (s : St) : ∀ (D : List (Nat × Blk)) (k : Nat), k ∉ D.map Prod.fst → putAll s D k = s k
  | [], k, _ => rfl
  | (i, b) :: D, k, h => by
    simp only [List.map_cons, List.mem_cons, not_or] at h
    show ((putAll s D).upd i (some b)) k = _
    rw [St.upd_ne _ _ h.1]
    exact putAll_ne s D k h.2
theorem putAll_in (s : St) : ∀ (D : List (Nat × Blk)), (D.map Prod.fst).Nodup → ∀ p ∈ D, putAll s D p.1 = some p.2
  | (i, b) :: D, hn, p, hp => by
    simp only [List.map_cons, List.nodup_cons] at hn
    show ((putAll s D).upd i (some b)) p.1 = _
    rcases List.mem_cons.1 hp with rfl | hp
    · rw [St.upd_same]
    · rw [St.upd_ne _ _ (fun e => hn.1 (by rw [← e]; exact List.mem_map.2 ⟨p, hp, rfl⟩))]
      exact putAll_in s D hn.2 p hp
theorem putAll_sub {s s' : St} (h : s.sub s') : ∀ (D : List (Nat × Blk)), (D.map Prod.fst).Nodup → (∀ p ∈ D, s' p.1 = some p.2) → (putAll s D).sub s'
  | [], _, _ => h
  | (i, b) :: D, hn, hD => by
    simp only [List.map_cons, List.nodup_cons] at hn
    intro k c hk
    have hk' : ((putAll s D).upd i (some b)) k = some c := hk
    by_cases hki : k = i
    · subst hki
      rw [St.upd_same] at hk'
      cases hk'
      exact hD (k, b) List.mem_cons_self
    · rw [St.upd_ne _ _ hki] at hk'
      exact putAll_sub h D hn.2 (fun p hp => hD p (List.mem_cons_of_mem _ hp)) k c hk'
theorem sub_putAll {s : St} : ∀ (D : List (Nat × Blk)), (∀ i ∈ D.map Prod.fst, Fresh s i) → s.sub (putAll s D)
  | [], _ => sub_refl
  | (i, b) :: D, h => by
    have := sub_putAll D (fun k hk => h k (List.mem_cons_of_mem _ hk))
    exact this.set (h i (by simp))
theorem at_head {x y : Nd} {i : Int} {p : List Int} (h : atN x (i :: p) = some y) : ∃ (m : Nat) (z : Nd), i = m ∧ x.l[m]? = some z ∧ atN z p = some y := by
  rw [atN] at h
  split at h
  · rename_i h0
    obtain ⟨m, rfl⟩ := Int.eq_ofNat_of_zero_le h0
    split at h
    · rename_i z hz
      exact ⟨m, z, rfl, by simpa using hz, h⟩
    · cases h
  · cases h
/-- The row of the copy when j parts are copied. -/
def Els (path : List Int) (x : Nd) (j : Nat) (els : List (List PV)) (D : List (Nat × Blk)) : Prop := match path with
  | [] => els = x.l.map encC ∧ D = []
  | i :: p => ∃ (m : Nat) (y : Nd), i = m ∧ x.l[m]? = some y ∧ if m < j then ∃ v1, Al p y v1 D ∧ els = (x.l.map encC).set m (cellsW y v1) else els = x.l.map encC ∧ D = []
theorem Els.len {path : List Int} {x : Nd} {j : Nat} {els : List (List PV)} {D : List (Nat × Blk)} (h : Els path x j els D) : els.length = x.l.length ∧ ∀ (k : Nat) (cs : List PV), els[k]? = some cs → cs.length = 6 := by
  have h0 : (x.l.map encC).length = x.l.length ∧ ∀ (k : Nat) (cs : List PV), (x.l.map encC)[k]? = some cs → cs.length = 6 := by
    refine ⟨by simp, fun k cs hk => ?_⟩
    rw [List.getElem?_map] at hk
    cases hx : x.l[k]? with
    | none => rw [hx] at hk; cases hk
    | some y => rw [hx] at hk; cases hk; rfl
  unfold Els at h
  split at h
  · rw [h.1]; exact h0
  · obtain ⟨m, y, _, _, h⟩ := h
    split at h
    · obtain ⟨v1, _, rfl⟩ := h
      refine ⟨by simp, fun k cs hk => ?_⟩
      by_cases hkm : k = m
      · subst hkm
        rw [List.getElem?_set] at hk
        split at hk
        · split at hk
          · cases hk; rfl
          · cases hk
        · exact h0.2 k cs hk
      · rw [List.getElem?_set_ne (Ne.symm hkm)] at hk; exact h0.2 k cs hk
    · rw [h.1]; exact h0
/-- The part that is copied next reads as it did. -/
theorem Els.next {path : List Int} {x : Nd} {j : Nat} {els : List (List PV)} {D : List (Nat × Blk)} (h : Els path x j els D) (hj : j < x.l.length) : els[j]? = some (encC x.l[j]) := by
  have h0 : (x.l.map encC)[j]? = some (encC x.l[j]) := by rw [List.getElem?_map, List.getElem?_eq_getElem hj]; rfl
  unfold Els at h
  split at h
  · rw [h.1]; exact h0
  · obtain ⟨m, y, _, _, h⟩ := h
    split at h
    · obtain ⟨v1, _, rfl⟩ := h
      rw [List.getElem?_set_ne (by omega)]; exact h0
    · rw [h.1]; exact h0
theorem Els.step {path : List Int} {x : Nd} {j : Nat} {els : List (List PV)} {D : List (Nat × Blk)} (hp : atN x path ≠ none) (h : Els path x j els D) (hj : j < x.l.length) :
    ∃ p', atN x.l[j] p' ≠ none ∧ ∀ v1 D1, Al p' x.l[j] v1 D1 → Els path x (j + 1) (els.set j (cellsW x.l[j] v1)) (D1 ++ D) ∧ (D1 = [] ∨ D = []) := by
  have hnx := h.next hj
  have hself : ∀ v1, v1 = PV.vec .any (x.l[j].l.map enc) → els.set j (cellsW x.l[j] v1) = els := by
    rintro v1 rfl
    apply List.ext_getElem?
    intro k
    rw [List.getElem?_set]
    split
    · rename_i hk
      subst hk
      rw [hnx, if_pos (by rw [h.len.1]; exact hj)]
    · rfl
  unfold Els at h
  split at h
  · refine ⟨[], by simp [atN], fun v1 D1 hal => ?_⟩
    obtain ⟨rfl, hv⟩ := hal
    rw [hself v1 hv]
    exact ⟨h, .inl rfl⟩
  · rename_i i p
    obtain ⟨m, y, rfl, hy, h⟩ := h
    by_cases hmj : m = j
    · subst hmj
      rw [if_neg (by omega)] at h
      obtain ⟨rfl, rfl⟩ := h
      refine ⟨p, ?_, fun v1 D1 hal => ⟨⟨m, y, rfl, hy, ?_⟩, .inr rfl⟩⟩
      · cases hat : atN x ((m : Int) :: p) with
        | none => exact absurd hat hp
        | some z =>
          obtain ⟨m', z', hm, hz, hz2⟩ := at_head hat
          have : m' = m := by omega
          subst this
          rw [List.getElem?_eq_getElem hj] at hz
          cases hz
          rw [hz2]; simp
      · rw [if_pos (by omega)]
        rw [List.getElem?_eq_getElem hj] at hy
        cases hy
        exact ⟨v1, by rw [List.append_nil]; exact hal, rfl⟩
    · refine ⟨[], by simp [atN], fun v1 D1 hal => ?_⟩
      obtain ⟨rfl, hv⟩ := hal
      rw [hself v1 hv]
      refine ⟨⟨m, y, rfl, hy, ?_⟩, .inl rfl⟩
      by_cases hlt : m < j
      · rw [if_pos hlt] at h; rw [if_pos (by omega)]; exact h
      · rw [if_neg hlt] at h; rw [if_neg (by omega)]; exact h
/-- What holds when j parts are copied. -/
structure CInv (s s' : St) (i1 i2 id : Nat) (x : Nd) (path : List Int) (j : Nat) (els : List (List PV)) (D : List (Nat × Blk)) : Prop where
  sub : s.sub s'
  b1 : s' i1 = some (.row 24 6 [cellsW x (.sl id 6 0 x.l.length)])
  b2 : s' i2 = some (.row 24 6 [[.lit (.int .i64 0), .lit (.string ⟨#[]⟩), .lit (.int .i64 0), .lit (.int .i64 0), .lit (.int .i64 0), .vec .nil []]])
  bid : s' id = some (.row 24 6 els)
  els : Els path x j els D
  ne : i1 ≠ i2 ∧ i1 ≠ id ∧ i2 ≠ id
  nd : (i1 :: i2 :: id :: D.map Prod.fst).Nodup
  fr : ∀ i ∈ id :: D.map Prod.fst, Fresh s i
  fr2 : Fresh s i2
  D : ∀ p ∈ D, s' p.1 = some p.2
theorem CInv.step {s s' : St} {i1 i2 id : Nat} {x : Nd} {path : List Int} {j : Nat} {els els' : List (List PV)} {D D1 : List (Nat × Blk)} (h : CInv s s' i1 i2 id x path j els D) (hn : (D1.map Prod.fst).Nodup) (hf : ∀ i ∈ D1.map Prod.fst, Fresh s' i)
    (he : Els path x (j + 1) els' (D1 ++ D)) : CInv s ((putAll s' D1).upd id (some (.row 24 6 els'))) i1 i2 id x path (j + 1) els' (D1 ++ D) := by
  obtain ⟨n12, n1, n2⟩ := h.ne
  have hsub := sub_putAll D1 hf
  have hnd := h.nd
  simp only [List.nodup_cons, List.mem_cons, not_or] at hnd
  obtain ⟨⟨_, _, m1⟩, ⟨_, m2⟩, m3, m4⟩ := hnd
  have d1 : ∀ k b, s' k = some b → k ∉ D1.map Prod.fst := fun k b hk hm => fresh_ne (hf k hm) hk rfl
  have hfid : Fresh s id := h.fr id List.mem_cons_self
  have dd : ∀ k ∈ D.map Prod.fst, k ∉ D1.map Prod.fst ∧ k ≠ id := fun k hk => by
    obtain ⟨p, hp, rfl⟩ := List.mem_map.1 hk
    exact ⟨d1 _ _ (h.D p hp), fun e => m3 (by rw [← e]; exact hk)⟩
  refine ⟨?_, ?_, ?_, by rw [St.upd_same], he, h.ne, ?_, ?_, h.fr2, ?_⟩
  · exact (h.sub.trans hsub).set hfid
  · rw [St.upd_ne _ _ n1]; exact hsub _ _ h.b1
  · rw [St.upd_ne _ _ n2]; exact hsub _ _ h.b2
  · simp only [List.map_append, List.nodup_cons, List.mem_cons, List.mem_append, not_or]
    refine ⟨⟨n12, n1, d1 _ _ h.b1, m1⟩, ⟨n2, d1 _ _ h.b2, m2⟩, ⟨d1 _ _ h.bid, m3⟩, List.nodup_append.2 ⟨hn, m4, fun a ha b hb e => (dd b hb).1 (by rw [← e]; exact ha)⟩⟩
  · intro k hk
    simp only [List.map_append, List.mem_cons, List.mem_append] at hk
    rcases hk with rfl | hk | hk
    · exact hfid
    · exact h.sub.fresh (hf k hk)
    · exact h.fr k (List.mem_cons_of_mem _ hk)
  · intro p hp
    rcases List.mem_append.1 hp with hp | hp
    · have hm : p.1 ∈ D1.map Prod.fst := List.mem_map.2 ⟨p, hp, rfl⟩
      rw [St.upd_ne _ _ (fun e => d1 id _ h.bid (by rw [← e]; exact hm))]
      exact putAll_in s' D1 hn p hp
    · have hm : p.1 ∈ D.map Prod.fst := List.mem_map.2 ⟨p, hp, rfl⟩
      rw [St.upd_ne _ _ (dd _ hm).2]
      exact hsub _ _ (h.D p hp)
theorem clone_c (x : Nd) (hx : x.size ≤ 1000000) (path : List Int) (hp : atN x path ≠ none) (s : St) : PCalls Try.prog 55 [encU x] s fun r s' =>
    ∃ v D, r = .ret (.agg (cellsW x v)) ∧ Al path x v D ∧ (D.map Prod.fst).Nodup ∧ (∀ i ∈ D.map Prod.fst, Fresh s i) ∧ s' = putAll s D := by
  refine PCalls.conv (R := fun r s' => (x.l = [] ∧ r = .ret (.agg (cellsW x (.vec .tight []))) ∧ s' = s) ∨ (∃ id els D, r = .ret (.agg (cellsW x (.sl id 6 0 x.l.length))) ∧ Els path x x.l.length els D ∧ (id :: D.map Prod.fst).Nodup ∧
    (∀ i ∈ id :: D.map Prod.fst, Fresh s i) ∧ s' = putAll s ((id, .row 24 6 els) :: D))) ?_ ?_ ?_
  · refine PCalls.of Try.func55 rfl (by rfl) (by simp [Try.ntmps55]) ?_
    refine pwC_sound _ _ _ _ ?_
    simp +contextual [Try.ntmps55]
    intro i1 h1 i2 h21 h12 h2
    have hll := x.len_lt
    refine (sclone_c x.l (by omega) _).mono ?_
    rintro r s1 (⟨hl, rfl, rfl⟩ | ⟨hl, id, hid, rfl, rfl⟩)
    · simp [h12, h21]
      refine PW.loop (fun n e s' => e 10 = .lit (.int .i64 0) ∧ e 11 = .lit (.int .i64 0) ∧ e 1 = .pt i1 0 0 ∧ e 2 = .pt i2 0 0 ∧ s.sub s' ∧ s' i1 = some (.row 24 6 [cellsW x (.vec .tight [])]) ∧ s' i2 = some (.row 24 6 [[.lit (.int .i64 0), .lit (.string ⟨#[]⟩), .lit (.int .i64 0), .lit (.int .i64 0), .lit (.int .i64 0), .vec .nil []]])) 0
        (by simp [h1, h2, h12, h21]) ?_
      rintro n e s' ⟨e10, e11, e1, e2, hsub, b1, b2⟩
      refine pwC_sound _ _ _ _ ?_
      simp [e10, e11, e1, e2, b1, b2]
      exact ⟨hsub.set h2, hl⟩
    · simp at hid
      obtain ⟨a1, a2, a3, a4, hid⟩ := hid
      simp [h12, h21, a1, a2, a3, a4]
      refine PW.loop (fun n e s' => ∃ j els D, j + n = x.l.length ∧ e 10 = .lit (.int .i64 x.l.length) ∧ e 11 = .lit (.int .i64 j) ∧ e 1 = .pt i1 0 0 ∧ e 2 = .pt i2 0 0 ∧ CInv s s' i1 i2 id x path j els D) x.l.length ?_ ?_
      · refine ⟨0, x.l.map encC, [], by simp, by simp, by simp, by simp, by simp, ?_, by simp [h12, a1, a2, a3, a4], by simp [h21, a1, a2, a3, a4], by simp [a1, a2, a3, a4], ?_, ⟨h12, a4, a2⟩, by simp [h12, a2, a4], by simpa using hid, h2, by simp⟩
        · simp [h1, h2, hid]
        · unfold Els
          split
          · exact ⟨rfl, rfl⟩
          · rename_i i p
            cases hat : atN x (i :: p) with
            | none => exact absurd hat hp
            | some y =>
              obtain ⟨m, z, hm, hz, _⟩ := at_head hat
              exact ⟨m, z, hm, hz, by simp⟩
      rintro n e s' ⟨j, els, D, hj, e10, e11, e1, e2, hI⟩
      refine pwC_sound _ _ _ _ ?_
      have b1 := hI.b1
      have b2 := hI.b2
      have bid := hI.bid
      by_cases hlt : j < x.l.length
      · simp [e10, e11, e1, e2, hlt]
        refine PW.drawn (fun i => if i = 8 then 2 else 0) [0, 1, 2, 3, 4, 5, 6, 7, 8, 9, 10] mixed_ (fun _ _ _ _ h => h) (by kernel_rfl) ?_
        have hnx := hI.els.next hlt
        simp [e10, e11, e1, e2, b1, b2, bid, hlt, hnx]
        obtain ⟨p', hp', hstep⟩ := hI.els.step hp hlt
        have hms := Nd.mem_lt (List.getElem_mem hlt)
        refine (clone_c x.l[j] (by omega) p' hp' s').mono ?_
        rintro r s2 ⟨v1, D1, rfl, hal, hnd1, hfr1, rfl⟩
        obtain ⟨hE, _⟩ := hstep v1 D1 hal
        have hsub := sub_putAll D1 hfr1
        simp [e10, e11, e1, e2, hlt, hsub, hsub _ _ bid, hnx]
        rw [wrap_i64 (by omega) (by omega)]
        exact ⟨n - 1, by omega, j + 1, by omega, rfl, _, D1 ++ D, hI.step hnd1 hfr1 hE⟩
      · have hjl : j = x.l.length := by omega
        subst hjl
        simp [e10, e11, e1, e2, b1, b2, bid]
        have hnd := hI.nd
        simp only [List.nodup_cons, List.mem_cons, not_or] at hnd
        obtain ⟨⟨_, _, m1⟩, ⟨_, m2⟩, m3, m4⟩ := hnd
        refine ⟨_, ?_, _, D, hI.els, ⟨by simpa using m3, m4⟩, ⟨hI.fr id List.mem_cons_self, fun a b hab => hI.fr a (List.mem_cons_of_mem _ (List.mem_map.2 ⟨(a, b), hab, rfl⟩))⟩, rfl⟩
        refine putAll_sub (hI.sub.set hI.fr2) _ (by simp only [List.map_cons, List.nodup_cons]; exact ⟨m3, m4⟩) (fun p hp => ?_)
        rcases List.mem_cons.1 hp with rfl | hp
        · rw [St.upd_ne _ _ (Ne.symm hI.ne.2.2)]; exact bid
        · rw [St.upd_ne _ _ (fun e => m2 (by rw [← e]; exact List.mem_map.2 ⟨p, hp, rfl⟩))]; exact hI.D p hp
  · rintro p s' (⟨h1, h2, rfl⟩ | ⟨id, els, D, h2, hels, hnd, hfr, rfl⟩)
    · cases h2
      have : path = [] := by
        cases path with
        | nil => rfl
        | cons i p =>
          cases hat : atN x (i :: p) with
          | none => exact absurd hat hp
          | some y => obtain ⟨m, z, _, hz, _⟩ := at_head hat; rw [h1] at hz; simp at hz
      subst this
      refine ⟨_, _, .wk (.cons (q := .agg (cellsW x (.vec .any []))) (Wk.aggs ?_) .nil), _, [], rfl, ⟨rfl, by rw [h1]; rfl⟩, by simp, by simp, rfl⟩
      exact .cons (.refl _) (.cons (.refl _) (.cons (.refl _) (.cons (.refl _) (.cons (.refl _) (.cons (.any _ _) .nil)))))
    · cases h2
      simp only [List.nodup_cons] at hnd
      cases path with
      | nil =>
        obtain ⟨rfl, rfl⟩ := hels
        have hfid := hfr id List.mem_cons_self
        refine ⟨_, _, Conv.freeze (i := id) (ty := 24) (sz := 6) (els := x.l.map encC) (xs := x.l.map enc) (by simp [putAll]) (enc_cells' _) _ ?_ (fun cs h => by cases h), _, [], rfl, ⟨rfl, ?_⟩, by simp, by simp, ?_⟩
        · intro j z off len h _
          rcases h with h | ⟨cs, h, hm⟩
          · cases h
          · cases h
            simp at hm
            obtain ⟨rfl, rfl, rfl, rfl⟩ := hm
            simp
        · simp [fz1]
          exact List.take_of_length_le (by simp)
        · show ((s.upd id _).upd id none) = s
          rw [St.upd_upd, St.upd_none hfid]
      | cons i p =>
        obtain ⟨m, y, rfl, hy, hels⟩ := hels
        rw [if_pos (List.getElem?_eq_some_iff.1 hy).1] at hels
        obtain ⟨v1, hal, rfl⟩ := hels
        exact ⟨_, _, .refl _ _, _, _, rfl, ⟨m, y, v1, id, D, rfl, hy, hal, rfl, rfl⟩, by simpa using hnd, fun k hk => hfr k hk, rfl⟩
  · rintro c s' (⟨_, h, _⟩ | ⟨_, _, _, h, _⟩) <;> cases h
termination_by x.size
decreasing_by exact Nd.mem_lt (List.getElem_mem _)
end Go.Pv
