/- tree.Replace. -/
import Derived.Test.YteajbghklmkoeaaF23
import Derived.Test.YteajbghklmkoeaaPv16
namespace Go.Pv
open Go.Proofs
set_option linter.unusedVariables false
set_option linter.unusedSimpArgs false
set_option maxRecDepth 100000
set_option maxHeartbeats 1000000
/-- The cells of x with m put at the path; the rows along it are the blocks D. -/
def AlR : List Int → Nd → Nd → List PV → List (Nat × Blk) → Prop
  | [], x, m, cs, D => D = [] ∧ cs = encC m
  | i :: p, x, m, cs, D => ∃ (k : Nat) (y : Nd) (cs1 : List PV) (id : Nat) (D1 : List (Nat × Blk)), i = k ∧ x.l[k]? = some y ∧ AlR p y m cs1 D1 ∧ cs = cellsW x (.sl id 6 0 x.l.length) ∧ D = (id, .row 24 6 ((x.l.map encC).set k cs1)) :: D1
theorem set_enc (x : Nd) (k : Nat) (y : Nd) : ((x.l.set k y).map enc).map PV.cells = (x.l.map encC).set k (encC y) := by
  rw [List.map_map, cells_enc, List.map_set]
/-- All of it is frozen, in the block that bears it. -/
theorem AlR.inner {m : Nd} (pv : PV) : ∀ {path : List Int} {x x' : Nd} {cs : List PV} {D : List (Nat × Blk)} {st : St} {B j : Nat} {els : List (List PV)}, AlR path x m cs D → repN x path m = some x' → st B = some (.row 24 6 els) → els[j]? = some cs → (B :: D.map Prod.fst).Nodup →
    (∀ p ∈ D, st p.1 = some p.2) → ∃ st', Conv st [pv] st' [pv] ∧ st' B = some (.row 24 6 (els.set j (encC x'))) ∧ ∀ k, k ≠ B → k ∉ D.map Prod.fst → st' k = st k
  | [], x, x', cs, D, st, B, j, els, h, hr, hB, hj, hn, hD => by
    obtain ⟨rfl, rfl⟩ := h
    cases hr
    refine ⟨st, .refl _ _, ?_, fun _ _ _ => rfl⟩
    rw [hB, set_same hj]
  | i :: p, x, x', cs, D, st, B, j, els, h, hr, hB, hj, hn, hD => by
    obtain ⟨k, y, cs1, id, D1, rfl, hy, hal, rfl, rfl⟩ := h
    simp only [repN, Int.natCast_nonneg, if_true, Int.toNat_natCast, hy] at hr
    cases hr1 : repN y p m with
    | none => rw [hr1] at hr; cases hr
    | some y' =>
      rw [hr1] at hr
      cases hr
      simp only [List.map_cons, List.nodup_cons, List.mem_cons, not_or] at hn
      obtain ⟨⟨hBi, hBD⟩, hiD, hnD⟩ := hn
      have hk := (List.getElem?_eq_some_iff.1 hy).1
      obtain ⟨st1, c1, b1, o1⟩ := AlR.inner pv hal hr1 (hD _ List.mem_cons_self) (j := k) (by rw [List.getElem?_set_self (by simpa using hk)]) (List.nodup_cons.2 ⟨hiD, hnD⟩) (fun p hp => hD p (List.mem_cons_of_mem _ hp))
      rw [List.set_set] at b1
      have hB1 : st1 B = some (.row 24 6 els) := by rw [o1 B hBi hBD, hB]
      refine ⟨_, c1.trans (Conv.inner (Ne.symm hBi) b1 (set_enc x k y') hB1 hj (fun a z o l hm _ => ?_) pv), ?_, fun q hq hqD => ?_⟩
      · simp at hm
        obtain ⟨rfl, rfl, rfl, rfl⟩ := hm
        simp
      · rw [St.upd_same]
        simp [fz1]
        rw [List.take_of_length_le (by simp)]
        show _ = els.set j [_, _, _, _, _, PV.vec VK.any ((x.l.set k y').map enc)]
        rw [List.map_set, enc_eq]
      · simp only [List.map_cons, List.mem_cons, not_or] at hqD
        rw [St.upd_ne _ _ hq, St.upd_ne _ _ hqD.1]
        exact o1 q hqD.1 hqD.2
theorem AlR.freeze {m : Nd} {path : List Int} {x x' : Nd} {cs : List PV} {D : List (Nat × Blk)} {st s : St} (h : AlR path x m cs D) (hr : repN x path m = some x') (hn : (D.map Prod.fst).Nodup) (hD : ∀ p ∈ D, st p.1 = some p.2)
    (hs : s.sub st) (hf : ∀ i ∈ D.map Prod.fst, Fresh s i) : Conv st [.tup [.agg cs, .lit (.int .i64 0)]] s [.tup [encU x', .lit (.int .i64 0)]] := by
  cases path with
  | nil =>
    obtain ⟨rfl, rfl⟩ := h
    cases hr
    exact .sub hs _
  | cons i p =>
    obtain ⟨k, y, cs1, id, D1, rfl, hy, hal, rfl, rfl⟩ := h
    simp only [repN, Int.natCast_nonneg, if_true, Int.toNat_natCast, hy] at hr
    cases hr1 : repN y p m with
    | none => rw [hr1] at hr; cases hr
    | some y' =>
      rw [hr1] at hr
      cases hr
      have hk := (List.getElem?_eq_some_iff.1 hy).1
      obtain ⟨st1, c1, b1, o1⟩ := hal.inner (.tup [.agg (cellsW x (.sl id 6 0 x.l.length)), .lit (.int .i64 0)]) hr1 (hD _ List.mem_cons_self) (j := k) (by rw [List.getElem?_set_self (by simpa using hk)]) hn (fun p hp => hD p (List.mem_cons_of_mem _ hp))
      rw [List.set_set] at b1
      have c2 := Conv.freezeT b1 (set_enc x k y') [.agg (cellsW x (.sl id 6 0 x.l.length)), .lit (.int .i64 0)] (fun a z o l hm _ => by
        rcases hm with hm | ⟨cs, hm, hm'⟩
        · simp at hm
        · simp at hm
          subst hm
          simp at hm'
          obtain ⟨rfl, rfl, rfl, rfl⟩ := hm'
          simp)
      have e2 : fz id ((x.l.set k y').map enc) (.tup [.agg (cellsW x (.sl id 6 0 x.l.length)), .lit (.int .i64 0)]) = .tup [encU { x with l := x.l.set k y' }, .lit (.int .i64 0)] := by
        simp [fz, fz1]
        rw [List.take_of_length_le (by simp)]
      rw [e2] at c2
      have hfid : s id = none := hf id (by simp)
      refine (c1.trans c2).trans (.sub (fun q b hq => ?_) _)
      have hqi : q ≠ id := fun e => by subst e; rw [hfid] at hq; cases hq
      rw [St.upd_ne _ _ hqi]
      by_cases hqD : q ∈ D1.map Prod.fst
      · have := hf q (List.mem_cons_of_mem _ hqD)
        rw [show s q = none from this] at hq; cases hq
      · rw [o1 q hqi hqD]; exact hs q b hq
/-- Where the walk stands. -/
structure RInv (x : Nd) (path rest : List Int) (T L : List (Nat × Blk)) (blk k : Nat) (els : List (List PV)) (c : Nd) (v : PV) (Dc : List (Nat × Blk)) (i3 : Nat) : Prop where
  at_ : atN c rest = atN x path
  get : els[k]? = some (cellsW c v)
  al : Al rest c v Dc
  tot : T = L ++ (blk, .row 24 6 els) :: Dc
  plug : ∀ (m : Nd) (cs : List PV) (Dc' : List (Nat × Blk)), AlR rest c m cs Dc' → ∃ cs0 D', AlR path x m cs0 D' ∧ L ++ (blk, .row 24 6 (els.set k cs)) :: Dc' = (i3, .row 24 6 [cs0]) :: D'
theorem RInv.step {x : Nd} {path rest : List Int} {i : Int} {T L : List (Nat × Blk)} {blk k : Nat} {els : List (List PV)} {c : Nd} {v : PV} {Dc : List (Nat × Blk)} {i3 : Nat} (h : RInv x path (i :: rest) T L blk k els c v Dc i3) :
    ∃ (m : Nat) (y : Nd) (id : Nat) (v1 : PV) (D1 : List (Nat × Blk)), i = m ∧ m < c.l.length ∧ v = .sl id 6 0 c.l.length ∧ RInv x path rest T (L ++ [(blk, .row 24 6 els)]) id m ((c.l.map encC).set m (cellsW y v1)) y v1 D1 i3 := by
  obtain ⟨m, y, v1, id, D1, rfl, hy, hal, rfl, rfl⟩ := h.al
  have hm := (List.getElem?_eq_some_iff.1 hy).1
  refine ⟨m, y, id, v1, D1, rfl, hm, rfl, ⟨?_, by rw [List.getElem?_set_self (by simpa using hm)], hal, by rw [h.tot]; simp, fun mm cs Dc' hr => ?_⟩⟩
  · rw [← h.at_, atN]
    simp [hy]
  · obtain ⟨cs0, D', h1, h2⟩ := h.plug mm _ _ ⟨m, y, cs, id, Dc', rfl, hy, hr, rfl, rfl⟩
    refine ⟨cs0, D', h1, ?_⟩
    rw [set_same h.get] at h2
    rw [List.set_set, ← h2]
    simp
theorem at_rep {x y : Nd} : ∀ {p : List Int}, atN x p = some y → ∀ m, ∃ x', repN x p m = some x' := by
  intro p
  induction p generalizing x with
  | nil => intro _ m; exact ⟨m, rfl⟩
  | cons i p ih =>
    intro h m
    obtain ⟨k, z, rfl, hz, h⟩ := at_head h
    obtain ⟨x', hx'⟩ := ih h m
    exact ⟨_, by simp [repN, hz, hx']; rfl⟩
theorem replace_c (x : Nd) (hx : x.size ≤ 1000000) (kk : VK) (path : List Int) (hp : path.length ≤ 1000000) (m : Nd) (hm : m.size ≤ 1000000) (s : St) : PCalls Try.prog 24 [encU x, ints kk path, encU m] s fun r s' => s' = s ∧
    ((∃ y x', atN x path = some y ∧ repN x path m = some x' ∧ r = .ret (.tup [encU x', .lit (.int .i64 0)])) ∨ (atN x path = none ∧ r = .ret (.tup [zeroN, .lit (.int .i64 4)]))) := by
  refine PCalls.conv (R := fun r s' => (∃ cs D y, r = .ret (.tup [.agg cs, .lit (.int .i64 0)]) ∧ atN x path = some y ∧ AlR path x m cs D ∧ (D.map Prod.fst).Nodup ∧ (∀ p ∈ D, s' p.1 = some p.2) ∧ s.sub s' ∧ (∀ i ∈ D.map Prod.fst, Fresh s i)) ∨
    (atN x path = none ∧ r = .ret (.tup [zeroN, .lit (.int .i64 4)]) ∧ s' = s)) ?_ ?_ ?_
  · refine PCalls.of Try.func24 rfl (by rfl) (by simp [Try.ntmps24]) ?_
    refine pwC_sound _ _ _ _ ?_
    simp +contextual (maxSteps := 1000000) [Try.ntmps24]
    intro i3 h3 i5 h53 h35 h5 i6 h63 h36 h65 h56 h6
    refine (find_c x hx kk path hp _).mono ?_
    rintro _ _ ⟨rfl, (⟨y, hy, rfl⟩ | ⟨hn, rfl⟩)⟩
    · simp +contextual (maxSteps := 1000000) [h53, h35, h63, h36, h65, h56]
      intro i8 h86 h68 h85 h58 h83 h38 h8
      generalize hσ : St.upd (St.upd (St.upd (St.upd s i3 _) i5 _) i6 _) i8 _ = σ
      have b3 : σ i3 = some (.row 24 6 [encC x]) := by rw [← hσ]; simp [h53, h35, h63, h36, h65, h56, h86, h68, h85, h58, h83, h38]
      have b5 : σ i5 = some (.row 24 6 [encC m]) := by rw [← hσ]; simp [h53, h35, h63, h36, h65, h56, h86, h68, h85, h58, h83, h38]
      have b6 : σ i6 = some (.row 24 6 [[.lit (.int .i64 0), .lit (.string ⟨#[]⟩), .lit (.int .i64 0), .lit (.int .i64 0), .lit (.int .i64 0), .vec .nil []]]) := by rw [← hσ]; simp [h53, h35, h63, h36, h65, h56, h86, h68, h85, h58, h83, h38]
      have hs : s.sub σ := by rw [← hσ]; simp [h3, h5, h6, h8, h53, h35, h63, h36, h65, h56, h86, h68, h85, h58, h83, h38]
      clear hσ
      refine (clone_c x hx path (by rw [hy]; simp) σ).mono ?_
      rintro _ _ ⟨v, D, rfl, hal, hnd, hfr, rfl⟩
      have hD : ∀ p ∈ D, putAll σ D p.1 = some p.2 := putAll_in σ D hnd
      have hsub := sub_putAll D hfr
      have nD : ∀ k b, σ k = some b → k ∉ D.map Prod.fst := fun k b hk hm => fresh_ne (hfr k hm) hk rfl
      have c3 := hsub _ _ b3
      have c5 := hsub _ _ b5
      have c6 := hsub _ _ b6
      have n3 := nD _ _ b3
      have n5 := nD _ _ b5
      have n6 := nD _ _ b6
      have hsD : s.sub ((putAll σ D).upd i3 (some (.row 24 6 [cellsW x v]))) := (hs.trans hsub).set h3
      have hDD : ∀ p ∈ (i3, Blk.row 24 6 [cellsW x v]) :: D, ((putAll σ D).upd i3 (some (.row 24 6 [cellsW x v]))) p.1 = some p.2 := by
        intro p hp
        rcases List.mem_cons.1 hp with rfl | hp
        · rw [St.upd_same]
        · rw [St.upd_ne _ _ (fun e => n3 (by rw [← e]; exact List.mem_map.2 ⟨p, hp, rfl⟩))]
          exact hD p hp
      have hnT : (((i3, Blk.row 24 6 [cellsW x v]) :: D).map Prod.fst).Nodup := List.nodup_cons.2 ⟨n3, hnd⟩
      simp [c3]
      have d6 : ((putAll σ D).upd i3 (some (.row 24 6 [cellsW x v]))) i6 = some (.row 24 6 [[.lit (.int .i64 0), .lit (.string ⟨#[]⟩), .lit (.int .i64 0), .lit (.int .i64 0), .lit (.int .i64 0), .vec .nil []]]) := by rw [St.upd_ne _ _ h65]; exact c6
      have d5 : ((putAll σ D).upd i3 (some (.row 24 6 [cellsW x v]))) i5 = some (.row 24 6 [encC m]) := by rw [St.upd_ne _ _ h53]; exact c5
      have hTf : ∀ q ∈ ((i3, Blk.row 24 6 [cellsW x v]) :: D).map Prod.fst, Fresh s q := by
        intro q hq
        rcases List.mem_cons.1 hq with rfl | hq
        · exact h3
        · exact hs.fresh (hfr q hq)
      have hR0 : RInv x path path ((i3, Blk.row 24 6 [cellsW x v]) :: D) [] i3 0 [cellsW x v] x v D i3 := ⟨rfl, rfl, hal, rfl, fun mm cs Dc' hr => ⟨cs, Dc', hr, rfl⟩⟩
      have n6T : i6 ∉ ((i3, Blk.row 24 6 [cellsW x v]) :: D).map Prod.fst := by
        intro hm
        rcases List.mem_cons.1 hm with hm | hm
        · exact h65 hm
        · exact n6 hm
      generalize hT : (i3, Blk.row 24 6 [cellsW x v]) :: D = T at hnT hDD hTf hR0 n6T
      generalize hτ : (putAll σ D).upd i3 _ = τ at hsD hDD d6 d5
      clear hτ c3 c5 c6 hD hsub n3 n5 n6 nD hfr
      refine PW.loop (fun n e s' => ∃ (j : Nat) (L : List (Nat × Blk)) (blk k : Nat) (els : List (List PV)) (c : Nd) (vv : PV) (Dc : List (Nat × Blk)), j + n = path.length ∧ RInv x path (path.drop j) T L blk k els c vv Dc i3 ∧
        e 3 = .pt i3 0 0 ∧ e 5 = .pt i5 0 0 ∧ e 6 = .pt i6 0 0 ∧ e 10 = .pt blk k 0 ∧ e 24 = ints kk path ∧ e 25 = .lit (.int .i64 path.length) ∧ e 26 = .lit (.int .i64 j) ∧ τ = s') path.length
        ⟨0, [], i3, 0, [cellsW x v], x, v, D, by simp, hR0, by simp, by simp, by simp, by simp, by simp, by simp, by simp, rfl⟩ ?_
      rintro n e s' ⟨j, L, blk, k, els, c, vv, Dc, hj, hR, e3, e5, e6, e10, e24, e25, e26, rfl⟩
      refine pwC_sound _ _ _ _ ?_
      have hblk : τ blk = some (.row 24 6 els) := hDD (blk, .row 24 6 els) (by rw [hR.tot]; simp)
      have hget := hR.get
      by_cases hlt : j < path.length
      · have hgp : path[j]? = some path[j] := List.getElem?_eq_getElem hlt
        rw [List.drop_eq_getElem_cons hlt] at hR
        obtain ⟨q, z, id, v1, D1, hq, hqm, rfl, hR'⟩ := hR.step
        simp [e3, e5, e6, e10, e24, e25, e26, hlt, hgp, hblk, hget, hq, hqm]
        rw [wrap_i64 (by omega) (by omega)]
        exact ⟨n - 1, by omega, j + 1, by omega, _, _, _, ⟨_, _, _, _, hR'⟩, ⟨rfl, rfl⟩, rfl⟩
      · have hjl : j = path.length := by omega
        subst hjl
        rw [List.drop_length] at hR
        obtain ⟨rfl, rfl⟩ := hR.al
        simp [e3, e5, e6, e10, e24, e25, e26, d5]
        refine (clone0_c m hm _).mono ?_
        rintro _ s2 ⟨h2, rfl⟩
        rw [h2]
        clear h2 s2
        obtain ⟨cs0, D', hr, hL⟩ := hR.plug m (encC m) [] ⟨rfl, rfl⟩
        have htot := hR.tot
        have hnT' := hnT
        rw [htot] at hnT' n6T hTf
        simp only [List.map_append, List.map_cons, List.map_nil] at hnT' n6T hTf
        have hall : ∀ p ∈ (i3, Blk.row 24 6 [cs0]) :: D', (St.upd τ blk (some (Blk.row 24 6 (els.set k (encC m))))) p.1 = some p.2 := by
          rw [← hL]
          intro p hp
          rcases List.mem_append.1 hp with hp | hp
          · have hm1 : p.1 ∈ L.map Prod.fst := List.mem_map.2 ⟨p, hp, rfl⟩
            rw [St.upd_ne _ _ (fun e => (List.nodup_append.1 hnT').2.2 _ hm1 blk (by simp) e)]
            exact hDD p (by rw [htot]; exact List.mem_append_left _ hp)
          · rcases List.mem_cons.1 hp with rfl | hp
            · rw [St.upd_same]
            · cases hp
        have hids : L.map Prod.fst ++ [blk] = i3 :: D'.map Prod.fst := by
          have := congrArg (List.map Prod.fst) hL
          simpa using this
        have t3 : (if i3 = blk then some (Blk.row 24 6 (els.set k (encC m))) else τ i3) = some (.row 24 6 [cs0]) := hall _ List.mem_cons_self
        have t6 : ¬ i6 = blk := fun e => n6T (by simp [e])
        have hc0 : cs0 = encC m ∨ ∃ id, cs0 = cellsW x (.sl id 6 0 x.l.length) := by
          cases path with
          | nil => exact .inl hr.2
          | cons i p => obtain ⟨_, _, _, id, _, _, _, _, h, _⟩ := hr; exact .inr ⟨id, h⟩
        rw [hids] at hnT'
        rw [hids] at hTf
        rw [hids] at n6T
        have f1 : ∀ (bb : Blk) (a : Nat) (b : Blk), (a, b) ∈ D' → (St.upd (St.upd τ blk (some (Blk.row 24 6 (els.set k (encC m))))) i6 (some bb)) a = some b := fun bb a b hab => by
          rw [St.upd_ne _ _ (fun e => n6T (by rw [← e]; exact List.mem_cons_of_mem _ (List.mem_map.2 ⟨(a, b), hab, rfl⟩)))]
          exact hall (a, b) (List.mem_cons_of_mem _ hab)
        have f2 : ∀ bb : Blk, s.sub (St.upd (St.upd τ blk (some (Blk.row 24 6 (els.set k (encC m))))) i6 (some bb)) := fun bb => (hsD.set (hTf blk (by rw [← hids]; simp))).set h6
        have f3 : ∀ (i : Nat) (x : Blk), (i, x) ∈ D' → Fresh s i := fun i b hab => hTf i (List.mem_cons_of_mem _ (List.mem_map.2 ⟨(i, b), hab, rfl⟩))
        rcases hc0 with rfl | ⟨id, rfl⟩
        · simp [e3, e5, e6, e10, hblk, hget, t3, t6, d6]
          exact ⟨_, sub_refl, ⟨y, hy⟩, D', hr, (List.nodup_cons.1 hnT').2, f1 _, f2 _, f3⟩
        · simp [e3, e5, e6, e10, hblk, hget, t3, t6, d6]
          exact ⟨_, sub_refl, ⟨y, hy⟩, D', hr, (List.nodup_cons.1 hnT').2, f1 _, f2 _, f3⟩
    · simp +contextual (maxSteps := 1000000) [h53, h35, h63, h36, h65, h56, zeroN]
      intro i8 h86 h68 h85 h58 h83 h38 h8
      simp [h53, h35, h63, h36, h65, h56, h86, h68, h85, h58, h83, h38, h3, h5, h6, h8, hn]
  · rintro p s' (⟨cs, D, y, h, hy, hal, hnd, hD, hs, hf⟩ | ⟨hn, h, rfl⟩)
    · cases h
      obtain ⟨x', hx'⟩ := at_rep hy m
      exact ⟨_, _, hal.freeze hx' hnd hD hs hf, rfl, .inl ⟨y, x', hy, hx', rfl⟩⟩
    · cases h
      exact ⟨_, _, .refl _ _, rfl, .inr ⟨hn, rfl⟩⟩
  · rintro c s' (⟨_, _, _, h, _⟩ | ⟨_, h, _⟩) <;> cases h
end Go.Pv
