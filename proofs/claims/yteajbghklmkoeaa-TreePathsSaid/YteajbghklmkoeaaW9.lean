/- The law TreePaths answers true. -/
import Derived.Test.YteajbghklmkoeaaW8
import Derived.Test.YteajbghklmkoeaaF11
import Derived.Test.YteajbghklmkoeaaF12
import Derived.Test.YteajbghklmkoeaaF15
import Derived.Test.YteajbghklmkoeaaOp06
namespace Go.Pv
open Go.Proofs
set_option linter.unusedVariables false
set_option linter.unusedSimpArgs false
set_option maxRecDepth 100000
set_option maxHeartbeats 1000000
def nd0 : Nd := ⟨0, ⟨#[]⟩, 0, 0, 0, []⟩
def atD (x : Nd) (p : List Int) : Nd := (atN x p).getD nd0
def atE (x : Nd) (p : List Int) : Int := if (atN x p).isSome then 0 else 4
def repD (x : Nd) (p : List Int) (m : Nd) : Nd := if (atN x p).isSome then (repN x p m).getD nd0 else nd0
theorem zero_nd0 : Wk zeroN (encU nd0) := Wk.aggs (.cons (.refl _) (.cons (.refl _) (.cons (.refl _) (.cons (.refl _) (.cons (.refl _) (.cons (.any .nil []) .nil))))))
theorem Wk.tups {cs ds : List PV} (h : Wks cs ds) : Wk (.tup cs) (.tup ds) := by
  refine .tup cs ds h.length_eq.symm ?_
  induction h with
  | nil => intro i c d hc; simp at hc
  | cons h _ ih =>
    intro i c d hc hd
    cases i with
    | zero => cases hc; cases hd; exact h
    | succ i => exact ih i c d hc hd
theorem at_conv {f : FuncId} {args : List PV} {s : St} {x : Nd} {p : List Int} (h : PCalls Try.prog f args s (fun r s' => s' = s ∧ ((∃ y, atN x p = some y ∧ r = .ret (.tup [encU y, .lit (.int .i64 0)])) ∨ (atN x p = none ∧ r = .ret (.tup [zeroN, .lit (.int .i64 4)]))))) :
    PCalls Try.prog f args s (fun r s' => s' = s ∧ r = .ret (.tup [encU (atD x p), .lit (.int .i64 (atE x p))])) := by
  refine PCalls.conv h ?_ ?_
  · rintro q s' ⟨rfl, (⟨y, hy, hq⟩ | ⟨hn, hq⟩)⟩
    · cases hq
      exact ⟨_, _, .refl _ _, rfl, by simp [atD, atE, hy]⟩
    · cases hq
      refine ⟨_, _, Conv.wk (.cons (Wk.tups (.cons zero_nd0 (.cons (.refl _) .nil))) .nil), rfl, ?_⟩
      simp [atD, atE, hn]
  · rintro c s' ⟨_, (⟨y, hy, hq⟩ | ⟨hn, hq⟩)⟩ <;> cases hq
theorem rep_conv {f : FuncId} {args : List PV} {s : St} {x m : Nd} {p : List Int} (h : PCalls Try.prog f args s (fun r s' => s' = s ∧ ((∃ y x', atN x p = some y ∧ repN x p m = some x' ∧ r = .ret (.tup [encU x', .lit (.int .i64 0)])) ∨ (atN x p = none ∧ r = .ret (.tup [zeroN, .lit (.int .i64 4)]))))) :
    PCalls Try.prog f args s (fun r s' => s' = s ∧ r = .ret (.tup [encU (repD x p m), .lit (.int .i64 (atE x p))])) := by
  refine PCalls.conv h ?_ ?_
  · rintro q s' ⟨rfl, (⟨y, x', hy, hx', hq⟩ | ⟨hn, hq⟩)⟩
    · cases hq
      exact ⟨_, _, .refl _ _, rfl, by simp [repD, atE, hy, hx']⟩
    · cases hq
      refine ⟨_, _, Conv.wk (.cons (Wk.tups (.cons zero_nd0 (.cons (.refl _) .nil))) .nil), rfl, ?_⟩
      simp [repD, atE, hn]
  · rintro c s' ⟨_, (⟨y, x', hy, _, hq⟩ | ⟨hn, hq⟩)⟩ <;> cases hq
theorem sum_set_le {l : List Nat} {k a : Nat} : (l.set k a).sum ≤ l.sum + a := by
  induction l generalizing k with
  | nil => simp
  | cons b l ih =>
    cases k with
    | zero => simp; omega
    | succ k => have := ih (k := k); simp; omega
theorem rep_size {x m x' : Nd} {p : List Int} (h : repN x p m = some x') : x'.size ≤ x.size * (p.length + 1) + m.size := by
  induction p generalizing x x' with
  | nil => cases h; omega
  | cons i p ih =>
    simp only [repN] at h
    split at h
    · split at h
      · rename_i z hz
        obtain ⟨z', hz', rfl⟩ := Option.map_eq_some_iff.1 h
        have h1 := ih hz'
        have hzx := Nd.mem_lt (List.mem_of_getElem? hz)
        have h2 := sum_set_le (l := x.l.map Nd.size) (k := i.toNat) (a := z'.size)
        have h3 := x.size_eq
        rw [Nd.size_eq]
        simp only [List.map_set, List.length_cons]
        have h4 : z.size * (p.length + 1) ≤ x.size * (p.length + 1) := Nat.mul_le_mul_right _ (by omega)
        rw [Nat.mul_add x.size (p.length + 1) 1, Nat.mul_one]
        omega
      · cases h
    · cases h
theorem nd0_size : nd0.size = 1 := by rw [Nd.size_eq]; rfl
theorem atD_size {x : Nd} {p : List Int} (hx : 1 ≤ x.size) : (atD x p).size ≤ x.size := by
  unfold atD
  cases h : atN x p with
  | none => rw [Option.getD_none, nd0_size]; exact hx
  | some y => exact at_size h
theorem repD_size {x m : Nd} {p : List Int} (hx : x.size ≤ 3000) (hm : m.size ≤ 3000) (hp : p.length ≤ 100) : (repD x p m).size ≤ 1000000 := by
  have n0 := nd0_size
  unfold repD
  split
  · cases h : repN x p m with
    | none => rw [Option.getD_none, n0]; omega
    | some y =>
      have := rep_size h
      have h2 : x.size * (p.length + 1) ≤ 3000 * 101 := Nat.mul_le_mul hx (by omega)
      rw [Option.getD_some]
      omega
  · omega
theorem paths_bounds (op : Int) (x : Nd) (hx : x.size ≤ 3000) : (opPaths op (walkN x [])).length ≤ 1000000000 ∧ ∀ p ∈ opPaths op (walkN x []), p.length ≤ 1000000000 := by
  have key : ∀ (n : Nat) (y : Nd) (q : List Int), y.size ≤ n → ∀ z ∈ walkN y q, z.1.length ≤ q.length + n := by
    intro n
    induction n with
    | zero => intro y q hy; have := y.size_pos; omega
    | succ n ih =>
      intro y q hy z hz
      rw [walkN_eq] at hz
      rcases List.mem_cons.1 hz with rfl | hz
      · simp
      · obtain ⟨⟨w, i⟩, hw, hz⟩ := List.mem_flatMap.1 hz
        have hwl : w ∈ y.l := by
          have := List.mem_zipIdx hw
          simp at this
          obtain ⟨h1, h2⟩ := this
          rw [h2]; exact List.getElem_mem _
        have := Nd.mem_lt hwl
        have := ih w (q ++ [(i : Int)]) (by omega) z hz
        simp at this
        omega
  constructor
  · have := opPaths_le op (walkN x [])
    rw [walkN_length] at this
    omega
  · intro p hp
    unfold opPaths at hp
    obtain ⟨z, hz, rfl⟩ := List.mem_map.1 hp
    have := key 3000 x [] hx z (List.mem_filter.1 hz).1
    simp at this
    omega
theorem tpaths_c (x m : Nd) (hx : Gd x) (hm : Gd m) (k : VK) (path : List Int) (hp : path.length ≤ 2 ^ 63 - 1) (s : St) : PCalls Try.prog 8 [encU x, encU m, ints k path] s (fun r s' => s' = s ∧ r = .ret (.lit (.bool true))) := by
  refine PCalls.of Try.func8 rfl (by rfl) (by simp [Try.ntmps8]) ?_
  refine pwC_sound _ _ _ _ ?_
  refine pwC_cut fun K hK => ?_
  simp [Try.ntmps8]
  intro i3 h3 i4 h43 h34 h4
  refine hK _ _ ?_
  clear hK K
  refine pwC_cut fun K hK => ?_
  simp [h43, h34]
  refine (heavy11_c .nil .nil [] [] (by simp) (by simp) x hx _).mono ?_
  rintro _ _ ⟨rfl, b, rfl, hb⟩
  cases b with
  | true =>
    simp [h43, h34]
    refine (awake_c _).mono ?_
    rintro _ _ ⟨rfl, rfl⟩
    simp [h3, h4, h43, h34]
  | false =>
    obtain ⟨-, -, hxs⟩ := hb rfl
    simp [h43, h34]
    refine (heavy11_c .nil .nil [] [] (by simp) (by simp) m hm _).mono ?_
    rintro _ _ ⟨rfl, b, rfl, hb⟩
    cases b with
    | true =>
      simp [h43, h34]
      refine (awake_c _).mono ?_
      rintro _ _ ⟨rfl, rfl⟩
      simp [h3, h4, h43, h34]
    | false =>
      obtain ⟨-, -, hms⟩ := hb rfl
      by_cases hpl : path.length ≤ 100
      · have hpl' : ¬ (100 : Int) < path.length := by omega
        simp [h43, h34, hpl, hpl']
        refine hK _ _ ?_
        clear hK K hb
        generalize hσ : St.upd (St.upd s i3 _) i4 _ = σ
        have b3 : σ i3 = some (.row 24 6 [encC x]) := by rw [← hσ]; simp [h43, h34]
        have b4 : σ i4 = some (.row 24 6 [encC m]) := by rw [← hσ]; simp [h43, h34]
        have hs : s.sub σ := by rw [← hσ]; simp [h3, h4, h43, h34]
        clear hσ
        have hax := atD_size (p := path) x.size_pos
        have hrx := repD_size (m := m) hxs hms hpl
        refine pwC_cut fun K hK => ?_
        simp [b3, b4]
        refine (at_conv (at_c x (by omega) k path (by omega) _)).mono ?_
        rintro _ _ ⟨rfl, rfl⟩
        simp
        intro i7 h7
        have n73 := fresh_ne h7 b3
        have n74 := fresh_ne h7 b4
        refine hK _ _ ?_
        clear hK K
        refine pwC_cut fun K hK => ?_
        simp [b3, b4, n73.symm, n74.symm]
        refine (at_conv (rat_c x (by omega) k path (by omega) _)).mono ?_
        rintro _ _ ⟨rfl, rfl⟩
        simp
        intro i9 h97 h79 h9
        have n93 := fresh_ne h9 b3
        have n94 := fresh_ne h9 b4
        refine hK _ _ ?_
        clear hK K
        refine pwC_cut fun K hK => ?_
        simp [b3, b4, n73.symm, n74.symm, n93.symm, n94.symm]
        refine (rep_conv (replace_c x (by omega) k path (by omega) m (by omega) _)).mono ?_
        rintro _ _ ⟨rfl, rfl⟩
        simp
        intro i11 h119 h911 h117 h711 h11
        have n113 := fresh_ne h11 b3
        have n114 := fresh_ne h11 b4
        refine hK _ _ ?_
        clear hK K
        refine pwC_cut fun K hK => ?_
        simp [b3, b4, n73.symm, n74.symm, n93.symm, n94.symm, n113.symm, n114.symm]
        refine (rep_conv (rreplace_c x (by omega) k path (by omega) m (by omega) _)).mono ?_
        rintro _ _ ⟨rfl, rfl⟩
        simp
        intro i13 h1311 h1113 h139 h913 h137 h713 h13
        have n133 := fresh_ne h13 b3
        have n134 := fresh_ne h13 b4
        refine hK _ _ ?_
        clear hK K
        refine pwC_cut fun K hK => ?_
        generalize hσ' : St.upd (St.upd (St.upd (St.upd _ i7 _) i9 _) i11 _) i13 _ = τ
        have e3 : τ i3 = some (.row 24 6 [encC x]) := by rw [← hσ']; simp [n73.symm, n93.symm, n113.symm, n133.symm, b3]
        have e4 : τ i4 = some (.row 24 6 [encC m]) := by rw [← hσ']; simp [n74.symm, n94.symm, n114.symm, n134.symm, b4]
        have e7 : τ i7 = some (.row 24 6 [encC (atD x path)]) := by rw [← hσ']; simp [h79, h711, h713]
        have e9 : τ i9 = some (.row 24 6 [encC (atD x path)]) := by rw [← hσ']; simp [h97, h911, h913]
        have e11 : τ i11 = some (.row 24 6 [encC (repD x path m)]) := by rw [← hσ']; simp [h119, h117, h1113]
        have e13 : τ i13 = some (.row 24 6 [encC (repD x path m)]) := by rw [← hσ']; simp
        have hs2 : s.sub τ := by rw [← hσ']; exact (((hs.upd h7).set (hs.fresh h9)).set (hs.fresh h11)).set (hs.fresh h13)
        clear hσ'
        simp
        generalize hE : Env.put _ _ _ = E
        have g3 : E 3 = .pt i3 0 0 := by rw [← hE]; simp
        have g4 : E 4 = .pt i4 0 0 := by rw [← hE]; simp
        have g7 : E 7 = .pt i7 0 0 := by rw [← hE]; simp
        have g8 : E 8 = .lit (.int .i64 (atE x path)) := by rw [← hE]; simp
        have g9 : E 9 = .pt i9 0 0 := by rw [← hE]; simp
        have g10 : E 10 = .lit (.int .i64 (atE x path)) := by rw [← hE]; simp
        have g11 : E 11 = .pt i11 0 0 := by rw [← hE]; simp
        have g12 : E 12 = .lit (.int .i64 (atE x path)) := by rw [← hE]; simp
        have g13 : E 13 = .pt i13 0 0 := by rw [← hE]; simp
        have g14 : E 14 = .lit (.int .i64 (atE x path)) := by rw [← hE]; simp
        clear hE
        refine PW.drawn (fun i => match i with | 2 => 4 | 11 => 4 | 22 => 4 | 26 => 4 | 27 => 4 | 31 => 4 | 33 => 4 | 34 => 4 | 37 => 4 | _ => 0) (List.range 40) mixed_ (fun _ _ _ _ h => h) (by kernel_rfl) ?_
        rw [show List.range 40 = [0, 1, 2, 3, 4, 5, 6, 7, 8, 9, 10, 11, 12, 13, 14, 15, 16, 17, 18, 19, 20, 21, 22, 23, 24, 25, 26, 27, 28, 29, 30, 31, 32, 33, 34, 35, 36, 37, 38, 39] from rfl]
        simp [e3, e4, e7, e9, e11, e13, g3, g4, g7, g8, g9, g10, g11, g12, g13, g14]
        refine steady_of (fun s => eqnode_c (atD x path) (by omega) true s) ?_
        simp [e3, e4, e7, e9, e11, e13, g3, g4, g7, g8, g9, g10, g11, g12, g13, g14]
        refine steady_of (fun s => eqnode_c (repD x path m) (by omega) true s) ?_
        simp [e3, e4, e7, e9, e11, e13, g3, g4, g7, g8, g9, g10, g11, g12, g13, g14]
        refine steady_of (fun s => paths_c x m.op (by omega) s) ?_
        simp [e3, e4, e7, e9, e11, e13, g3, g4, g7, g8, g9, g10, g11, g12, g13, g14]
        refine steady_of (fun s => rpaths_c x m.op (by omega) s) ?_
        simp [e3, e4, e7, e9, e11, e13, g3, g4, g7, g8, g9, g10, g11, g12, g13, g14]
        have pb1 := paths_bounds m.op x hxs
        have pb0 := paths_bounds 0 x hxs
        refine steady_of (fun s => eqlists_c _ pb1.1 pb1.2 s) ?_
        simp [e3, e4, e7, e9, e11, e13, g3, g4, g7, g8, g9, g10, g11, g12, g13, g14]
        refine steady_of (fun s => paths_c x 0 (by omega) s) ?_
        simp [e3, e4, e7, e9, e11, e13, g3, g4, g7, g8, g9, g10, g11, g12, g13, g14]
        refine steady_of (fun s => rpaths_c x 0 (by omega) s) ?_
        simp [e3, e4, e7, e9, e11, e13, g3, g4, g7, g8, g9, g10, g11, g12, g13, g14]
        refine steady_of (fun s => eqlists_c _ pb0.1 pb0.2 s) ?_
        simp [e3, e4, e7, e9, e11, e13, g3, g4, g7, g8, g9, g10, g11, g12, g13, g14]
        refine steady_of (fun s => awake_c s) ?_
        simp [e3, e4, e7, e9, e11, e13, g3, g4, g7, g8, g9, g10, g11, g12, g13, g14]
        refine hK _ _ ?_
        simp [hs2]
      · have hpl' : (100 : Int) < path.length := by omega
        simp [h43, h34, hpl, hpl']
        refine (awake_c _).mono ?_
        rintro _ _ ⟨rfl, rfl⟩
        simp [h3, h4, h43, h34]
theorem treePaths_c (x : Nd) (hx : Gd x) (_ : Gi x) (m : Nd) (hm : Gd m) (_ : Gi m) (path : List Int) (hp : path.length ≤ 2 ^ 63 - 1) (_ : ∀ y ∈ path, I64 y) (s : St) : PCalls Try.prog 8 [encU x, encU m, ints .any path] s (fun r s' => s' = s ∧ r = .ret (.lit (.bool true))) := tpaths_c x m hx hm .any path hp s
end Go.Pv
