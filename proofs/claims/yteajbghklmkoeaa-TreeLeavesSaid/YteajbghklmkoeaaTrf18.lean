-- Written by a program: pp.py, this session's patched run of the kit's printer. Not trusted: Lean checks it.
import Derived.Test.YteajbghklmkoeaaTrx0
import Derived.Lib.Hide
namespace Go.Proofs.Yteajbghklmkoeaa.Tr
open Go.RowKit Go.Proofs.YteajbghklmkoeaaW.PrintWords Go.Proofs.YteajbghklmkoeaaW.PrintLast Go.Proofs.YteajbghklmkoeaaW.PrintMore
attribute [local go_sem] max2_int min2_int max_two min_two max_three min_three max_four min_four   -- for this text's walks alone
set_option linter.unusedVariables false
set_option linter.unusedSimpArgs false

/-! ### tree_Leaf: function 18 -/
def hits (tok : Int) (x : S24) : Bool := decide (x.f3 ≤ tok) && decide (tok < x.f4)
theorem leaf1_yes (tok : Int) (B : Nat) (a0 : Int) (a1 : ByteArray) (a2 a3 a4 : Int) (A5 : Option Addr) (n5 c5 : Nat) (w : World) (hB : w.cell? ⟨B, 0, none⟩ = some (.int .i64 tok)) (h1 : a3 ≤ tok) (h2 : tok < a4) :
    Calls Try.prog 50 #[.agg #[.int .i64 a0, .string a1, .int .i64 a2, .int .i64 a3, .int .i64 a4, .slice A5 n5 c5], .pointer (some ⟨B, 0, none⟩)] w fun e w' => e = .returned (.bool true) ∧ Below w.heap.size w w' := by
  have hlt : B < w.heap.size := World.block_lt_of_cell? w _ hB
  have hB' : ∀ o, (w.alloc o).cell? ⟨B, 0, none⟩ = some (.int .i64 tok) := fun o => (World.cell?_alloc_lt w o ⟨B, 0, none⟩ hlt).trans hB
  have g1 : decide (a3 ≤ tok) = true := decide_eq_true h1
  have g2 : decide (tok < a4) = true := decide_eq_true h2
  clear hB
  go_enter Try.func50, Try.ntmps50
  go_wp2
  go_ret
  exact ⟨rfl, (Below.refl _ _).alloc (Nat.le_refl _) _⟩
theorem leaf1_no1 (tok : Int) (B : Nat) (a0 : Int) (a1 : ByteArray) (a2 a3 a4 : Int) (A5 : Option Addr) (n5 c5 : Nat) (w : World) (hB : w.cell? ⟨B, 0, none⟩ = some (.int .i64 tok)) (h1 : tok < a3) :
    Calls Try.prog 50 #[.agg #[.int .i64 a0, .string a1, .int .i64 a2, .int .i64 a3, .int .i64 a4, .slice A5 n5 c5], .pointer (some ⟨B, 0, none⟩)] w fun e w' => e = .returned (.bool false) ∧ Below w.heap.size w w' := by
  have hlt : B < w.heap.size := World.block_lt_of_cell? w _ hB
  have hB' : ∀ o, (w.alloc o).cell? ⟨B, 0, none⟩ = some (.int .i64 tok) := fun o => (World.cell?_alloc_lt w o ⟨B, 0, none⟩ hlt).trans hB
  have g1 : decide (a3 ≤ tok) = false := decide_eq_false (by omega)
  clear hB
  go_enter Try.func50, Try.ntmps50
  go_wp2
  go_ret
  exact ⟨rfl, (Below.refl _ _).alloc (Nat.le_refl _) _⟩
theorem leaf1_no2 (tok : Int) (B : Nat) (a0 : Int) (a1 : ByteArray) (a2 a3 a4 : Int) (A5 : Option Addr) (n5 c5 : Nat) (w : World) (hB : w.cell? ⟨B, 0, none⟩ = some (.int .i64 tok)) (h1 : a3 ≤ tok) (h2 : a4 ≤ tok) :
    Calls Try.prog 50 #[.agg #[.int .i64 a0, .string a1, .int .i64 a2, .int .i64 a3, .int .i64 a4, .slice A5 n5 c5], .pointer (some ⟨B, 0, none⟩)] w fun e w' => e = .returned (.bool false) ∧ Below w.heap.size w w' := by
  have hlt : B < w.heap.size := World.block_lt_of_cell? w _ hB
  have hB' : ∀ o, (w.alloc o).cell? ⟨B, 0, none⟩ = some (.int .i64 tok) := fun o => (World.cell?_alloc_lt w o ⟨B, 0, none⟩ hlt).trans hB
  have g1 : decide (a3 ≤ tok) = true := decide_eq_true h1
  have g2 : decide (tok < a4) = false := decide_eq_false (by omega)
  clear hB
  go_enter Try.func50, Try.ntmps50
  go_wp2
  go_ret
  exact ⟨rfl, (Below.refl _ _).alloc (Nat.le_refl _) _⟩
theorem leaf1 (tok : Int) (B : Nat) (x : S24) (A5 : Option Addr) (c5 : Nat) (w : World) (hB : w.cell? ⟨B, 0, none⟩ = some (.int .i64 tok)) :
    Calls Try.prog 50 #[.agg #[.int .i64 x.f0, .string x.f1, .int .i64 x.f2, .int .i64 x.f3, .int .i64 x.f4, .slice A5 x.f5.length c5], .pointer (some ⟨B, 0, none⟩)] w fun e w' => e = .returned (.bool (hits tok x)) ∧ Below w.heap.size w w' := by
  by_cases h1 : x.f3 ≤ tok
  · by_cases h2 : tok < x.f4
    · have e : hits tok x = true := by simp [hits, h1, h2]
      rw [e]; exact leaf1_yes tok B _ _ _ _ _ _ _ _ w hB h1 h2
    · have e : hits tok x = false := by simp [hits, h1, h2]
      rw [e]; exact leaf1_no2 tok B _ _ _ _ _ _ _ _ w hB h1 (by omega)
  · have e : hits tok x = false := by simp [hits, h1]
    rw [e]; exact leaf1_no1 tok B _ _ _ _ _ _ _ _ w hB (by omega)
/-- The place of the first that is hit, from a place on. -/
def idxFrom (tok : Int) (l : List S24) : Nat → Nat → Int
  | 0, _ => -1
  | d + 1, i => if hits tok (rd_T24 l i) then (i : Int) else idxFrom tok l d (i + 1)
def idxOf (tok : Int) (l : List S24) : Int := idxFrom tok l l.length 0
theorem index_calls (tok : Int) (B : Nat) (A : Option Addr) (c : Nat) (l : List S24) (w : World) (hB : w.cell? ⟨B, 0, none⟩ = some (.int .i64 tok)) (hr : Kd.C k24 w A l.length l) :
    Calls Try.prog 49 #[.slice A l.length c, .func (.func 50) #[] #[.pointer (some ⟨B, 0, none⟩)]] w fun e w' => e = .returned (.int .i64 (idxOf tok l)) ∧ Below w.heap.size w w' := by
  have hlt : B < w.heap.size := World.block_lt_of_cell? w _ hB
  have hmax : l.length ≤ 9223372036854775807 := hr.2.1
  have HB := Aside0.mk hB
  have HR := Aside0.mk hr
  clear hB hr
  go_enter Try.func49, Try.ntmps49
  go_wp2
  go_loopw [8] (fun v8 wr => ∃ k : Nat, k ≤ l.length ∧ v8 = .int .i64 (k : Int) ∧ Aside0 (idxOf tok l = idxFrom tok l (l.length - k) k) ∧ Aside0 (Below w.heap.size w wr)) (fun v8 _ => l.length - (intOf v8).toNat)
  case atStart => exact ⟨0, Nat.zero_le _, rfl, ⟨rfl⟩, ⟨Below.refl _ _⟩⟩
  case round =>
    obtain ⟨k, hk, rfl, HI, HW⟩ := hrel
    by_cases hlt2 : k < l.length
    · obtain ⟨ad, A5, c5, e1, x0, x1, x2, x3, x4, x5, hl5, hi5⟩ := at_T24 HR.out (k : Int) (by omega) (by omega)
      cases e1
      simp only [Int.toNat_natCast] at x0 x1 x2 x3 x4 x5
      replace x0 := (HW.out.cell (World.block_lt_of_cell? w _ x0)).trans x0
      replace x1 := (HW.out.cell (World.block_lt_of_cell? w _ x1)).trans x1
      replace x2 := (HW.out.cell (World.block_lt_of_cell? w _ x2)).trans x2
      replace x3 := (HW.out.cell (World.block_lt_of_cell? w _ x3)).trans x3
      replace x4 := (HW.out.cell (World.block_lt_of_cell? w _ x4)).trans x4
      replace x5 := (HW.out.cell (World.block_lt_of_cell? w _ x5)).trans x5
      have hBr := (HW.out.cell (p := ⟨B, 0, none⟩) hlt).trans HB.out
      have HBr := Aside0.mk hBr
      clear hBr
      have q0 : decide ((k : Int) < (l.length : Int)) = true := decide_eq_true (by omega)
      have q1 : decide (k < l.length) = true := decide_eq_true hlt2
      cases hh : hits tok (rd_T24 l (k : Int)) with
      | true =>
        have hc := leaf1 tok B (rd_T24 l (k : Int)) A5 c5 wr HBr.out
        rw [hh] at hc
        have HC := Lib.hid hc
        clear hc
        have hi : idxOf tok l = (k : Int) := by
          rw [HI.out, show l.length - k = (l.length - k - 1) + 1 by omega]
          simp only [idxFrom, hh, if_true]
        have HI2 := Aside0.mk hi
        clear hi hh
        go_wp2_with fail
        refine HC.out.mono ?_
        rintro e w1 ⟨rfl, hb1⟩
        have HB1 := Aside0.mk hb1
        clear hb1
        go_wp2
        go_ret
        exact ⟨by rw [HI2.out]; rfl, below_step HW.out HB1.out⟩
      | false =>
        have hc := leaf1 tok B (rd_T24 l (k : Int)) A5 c5 wr HBr.out
        rw [hh] at hc
        have HC := Lib.hid hc
        clear hc
        have hi : idxOf tok l = idxFrom tok l (l.length - (k + 1)) (k + 1) := by
          rw [HI.out, show l.length - k = (l.length - (k + 1)) + 1 by omega]
          simp only [idxFrom, hh]
          rfl
        have HI2 := Aside0.mk hi
        clear hi hh
        go_wp2_with fail
        refine HC.out.mono ?_
        rintro e w1 ⟨rfl, hb1⟩
        have HB1 := Aside0.mk hb1
        clear hb1
        go_wp2
        go_roundw
        case rel => exact ⟨k + 1, by omega, by go_num, HI2, ⟨below_step HW.out HB1.out⟩⟩
        case measure => simp [intOf]; omega
    · have hkl : k = l.length := by omega
      have hi : idxOf tok l = -1 := by
        rw [HI.out, hkl]
        simp [idxFrom]
      have HI2 := Aside0.mk hi
      have q0 : decide ((k : Int) < (l.length : Int)) = false := decide_eq_false (by omega)
      have q1 : decide (k < l.length) = false := decide_eq_false hlt2
      clear hi hkl
      go_wp2
      go_ret
      exact ⟨by rw [HI2.out]; rfl, HW.out⟩

theorem info3_ : (Try.prog.info? 3).map (fun i => (i.zero, i.size, i.bytes)) = some (some (.int .i64 0), 1, 8) := by kernel_rfl

def tree_Leaf.g : Nat → List S24 → Int → List Int → Option (List Int)
  | 0, _, _, _ => none
  | k + 1, l, tok, acc => if idxOf tok l < 0 then some acc else if acc.length < 17592186044416 then tree_Leaf.g k (rd_T24 l (idxOf tok l)).f5 tok (acc ++ [idxOf tok l]) else none
def tree_Leaf.f (k : Nat) (a0_0 : Int) (a0_1 : ByteArray) (a0_2 : Int) (a0_3 : Int) (a0_4 : Int) (l0_5 : List S24) (a1 : Int) : Option (List Int × Int) :=
  if a1 < a0_3 then some ([], 4) else if a1 ≥ a0_4 then some ([], 4) else (tree_Leaf.g k l0_5 a1 []).bind fun p => some (p, 0)
theorem tree_Leaf.mono_g : ∀ k l tok acc, LeO (tree_Leaf.g k l tok acc) (tree_Leaf.g (k + 1) l tok acc)
  | 0, _, _, _ => fun r h => by simp [tree_Leaf.g] at h
  | k + 1, l, tok, acc => by
    unfold tree_Leaf.g
    exact LeO.ite (LeO.refl _) (LeO.ite (tree_Leaf.mono_g k _ _ _) (LeO.none _))
theorem tree_Leaf.mono : ∀ a0 a1 a2 a3 a4 a5 a6 k, LeO (tree_Leaf.f k a0 a1 a2 a3 a4 a5 a6) (tree_Leaf.f (k + 1) a0 a1 a2 a3 a4 a5 a6) := by
  intro a0 a1 a2 a3 a4 a5 a6 k
  unfold tree_Leaf.f
  exact LeO.ite (LeO.refl _) (LeO.ite (LeO.refl _) (LeO.bind (tree_Leaf.mono_g k _ _ _) (fun _ => LeO.refl _)))
theorem idxFrom_lt (tok : Int) (l : List S24) : ∀ d i, idxFrom tok l d i < (i : Int) + d ∧ (-1 ≤ idxFrom tok l d i)
  | 0, i => by simp [idxFrom]; omega
  | d + 1, i => by
    have := idxFrom_lt tok l d (i + 1)
    simp only [idxFrom]
    split <;> omega
theorem idxOf_lt (tok : Int) (l : List S24) : idxOf tok l < (l.length : Int) ∨ (l = [] ∧ idxOf tok l = -1) := by
  have := (idxFrom_lt tok l l.length 0).1
  exact .inl (by unfold idxOf; omega)
theorem idxOf_ge (tok : Int) (l : List S24) : -1 ≤ idxOf tok l := (idxFrom_lt tok l l.length 0).2
theorem leaf_no1 (a0_0 : Int) (a0_1 : ByteArray) (a0_2 a0_3 a0_4 : Int) (A0_5 : Option Addr) (n c0_5 : Nat) (a1 : Int) (w : World) (h1 : a1 < a0_3) :
    Calls Try.prog 18 #[.agg #[.int .i64 a0_0, .string a0_1, .int .i64 a0_2, .int .i64 a0_3, .int .i64 a0_4, .slice A0_5 n c0_5], .int .i64 a1] w fun e w' => e = .returned (.tuple #[.slice none 0 0, .int .i64 4]) ∧ Below w.heap.size w w' := by
  have g1 : decide (a1 < a0_3) = true := decide_eq_true h1
  go_enter Try.func18, Try.ntmps18
  go_wp2
  go_ret2
  exact ⟨rfl, ((Below.refl _ _).alloc (Nat.le_refl _) _).alloc (by simp) _⟩
theorem leaf_no2 (a0_0 : Int) (a0_1 : ByteArray) (a0_2 a0_3 a0_4 : Int) (A0_5 : Option Addr) (n c0_5 : Nat) (a1 : Int) (w : World) (h1 : a0_3 ≤ a1) (h2 : a0_4 ≤ a1) :
    Calls Try.prog 18 #[.agg #[.int .i64 a0_0, .string a0_1, .int .i64 a0_2, .int .i64 a0_3, .int .i64 a0_4, .slice A0_5 n c0_5], .int .i64 a1] w fun e w' => e = .returned (.tuple #[.slice none 0 0, .int .i64 4]) ∧ Below w.heap.size w w' := by
  have g1 : decide (a1 < a0_3) = false := decide_eq_false (by omega)
  have g2 : decide (a0_4 ≤ a1) = true := decide_eq_true h2
  go_enter Try.func18, Try.ntmps18
  go_wp2
  go_ret2
  exact ⟨rfl, ((Below.refl _ _).alloc (Nat.le_refl _) _).alloc (by simp) _⟩
set_option maxHeartbeats 8000000 in
set_option maxRecDepth 100000 in
theorem leaf_yes (k : Nat) (a0_0 : Int) (a0_1 : ByteArray) (a0_2 a0_3 a0_4 : Int) (A0_5 : Option Addr) (c0_5 : Nat) (l0_5 : List S24) (a1 : Int) (r : List Int) (w : World) (hr : Kd.C k24 w A0_5 l0_5.length l0_5) (hc : l0_5.length ≤ c0_5) (h1 : a0_3 ≤ a1) (h2 : a1 < a0_4) (h : tree_Leaf.g k l0_5 a1 [] = some r) :
    Calls Try.prog 18 #[.agg #[.int .i64 a0_0, .string a0_1, .int .i64 a0_2, .int .i64 a0_3, .int .i64 a0_4, .slice A0_5 l0_5.length c0_5], .int .i64 a1] w fun e w' => ∃ v0_ : Value, e = .returned (.tuple #[v0_, .int .i64 0]) ∧ Kd.R (Kd.int .i64) 3 w' w.heap.size (fun _ => True) v0_ r ∧ Below w.heap.size w w' := by
  have g1 : decide (a1 < a0_3) = false := decide_eq_false (by omega)
  have g2 : decide (a0_4 ≤ a1) = false := decide_eq_false (by omega)
  have HR := Aside0.mk hr
  have HC := Aside0.mk hc
  have H := Aside0.mk h
  clear hr hc h
  have hu31 := Try.underlying31
  go_enter Try.func18, Try.ntmps18
  go_wp2
  go_loopg [6] k (fun kq v6 w' => ∃ (f0 : Int) (f1 : ByteArray) (f2 f3 f4 : Int) (A : Option Addr) (c : Nat) (l : List S24) (p : List Int), Aside0 (tree_Leaf.g kq l a1 p = some r) ∧ Aside0 (kq ≤ k) ∧
    Aside0 (Kd.R (Kd.int .i64) 3 w' w.heap.size (fun k_ => k_ ≠ w.heap.size ∧ k_ ≠ w.heap.size + 1) v6 p) ∧
    Aside0 (w'.heap[w.heap.size]? = some (.cells #[.int .i64 f0, .string f1, .int .i64 f2, .int .i64 f3, .int .i64 f4, .slice A l.length c] 24 (0, 0))) ∧
    Aside0 (w'.heap[w.heap.size + 1]? = some (.cells #[.int .i64 a1] 3 (0, 0))) ∧ Aside0 (Kd.C k24 w A l.length l) ∧ Aside0 (l.length ≤ c) ∧ Aside0 (Below w.heap.size w w'))
  case atStart =>
    refine ⟨a0_0, a0_1, a0_2, a0_3, a0_4, A0_5, c0_5, l0_5, [], H, ⟨Nat.le_refl _⟩, ⟨Kd.R_nil _ _ _ _ _⟩, ⟨?_⟩, ⟨?_⟩, HR, HC, ⟨((Below.refl _ _).alloc (Nat.le_refl _) _).alloc (by simp) _⟩⟩
    · exact blk_alloc (heap_alloc_new w _) _
    · have h_ := heap_alloc_new (w.alloc (.cells #[.int .i64 a0_0, .string a0_1, .int .i64 a0_2, .int .i64 a0_3, .int .i64 a0_4, .slice A0_5 l0_5.length c0_5] 24)) (.cells #[.int .i64 a1] 3)
      rw [World.size_alloc] at h_
      exact h_
  case round =>
    obtain ⟨f0, f1, f2, f3, f4, A, c, l, p, HA, HK1, HO, BKN, BKT, HRl, HCl, HB⟩ := hrel
    cases gk with
    | zero => exact absurd HA.out (by simp [tree_Leaf.g])
    | succ k1 =>
      have H1 := HA.out
      clear HA
      simp only [tree_Leaf.g] at H1
      have hT : wr.cell? ⟨w.heap.size + 1, 0, none⟩ = some (.int .i64 a1) := (blk_cell BKT.out 0).trans rfl
      have hN5 : wr.cell? ⟨w.heap.size, 5, none⟩ = some (.slice A l.length c) := (blk_cell BKN.out 5).trans rfl
      have hq := index_calls a1 (w.heap.size + 1) A c l wr hT (Kd.C_below HRl.out HB.out)
      obtain ⟨x, hx⟩ : ∃ x, x = idxOf a1 l := ⟨_, rfl⟩
      have hge := idxOf_ge a1 l
      have hlt := idxOf_lt a1 l
      rw [← hx] at hq H1 hge hlt
      have HQ := Lib.hid hq
      have HX := Aside0.mk hx
      clear hq hT hx
      by_cases c1 : x < 0
      · rw [if_pos c1] at H1
        obtain rfl := Option.some.inj H1
        have c1b : decide (x < 0) = true := decide_eq_true c1
        clear c1 hge hlt
        go_wp2_with fail
        refine HQ.out.mono ?_
        rintro e w1 ⟨rfl, hb1⟩
        have HB1 := Aside0.mk hb1
        clear hb1 hN5
        go_wp2
        go_ret2
        exact ⟨_, rfl, Kd.R_mono (Kd.R_below HO.out HB1.out) (fun _ _ => trivial), below_step HB.out HB1.out⟩
      · rw [if_neg c1] at H1
        have c1b : decide (x < 0) = false := decide_eq_false c1
        by_cases c2 : p.length < 17592186044416
        · rw [if_pos c2] at H1
          have hx0 : 0 ≤ x := by omega
          have hxl : x < (l.length : Int) := by
            rcases hlt with h | ⟨h, h'⟩
            · exact h
            · omega
          obtain ⟨ad, A5, c5, e1, y0, y1, y2, y3, y4, y5, hl5, hi5⟩ := at_T24 HRl.out x hx0 hxl
          cases e1
          have Y0 := Aside0.mk y0
          have Y1 := Aside0.mk y1
          have Y2 := Aside0.mk y2
          have Y3 := Aside0.mk y3
          have Y4 := Aside0.mk y4
          have Y5 := Aside0.mk y5
          have HL5 := Aside0.mk hl5
          have HI5 := Aside0.mk hi5
          have HM2 := Aside0.mk c2
          have H2 := Aside0.mk H1
          clear y0 y1 y2 y3 y4 y5 hl5 hi5 c2 H1 hge hlt c1
          go_wp2_with fail
          refine HQ.out.mono ?_
          rintro e w1 ⟨rfl, hb1⟩
          have HB1 := Aside0.mk hb1
          clear hb1 hN5 HQ
          have BKN1 := Aside0.mk (blk_below BKN.out HB1.out)
          have BKT1 := Aside0.mk (blk_below BKT.out HB1.out)
          have HO1 := Aside0.mk (Kd.R_below HO.out HB1.out)
          have HBw1 := Aside0.mk (below_step HB.out HB1.out)
          clear HO BKN BKT HB1 HB
          go_wp2_with (at_builtin; refine Kd.R_append (Kd.int .i64) (w0 := w) w.heap.size rfl (.tmp 25) (.tmp 27) 31 3 (.int .i64 0) 8 rfl Try.underlying31 info3_ rfl (by decide) (by omega) u6 p x [.int .i64 x] (fun k_ => k_ ≠ w.heap.size ∧ k_ ≠ w.heap.size + 1) (fun _ => False) rfl rfl rfl (fun _ h_ => h_.elim) (fun k_ hk_ => by have h1_ := blk_lt BKN1.out; have h2_ := blk_lt BKT1.out; omega) HO1.out HBw1.out HBw1.out.size (by have := HM2.out; omega) ?_; intro v1 w2 hR hB hg hat; have HR2 := Aside0.mk hR; have HB2 := Aside0.mk hB; have BKN2 := Aside0.mk (blk_grown BKN1.out hg (fun e_ => (HO1.out.1 _ e_.symm).1 rfl)); have BKT2 := Aside0.mk (blk_grown BKT1.out hg (fun e_ => (HO1.out.1 _ e_.symm).2 rfl)); clear hR hB hg hat; have n0_ : w2.cell? ⟨w.heap.size, 0, none⟩ = some (.int .i64 f0) := (blk_cell BKN2.out 0).trans rfl; have z0_ := blk_frozen BKN2.out 0; have s0_ := (HB2.out.cell (World.block_lt_of_cell? w _ Y0.out)).trans Y0.out; have n1_ : w2.cell? ⟨w.heap.size, 1, none⟩ = some (.string f1) := (blk_cell BKN2.out 1).trans rfl; have z1_ := blk_frozen BKN2.out 1; have s1_ := (HB2.out.cell (World.block_lt_of_cell? w _ Y1.out)).trans Y1.out; have n2_ : w2.cell? ⟨w.heap.size, 2, none⟩ = some (.int .i64 f2) := (blk_cell BKN2.out 2).trans rfl; have z2_ := blk_frozen BKN2.out 2; have s2_ := (HB2.out.cell (World.block_lt_of_cell? w _ Y2.out)).trans Y2.out; have n3_ : w2.cell? ⟨w.heap.size, 3, none⟩ = some (.int .i64 f3) := (blk_cell BKN2.out 3).trans rfl; have z3_ := blk_frozen BKN2.out 3; have s3_ := (HB2.out.cell (World.block_lt_of_cell? w _ Y3.out)).trans Y3.out; have n4_ : w2.cell? ⟨w.heap.size, 4, none⟩ = some (.int .i64 f4) := (blk_cell BKN2.out 4).trans rfl; have z4_ := blk_frozen BKN2.out 4; have s4_ := (HB2.out.cell (World.block_lt_of_cell? w _ Y4.out)).trans Y4.out; have n5_ : w2.cell? ⟨w.heap.size, 5, none⟩ = some (.slice (some ad) l.length c) := (blk_cell BKN2.out 5).trans rfl; have z5_ := blk_frozen BKN2.out 5; have s5_ := (HB2.out.cell (World.block_lt_of_cell? w _ Y5.out)).trans Y5.out)
          go_roundg k1
          case measure => have := HK1.out; omega
          case rel =>
            refine ⟨(rd_T24 l x).f0, (rd_T24 l x).f1, (rd_T24 l x).f2, (rd_T24 l x).f3, (rd_T24 l x).f4, A5, c5, (rd_T24 l x).f5, p ++ [x], ?_, ⟨by have := HK1.out; omega⟩, ⟨?_⟩, ⟨?_⟩, ⟨?_⟩, HI5, HL5, ⟨?_⟩⟩
            · exact H2
            · refine Kd.R_far (p := ⟨w.heap.size, 5, none⟩) ?_ (fun k_ hk_ => hk_.1) _
              refine Kd.R_far (p := ⟨w.heap.size, 4, none⟩) ?_ (fun k_ hk_ => hk_.1) _
              refine Kd.R_far (p := ⟨w.heap.size, 3, none⟩) ?_ (fun k_ hk_ => hk_.1) _
              refine Kd.R_far (p := ⟨w.heap.size, 2, none⟩) ?_ (fun k_ hk_ => hk_.1) _
              refine Kd.R_far (p := ⟨w.heap.size, 1, none⟩) ?_ (fun k_ hk_ => hk_.1) _
              refine Kd.R_far (p := ⟨w.heap.size, 0, none⟩) ?_ (fun k_ hk_ => hk_.1) _
              exact HR2.out
            · (with_reducible refine blk_put (cs := #[.int .i64 (rd_T24 l x).f0, .string (rd_T24 l x).f1, .int .i64 (rd_T24 l x).f2, .int .i64 (rd_T24 l x).f3, .int .i64 (rd_T24 l x).f4, .slice (some ad) l.length c]) ?_ 5 _ rfl)
              refine blk_put (cs := #[.int .i64 (rd_T24 l x).f0, .string (rd_T24 l x).f1, .int .i64 (rd_T24 l x).f2, .int .i64 (rd_T24 l x).f3, .int .i64 f4, .slice (some ad) l.length c]) ?_ 4 _ rfl
              refine blk_put (cs := #[.int .i64 (rd_T24 l x).f0, .string (rd_T24 l x).f1, .int .i64 (rd_T24 l x).f2, .int .i64 f3, .int .i64 f4, .slice (some ad) l.length c]) ?_ 3 _ rfl
              refine blk_put (cs := #[.int .i64 (rd_T24 l x).f0, .string (rd_T24 l x).f1, .int .i64 f2, .int .i64 f3, .int .i64 f4, .slice (some ad) l.length c]) ?_ 2 _ rfl
              refine blk_put (cs := #[.int .i64 (rd_T24 l x).f0, .string f1, .int .i64 f2, .int .i64 f3, .int .i64 f4, .slice (some ad) l.length c]) ?_ 1 _ rfl
              refine blk_put (cs := #[.int .i64 f0, .string f1, .int .i64 f2, .int .i64 f3, .int .i64 f4, .slice (some ad) l.length c]) ?_ 0 _ rfl
              exact BKN2.out
            · have ne_ : w.heap.size + 1 ≠ w.heap.size := by omega
              refine blk_far (p := ⟨w.heap.size, 5, none⟩) ?_ ne_ _
              refine blk_far (p := ⟨w.heap.size, 4, none⟩) ?_ ne_ _
              refine blk_far (p := ⟨w.heap.size, 3, none⟩) ?_ ne_ _
              refine blk_far (p := ⟨w.heap.size, 2, none⟩) ?_ ne_ _
              refine blk_far (p := ⟨w.heap.size, 1, none⟩) ?_ ne_ _
              refine blk_far (p := ⟨w.heap.size, 0, none⟩) ?_ ne_ _
              exact BKT2.out
            · refine below_set (g := w.heap.size) (j := 5) ?_ (Nat.le_refl _)
              refine below_set (g := w.heap.size) (j := 4) ?_ (Nat.le_refl _)
              refine below_set (g := w.heap.size) (j := 3) ?_ (Nat.le_refl _)
              refine below_set (g := w.heap.size) (j := 2) ?_ (Nat.le_refl _)
              refine below_set (g := w.heap.size) (j := 1) ?_ (Nat.le_refl _)
              refine below_set (g := w.heap.size) (j := 0) ?_ (Nat.le_refl _)
              exact HB2.out
        · rw [if_neg c2] at H1
          exact absurd H1 (by simp)
theorem tree_Leaf.calls (k : Nat) (a0_0 : Int) (a0_1 : ByteArray) (a0_2 : Int) (a0_3 : Int) (a0_4 : Int) (A0_5 : Option Addr) (c0_5 : Nat) (l0_5 : List (S24)) (a1 : Int) (r1 : List Int) (r2 : Int) (w : World) (hr0_5 : Kd.C k24 w A0_5 l0_5.length l0_5) (hc0_5 : l0_5.length ≤ c0_5) (h : tree_Leaf.f k a0_0 a0_1 a0_2 a0_3 a0_4 l0_5 a1 = some (r1, r2)) :
    Calls Try.prog 18 #[.agg #[.int .i64 a0_0, .string a0_1, .int .i64 a0_2, .int .i64 a0_3, .int .i64 a0_4, .slice A0_5 l0_5.length c0_5], .int .i64 a1] w fun e w' => ∃ v0_ : Value, e = .returned (.tuple #[v0_, .int .i64 r2]) ∧ Kd.R (Kd.int .i64) 3 w' w.heap.size (fun _ => True) v0_ r1 ∧ Below w.heap.size w w' := by
  unfold tree_Leaf.f at h
  by_cases h1 : a1 < a0_3
  · rw [if_pos h1] at h
    cases h
    exact (leaf_no1 a0_0 a0_1 a0_2 a0_3 a0_4 A0_5 _ c0_5 a1 w h1).mono fun e w' ⟨he, hb⟩ => ⟨_, he, Kd.R_nil _ _ _ _ _, hb⟩
  · rw [if_neg h1] at h
    by_cases h2 : a1 ≥ a0_4
    · rw [if_pos h2] at h
      cases h
      exact (leaf_no2 a0_0 a0_1 a0_2 a0_3 a0_4 A0_5 _ c0_5 a1 w (by omega) h2).mono fun e w' ⟨he, hb⟩ => ⟨_, he, Kd.R_nil _ _ _ _ _, hb⟩
    · rw [if_neg h2] at h
      obtain ⟨p, hp, hq⟩ := Option.bind_eq_some_iff.1 h
      cases hq
      exact leaf_yes k a0_0 a0_1 a0_2 a0_3 a0_4 A0_5 c0_5 l0_5 a1 _ w hr0_5 hc0_5 (by omega) (by omega) hp

end Go.Proofs.Yteajbghklmkoeaa.Tr
