/- strings.Builder: its own copy check, WriteString and String. -/
import Derived.Test.YteajbghklmkoeaaTy
import Derived.Test.YteajbghklmkoeaaNd
import Derived.Laws.Externs
import Derived.Lib.MakeNoZero
namespace Go.Pv
open Go.Proofs
set_option linter.unusedVariables false
set_option linter.unusedSimpArgs false
set_option maxRecDepth 100000
set_option maxHeartbeats 1000000
theorem noEsc_c (p : PV) (s : St) : PCalls Try.prog 85 [p] s (fun r s' => s' = s ∧ r = .ret p) := by
  refine .inr fun g w vs hH hA => ?_
  obtain ⟨v, rfl⟩ : ∃ v, vs = #[v] := by
    have h1 := hA.1
    obtain ⟨l⟩ := vs
    simp at h1
    obtain ⟨v, rfl⟩ := List.length_eq_one_iff.1 h1
    exact ⟨v, rfl⟩
  refine ⟨p, v, s, g, w, ?_, .refl _ _, hH, hA.2 0 p v rfl rfl, rfl, rfl⟩
  rw [run_callFunc_extern Try.func85 (by kernel_rfl) (by kernel_rfl) (by kernel_rfl) (e := Extern.AbiNoEscape.same) (by kernel_rfl)]
  rfl
theorem cv1 : cvT Try.prog 69 102 72 2 = true := by kernel_rfl
theorem cv2 : cvT Try.prog 102 69 72 2 = true := by kernel_rfl
theorem copyCheck_c (i : Nat) (p v : PV) (s : St) (hs : s i = some (.row 72 2 [[p, v]])) (hp : p = .lit (.pointer none) ∨ p = .pt i 0 0) :
    PCalls Try.prog 77 [.pt i 0 0] s (fun r s' => s' = s.upd i (some (.row 72 2 [[.pt i 0 0, v]])) ∧ r = .ret (.tup [])) := by
  refine PCalls.of Try.func77 rfl (by rfl) (by simp [Try.ntmps77]) ?_
  refine pwC_sound _ _ _ _ ?_
  rcases hp with rfl | rfl
  · simp [Try.ntmps77, hs, cv1]
    refine (noEsc_c _ _).mono ?_
    rintro _ _ ⟨rfl, rfl⟩
    simp [hs, cv2]
  · simp [Try.ntmps77, hs]
    rw [St.upd_self hs]
    exact sub_refl
/-- A builder in block i that holds the bytes b, over the blocks of base; gr: it may have been grown ahead. -/
def BldAt (gr : Bool) (base : St) (i : Nat) (b : List UInt8) (s : St) : Prop := Fresh base i ∧ ∃ p, (p = .lit (.pointer none) ∨ p = .pt i 0 0) ∧
  ((b = [] ∧ s = base.upd i (some (.row 72 2 [[p, .vec .nil []]]))) ∨
   ∃ j, (gr = true ∨ b ≠ []) ∧ j ≠ i ∧ Fresh base j ∧ s = (base.upd i (some (.row 72 2 [[p, .sl j 1 0 b.length]]))).upd j (some (.row 5 1 (b.map fun c => [.lit (.int .u8 c.toNat)]))))
theorem BldAt.at {gr : Bool} {base : St} {i : Nat} {b : List UInt8} {s : St} (h : BldAt gr base i b s) {k : Nat} {c : Blk} (hk : base k = some c) : s k = some c := by
  obtain ⟨hi, p, hp, ⟨rfl, rfl⟩ | ⟨j, hg, hj, hfj, rfl⟩⟩ := h
  · rw [St.upd_ne _ _ (fun e => by subst e; rw [show base k = none from hi] at hk; cases hk)]; exact hk
  · rw [St.upd_ne _ _ (fun e => by subst e; rw [show base k = none from hfj] at hk; cases hk), St.upd_ne _ _ (fun e => by subst e; rw [show base k = none from hi] at hk; cases hk)]; exact hk
theorem BldAt.new (base : St) (i : Nat) (hi : Fresh base i) : BldAt false base i [] (base.upd i (some (.row 72 2 [[.lit (.pointer none), .vec .nil []]]))) := ⟨hi, _, .inl rfl, .inl ⟨rfl, rfl⟩⟩
theorem write_c (gr : Bool) (base : St) (i : Nat) (b : List UInt8) (s : St) (h : BldAt gr base i b s) (t : ByteArray) (hl : b.length + t.size ≤ 100000000000000) :
    PCalls Try.prog 59 [.pt i 0 0, .lit (.string t)] s (fun r s' => BldAt gr base i (b ++ t.data.toList) s' ∧ r = .ret (.tup [.lit (.int .i64 t.size), .lit .nilIface])) := by
  refine PCalls.of Try.func59 rfl (by rfl) (by simp [Try.ntmps59]) ?_
  refine pwC_sound _ _ _ _ ?_
  obtain ⟨hi, p, hp, ⟨rfl, rfl⟩ | ⟨j, hg, hj, hfj, rfl⟩⟩ := h
  · simp [Try.ntmps59]
    refine (copyCheck_c i p (.vec .nil []) _ (by simp) hp).mono ?_
    rintro _ _ ⟨rfl, rfl⟩
    simp
    simp [appW, elemsOf]
    have htl : t.toList = t.data.toList := ByteArray.toList_eq t
    have hlen : t.data.toList.length = t.size := rfl
    rw [htl, hlen]
    refine ⟨fun h0 => ⟨_, sub_refl, ?_⟩, fun h0 => ⟨by simp at hl; omega, fun k hk => ?_⟩⟩
    · rw [h0]
      exact ⟨hi, .pt i 0 0, .inr rfl, .inl ⟨rfl, rfl⟩⟩
    · by_cases hki : k = i
      · rw [if_pos hki] at hk; cases hk
      · rw [if_neg hki] at hk
        have hik : ¬ i = k := fun e => hki e.symm
        simp [hik]
        refine ⟨_, sub_refl, hi, .pt i 0 0, .inr rfl, .inr ⟨k, .inr (by simp [h0]), hki, hk, ?_⟩⟩
        funext m
        simp only [St.upd]
        split <;> split <;> simp_all
  · simp [Try.ntmps59]
    refine (copyCheck_c i p (.sl j 1 0 b.length) _ (by simp [hj, Ne.symm hj]) hp).mono ?_
    rintro _ _ ⟨rfl, rfl⟩
    simp [hj, Ne.symm hj]
    simp [appW, elemsOf, hj, Ne.symm hj]
    have htl : t.toList = t.data.toList := ByteArray.toList_eq t
    have hlen : t.data.toList.length = t.size := rfl
    rw [htl, hlen]
    refine ⟨fun h0 => ⟨_, sub_refl, ?_⟩, fun h0 => ⟨by omega, fun k hk => ?_⟩⟩
    · rw [h0, List.append_nil]
      refine ⟨hi, .pt i 0 0, .inr rfl, .inr ⟨j, hg, hj, hfj, ?_⟩⟩
      funext m
      simp only [St.upd]
      split <;> split <;> simp_all
    · by_cases hki : k = i
      · rw [if_pos hki] at hk; cases hk
      · rw [if_neg hki] at hk
        by_cases hkj : k = j
        · rw [if_pos hkj] at hk; cases hk
        · rw [if_neg hkj, if_neg hki] at hk
          have hik : ¬ i = k := fun e => hki e.symm
          simp [hik]
          refine ⟨_, sub_refl, hi, .pt i 0 0, .inr rfl, .inr ⟨k, .inr (by simp [h0]), hki, hk, ?_⟩⟩
          funext m
          have hfj' : base j = none := hfj
          simp only [St.upd, List.map_append, List.length_append, hlen]
          by_cases h1 : m = i
          · subst h1; simp [hik, Ne.symm hj]
          · by_cases h2 : m = k
            · subst h2; simp [h1]
            · by_cases h3 : m = j
              · subst h3; simp [h1, h2, hfj']
              · simp [h1, h2, h3]
theorem bytesOf_map : ∀ (b : List UInt8), bytesOf (b.map fun c => [PV.lit (.int .u8 c.toNat)]) = some b
  | [] => rfl
  | c :: b => by
    have := c.toNat_lt
    have h1 : (0 : Int) ≤ (c.toNat : Int) ∧ (c.toNat : Int) < 256 := by omega
    simp only [List.map_cons, bytesOf, h1, and_self, if_true, bytesOf_map b, Option.map_some]
    simp
theorem string_c (gr : Bool) (base : St) (i : Nat) (b : List UInt8) (s : St) (h : BldAt gr base i b s) (hl : b.length ≤ 100000000000000) (hb : gr = false ∨ b ≠ []) :
    PCalls Try.prog 60 [.pt i 0 0] s (fun r s' => s' = base ∧ r = .ret (.lit (.string ⟨b.toArray⟩))) := by
  refine PCalls.of Try.func60 rfl (by rfl) (by simp [Try.ntmps60]) ?_
  refine pwC_sound _ _ _ _ ?_
  obtain ⟨hi, p, hp, ⟨rfl, rfl⟩ | ⟨j, hg, hj, hfj, rfl⟩⟩ := h
  · simp [Try.ntmps60]
    refine PW.drawn (fun i => 0) [0, 1, 2, 3, 5, 6, 7, 8, 9, 4, 10, 11] mixed_ (fun _ _ _ _ h => h) (by kernel_rfl) ?_
    simp
    exact sub_refl.set hi
  · simp [Try.ntmps60]
    refine PW.drawn (fun i => 0) [0, 1, 2, 3, 5, 6, 7, 8, 9, 4, 10, 11] mixed_ (fun _ _ _ _ h => h) (by kernel_rfl) ?_
    have hb0 : b ≠ [] := by
      rcases hb with rfl | hb
      · simpa using hg
      · exact hb
    have hbt : bytePT Try.prog 94 = some 5 := by kernel_rfl
    have hbs : bytesOf (b.map fun c => [PV.lit (.int .u8 c.toNat)]) = some b := bytesOf_map b
    have hpos : 0 < b.length := List.length_pos_iff.2 hb0
    simp [hj, Ne.symm hj, hb0, hbt]
    rw [List.take_of_length_le (by simp), hbs]
    simp
    refine ⟨hpos, by omega, fun k c hk => ?_⟩
    have hki : k ≠ i := fun e => by subst e; rw [show base k = none from hi] at hk; cases hk
    have hkj : k ≠ j := fun e => by subst e; rw [show base k = none from hfj] at hk; cases hk
    rw [St.upd_ne _ _ hkj, St.upd_ne _ _ hki]
    exact hk
theorem noZero_c (n : Nat) (hn : n ≤ 100000000000000) (s : St) : PCalls Try.prog 91 [.lit (.int .i64 n)] s (fun r s' => ∃ j, Fresh s j ∧ s' = s.upd j (some (.row 5 1 [])) ∧ r = .ret (.sl j 1 0 n)) := by
  refine .inr fun g w vs hH hA => ?_
  obtain ⟨v, rfl⟩ : ∃ v, vs = #[v] := by
    have h1 := hA.1
    obtain ⟨l⟩ := vs
    simp at h1
    obtain ⟨v, rfl⟩ := List.length_eq_one_iff.1 h1
    exact ⟨v, rfl⟩
  obtain ⟨rfl, _⟩ := (hA.2 0 _ v rfl rfl).lit_inv
  obtain ⟨cs, hrun, hle, _⟩ := Lib.run_makeNoZero (P := Try.prog) w #[3] 70 5 Try.underlying70 n (by omega)
  have hH' : Holds g s w.drew.drew := hH.heap rfl
  have hl0 : LE g w g w.drew.drew := ⟨⟨Nat.le_refl _, fun _ _ => rfl, fun _ h => h, fun _ _ => rfl⟩, rfl, rfl, rfl, Nat.le_refl _⟩
  have hmun : (g.more ⟨w.heap.size, cs.size, 1⟩).mu g.n = ⟨w.heap.size, cs.size, 1⟩ := by simp [G.more]
  refine ⟨.sl g.n 1 0 n, .slice (some ⟨w.heap.size, 0, none⟩) n cs.size, s.upd g.n (some (.row 5 1 [])), g.more ⟨w.heap.size, cs.size, 1⟩, pushed w.drew.drew (.cells cs 5 (0, 0)), ?_, hl0.trans (LE.more hH' ⟨w.heap.size, cs.size, 1⟩ _), ?_, ?_, g.n, hH.fresh _ (Nat.le_refl _), rfl, rfl⟩
  · rw [run_callFunc_extern Try.func91 (by kernel_rfl) (by kernel_rfl) (by kernel_rfl) (e := Extern.BytealgMakeNoZero.makeNoZero #[3] #[70]) (by kernel_rfl), hrun]
    rfl
  · exact hH'.newO _ cs.size 1 _ (.row _ 1 [] cs (by rw [show w.drew.drew.heap.size = w.heap.size from rfl, hmun]) (by rw [show w.drew.drew.heap.size = w.heap.size from rfl, hmun]; exact pushed_new _ _) (by rw [show w.drew.drew.heap.size = w.heap.size from rfl, hmun]) (by simp) (fun j cs hj => by simp at hj) (fun j cs f c hj => by simp at hj))
  · have := VR.sl (w := pushed w.drew.drew (.cells cs 5 (0, 0))) (g := g.more ⟨w.heap.size, cs.size, 1⟩) g.n 1 0 n cs.size (by simp [G.more]) hle (by rw [hmun]) (by rw [hmun]; simp)
    rw [hmun] at this
    simpa using this
theorem grow_c (i : Nat) (p : PV) (n : Nat) (hn : n ≤ 100000000000000) (s : St) (hs : s i = some (.row 72 2 [[p, .vec .nil []]])) :
    PCalls Try.prog 87 [.pt i 0 0, .lit (.int .i64 n)] s (fun r s' => ∃ j, Fresh s j ∧ s' = (s.upd j (some (.row 5 1 []))).upd i (some (.row 72 2 [[p, .sl j 1 0 0]])) ∧ r = .ret (.tup [])) := by
  refine PCalls.of Try.func87 rfl (by rfl) (by simp [Try.ntmps87]) ?_
  refine pwC_sound _ _ _ _ ?_
  simp [Try.ntmps87]
  refine PW.drawn (fun i => if i = 8 then 2 else 0) [0, 1, 2, 3, 4, 5, 6, 7, 9, 10, 11, 12, 13, 8, 14, 15] mixed_ (fun _ _ _ _ h => h) (by kernel_rfl) ?_
  have w1 : IntKind.i64.wrap (n : Int) = n := wrap_i64 (by omega) (by omega)
  have w0 : IntKind.i64.wrap 0 = 0 := wrap_i64 (by omega) (by omega)
  simp [hs, w1, w0]
  refine (noZero_c n hn _).mono ?_
  rintro _ _ ⟨j, hj, rfl, rfl⟩
  have hji := fresh_ne hj hs
  simp [hs, hji, Ne.symm hji, slc, bound, elemsOf]
  exact ⟨sub_refl.upd hj, _, sub_refl, j, hj, rfl⟩
theorem grown_c (base : St) (i : Nat) (n : Nat) (hn : n ≤ 100000000000000) (hi : Fresh base i) :
    PCalls Try.prog 80 [.pt i 0 0, .lit (.int .i64 n)] (base.upd i (some (.row 72 2 [[.lit (.pointer none), .vec .nil []]]))) (fun r s' => BldAt (decide (0 < n)) base i [] s' ∧ r = .ret (.tup [])) := by
  refine PCalls.of Try.func80 rfl (by rfl) (by simp [Try.ntmps80]) ?_
  refine pwC_sound _ _ _ _ ?_
  simp [Try.ntmps80]
  refine (copyCheck_c i (.lit (.pointer none)) (.vec .nil []) _ (by simp) (.inl rfl)).mono ?_
  rintro _ _ ⟨rfl, rfl⟩
  have h0 : ¬ (n : Int) < 0 := by omega
  simp [h0]
  have w0 : IntKind.i64.wrap 0 = 0 := wrap_i64 (by omega) (by omega)
  refine PW.drawn (fun i => 0) [0, 1, 2, 3, 4, 5, 6, 7, 8, 9, 10, 11, 12] mixed_ (fun _ _ _ _ h => h) (by kernel_rfl) ?_
  by_cases hn0 : 0 < n
  · have h1 : (0 : Int) < n := by omega
    simp [w0, h1, hn0]
    refine (grow_c i (.pt i 0 0) n hn _ (by simp)).mono ?_
    rintro _ _ ⟨j, hj, rfl, rfl⟩
    simp at hj
    obtain ⟨h1, h2, h3⟩ := hj
    simp
    refine ⟨_, sub_refl, hi, .pt i 0 0, .inr rfl, .inr ⟨j, .inl (by simp [hn0]), h1, h3, ?_⟩⟩
    funext m
    simp only [St.upd]
    split <;> split <;> simp_all
  · have h1 : ¬ (0 : Int) < n := by omega
    simp [w0, h1, hn0]
    exact ⟨_, sub_refl, hi, .pt i 0 0, .inr rfl, .inl ⟨rfl, rfl⟩⟩
end Go.Pv
