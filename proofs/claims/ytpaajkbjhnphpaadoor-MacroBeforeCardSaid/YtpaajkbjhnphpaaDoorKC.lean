/- Several texts, one behind the other. -/
import Derived.Test.YtpaajkbjhnphpaaDoorKB
import Derived.Laws.Externs
import Derived.Lib.MakeNoZero
import Derived.Test.YtpaajkbjhnphpaaDoorKA
/- strings.Builder: its own copy check, WriteString and String. -/
namespace Go.Pv
open Go.Proofs
set_option linter.unusedVariables false
set_option linter.unusedSimpArgs false
set_option maxRecDepth 100000
set_option maxHeartbeats 1000000
theorem noEsc_c (p : PV) (s : St) : PCalls Tryd.prog 119 [p] s (fun r s' => s' = s ∧ r = .ret p) := by
  refine .inr fun g w vs hH hA => ?_
  obtain ⟨v, rfl⟩ : ∃ v, vs = #[v] := by
    have h1 := hA.1
    obtain ⟨l⟩ := vs
    simp at h1
    obtain ⟨v, rfl⟩ := List.length_eq_one_iff.1 h1
    exact ⟨v, rfl⟩
  refine ⟨p, v, s, g, w, ?_, .refl _ _, hH, hA.2 0 p v rfl rfl, rfl, rfl⟩
  rw [run_callFunc_extern Tryd.func119 (by kernel_rfl) (by kernel_rfl) (by kernel_rfl) (e := Extern.AbiNoEscape.same) (by kernel_rfl)]
  rfl
theorem cv1 : cvT Tryd.prog 104 146 107 2 = true := by kernel_rfl
theorem cv2 : cvT Tryd.prog 146 104 107 2 = true := by kernel_rfl
theorem copyCheck_c (i : Nat) (p v : PV) (s : St) (hs : s i = some (.row 107 2 [[p, v]])) (hp : p = .lit (.pointer none) ∨ p = .pt i 0 0) :
    PCalls Tryd.prog 94 [.pt i 0 0] s (fun r s' => s' = s.upd i (some (.row 107 2 [[.pt i 0 0, v]])) ∧ r = .ret (.tup [])) := by
  refine PCalls.of Tryd.func94 rfl (by rfl) (by simp [Tryd.ntmps94]) ?_
  refine pwC_sound _ _ _ _ ?_
  rcases hp with rfl | rfl
  · simp [Tryd.ntmps94, hs, cv1]
    refine (noEsc_c _ _).mono ?_
    rintro _ _ ⟨rfl, rfl⟩
    simp [hs, cv2]
  · simp [Tryd.ntmps94, hs]
    rw [St.upd_self hs]
    exact sub_refl
/-- A builder in block i that holds the bytes b, over the blocks of base; gr: it may have been grown ahead. -/
def BldAt (gr : Bool) (base : St) (i : Nat) (b : List UInt8) (s : St) : Prop := Fresh base i ∧ ∃ p, (p = .lit (.pointer none) ∨ p = .pt i 0 0) ∧
  ((b = [] ∧ s = base.upd i (some (.row 107 2 [[p, .vec .nil []]]))) ∨
   ∃ j, (gr = true ∨ b ≠ []) ∧ j ≠ i ∧ Fresh base j ∧ s = (base.upd i (some (.row 107 2 [[p, .sl j 1 0 b.length]]))).upd j (some (.row 5 1 (b.map fun c => [.lit (.int .u8 c.toNat)]))))
theorem BldAt.at {gr : Bool} {base : St} {i : Nat} {b : List UInt8} {s : St} (h : BldAt gr base i b s) {k : Nat} {c : Blk} (hk : base k = some c) : s k = some c := by
  obtain ⟨hi, p, hp, ⟨rfl, rfl⟩ | ⟨j, hg, hj, hfj, rfl⟩⟩ := h
  · rw [St.upd_ne _ _ (fun e => by subst e; rw [show base k = none from hi] at hk; cases hk)]; exact hk
  · rw [St.upd_ne _ _ (fun e => by subst e; rw [show base k = none from hfj] at hk; cases hk), St.upd_ne _ _ (fun e => by subst e; rw [show base k = none from hi] at hk; cases hk)]; exact hk
theorem BldAt.new (base : St) (i : Nat) (hi : Fresh base i) : BldAt false base i [] (base.upd i (some (.row 107 2 [[.lit (.pointer none), .vec .nil []]]))) := ⟨hi, _, .inl rfl, .inl ⟨rfl, rfl⟩⟩
theorem write_c (gr : Bool) (base : St) (i : Nat) (b : List UInt8) (s : St) (h : BldAt gr base i b s) (t : ByteArray) (hl : b.length + t.size ≤ 100000000000000) :
    PCalls Tryd.prog 60 [.pt i 0 0, .lit (.string t)] s (fun r s' => BldAt gr base i (b ++ t.data.toList) s' ∧ r = .ret (.tup [.lit (.int .i64 t.size), .lit .nilIface])) := by
  refine PCalls.of Tryd.func60 rfl (by rfl) (by simp [Tryd.ntmps60]) ?_
  refine pwC_sound _ _ _ _ ?_
  obtain ⟨hi, p, hp, ⟨rfl, rfl⟩ | ⟨j, hg, hj, hfj, rfl⟩⟩ := h
  · simp [Tryd.ntmps60]
    refine (copyCheck_c i p (.vec .nil []) _ (by simp) hp).mono ?_
    rintro _ _ ⟨rfl, rfl⟩
    simp
    simp [appW, elemsOf]
    have htl : t.toList = t.data.toList := ByteArray.toList_eq t
    have hlen : t.data.toList.length = t.size := rfl
    rw [htl, hlen]
    refine ⟨fun h0 => ⟨_, sub_refl, ?_⟩, fun h0 => ⟨by simp at hl; omega, fun k hk => ?_⟩⟩
    · rw [h0]
      exact ⟨hi, .pt i 0 0, .inr rfl, .inl ⟨rfl, rfl⟩⟩
    · by_cases hki : k = i
      · rw [if_pos hki] at hk; cases hk
      · rw [if_neg hki] at hk
        have hik : ¬ i = k := fun e => hki e.symm
        simp [hik]
        refine ⟨_, sub_refl, hi, .pt i 0 0, .inr rfl, .inr ⟨k, .inr (by simp [h0]), hki, hk, ?_⟩⟩
        funext m
        simp only [St.upd]
        split <;> split <;> simp_all
  · simp [Tryd.ntmps60]
    refine (copyCheck_c i p (.sl j 1 0 b.length) _ (by simp [hj, Ne.symm hj]) hp).mono ?_
    rintro _ _ ⟨rfl, rfl⟩
    simp [hj, Ne.symm hj]
    simp [appW, elemsOf, hj, Ne.symm hj]
    have htl : t.toList = t.data.toList := ByteArray.toList_eq t
    have hlen : t.data.toList.length = t.size := rfl
    rw [htl, hlen]
    refine ⟨fun h0 => ⟨_, sub_refl, ?_⟩, fun h0 => ⟨by omega, fun k hk => ?_⟩⟩
    · rw [h0, List.append_nil]
      refine ⟨hi, .pt i 0 0, .inr rfl, .inr ⟨j, hg, hj, hfj, ?_⟩⟩
      funext m
      simp only [St.upd]
      split <;> split <;> simp_all
    · by_cases hki : k = i
      · rw [if_pos hki] at hk; cases hk
      · rw [if_neg hki] at hk
        by_cases hkj : k = j
        · rw [if_pos hkj] at hk; cases hk
        · rw [if_neg hkj, if_neg hki] at hk
          have hik : ¬ i = k := fun e => hki e.symm
          simp [hik]
          refine ⟨_, sub_refl, hi, .pt i 0 0, .inr rfl, .inr ⟨k, .inr (by simp [h0]), hki, hk, ?_⟩⟩
          funext m
          have hfj' : base j = none := hfj
          simp only [St.upd, List.map_append, List.length_append, hlen]
          by_cases h1 : m = i
          · subst h1; simp [hik, Ne.symm hj]
          · by_cases h2 : m = k
            · subst h2; simp [h1]
            · by_cases h3 : m = j
              · subst h3; simp [h1, h2, hfj']
              · simp [h1, h2, h3]
theorem bytesOf_map : ∀ (b : List UInt8), bytesOf (b.map fun c => [PV.lit (.int .u8 c.toNat)]) = some b
  | [] => rfl
  | c :: b => by
    have := c.toNat_lt
    have h1 : (0 : Int) ≤ (c.toNat : Int) ∧ (c.toNat : Int) < 256 := by omega
    simp only [List.map_cons, bytesOf, h1, and_self, if_true, bytesOf_map b, Option.map_some]
    simp
theorem string_c (gr : Bool) (base : St) (i : Nat) (b : List UInt8) (s : St) (h : BldAt gr base i b s) (hl : b.length ≤ 100000000000000) (hb : gr = false ∨ b ≠ []) :
    PCalls Tryd.prog 61 [.pt i 0 0] s (fun r s' => s' = base ∧ r = .ret (.lit (.string ⟨b.toArray⟩))) := by
  refine PCalls.of Tryd.func61 rfl (by rfl) (by simp [Tryd.ntmps61]) ?_
  refine pwC_sound _ _ _ _ ?_
  obtain ⟨hi, p, hp, ⟨rfl, rfl⟩ | ⟨j, hg, hj, hfj, rfl⟩⟩ := h
  · simp [Tryd.ntmps61]
    refine PW.drawn (fun i => 0) [0, 1, 2, 3, 5, 6, 7, 8, 9, 4, 10, 11] mixed_ (fun _ _ _ _ h => h) (by kernel_rfl) ?_
    simp
    exact sub_refl.set hi
  · simp [Tryd.ntmps61]
    refine PW.drawn (fun i => 0) [0, 1, 2, 3, 5, 6, 7, 8, 9, 4, 10, 11] mixed_ (fun _ _ _ _ h => h) (by kernel_rfl) ?_
    have hb0 : b ≠ [] := by
      rcases hb with rfl | hb
      · simpa using hg
      · exact hb
    have hbt : bytePT Tryd.prog 135 = some 5 := by kernel_rfl
    have hbs : bytesOf (b.map fun c => [PV.lit (.int .u8 c.toNat)]) = some b := bytesOf_map b
    have hpos : 0 < b.length := List.length_pos_iff.2 hb0
    simp [hj, Ne.symm hj, hb0, hbt]
    rw [List.take_of_length_le (by simp), hbs]
    simp
    refine ⟨hpos, by omega, fun k c hk => ?_⟩
    have hki : k ≠ i := fun e => by subst e; rw [show base k = none from hi] at hk; cases hk
    have hkj : k ≠ j := fun e => by subst e; rw [show base k = none from hfj] at hk; cases hk
    rw [St.upd_ne _ _ hkj, St.upd_ne _ _ hki]
    exact hk
theorem noZero_c (n : Nat) (hn : n ≤ 100000000000000) (s : St) : PCalls Tryd.prog 120 [.lit (.int .i64 n)] s (fun r s' => ∃ j, Fresh s j ∧ s' = s.upd j (some (.row 5 1 [])) ∧ r = .ret (.sl j 1 0 n)) := by
  refine .inr fun g w vs hH hA => ?_
  obtain ⟨v, rfl⟩ : ∃ v, vs = #[v] := by
    have h1 := hA.1
    obtain ⟨l⟩ := vs
    simp at h1
    obtain ⟨v, rfl⟩ := List.length_eq_one_iff.1 h1
    exact ⟨v, rfl⟩
  obtain ⟨rfl, _⟩ := (hA.2 0 _ v rfl rfl).lit_inv
  obtain ⟨cs, hrun, hle, _⟩ := Lib.run_makeNoZero (P := Tryd.prog) w #[3] 105 5 Tryd.underlying105 n (by omega)
  have hH' : Holds g s w.drew.drew := hH.heap rfl
  have hl0 : LE g w g w.drew.drew := ⟨⟨Nat.le_refl _, fun _ _ => rfl, fun _ h => h, fun _ _ => rfl⟩, rfl, rfl, rfl, Nat.le_refl _⟩
  have hmun : (g.more ⟨w.heap.size, cs.size, 1⟩).mu g.n = ⟨w.heap.size, cs.size, 1⟩ := by simp [G.more]
  refine ⟨.sl g.n 1 0 n, .slice (some ⟨w.heap.size, 0, none⟩) n cs.size, s.upd g.n (some (.row 5 1 [])), g.more ⟨w.heap.size, cs.size, 1⟩, pushed w.drew.drew (.cells cs 5 (0, 0)), ?_, hl0.trans (LE.more hH' ⟨w.heap.size, cs.size, 1⟩ _), ?_, ?_, g.n, hH.fresh _ (Nat.le_refl _), rfl, rfl⟩
  · rw [run_callFunc_extern Tryd.func120 (by kernel_rfl) (by kernel_rfl) (by kernel_rfl) (e := Extern.BytealgMakeNoZero.makeNoZero #[3] #[105]) (by kernel_rfl), hrun]
    rfl
  · exact hH'.newO _ cs.size 1 _ (.row _ 1 [] cs (by rw [show w.drew.drew.heap.size = w.heap.size from rfl, hmun]) (by rw [show w.drew.drew.heap.size = w.heap.size from rfl, hmun]; exact pushed_new _ _) (by rw [show w.drew.drew.heap.size = w.heap.size from rfl, hmun]) (by simp) (fun j cs hj => by simp at hj) (fun j cs f c hj => by simp at hj))
  · have := VR.sl (w := pushed w.drew.drew (.cells cs 5 (0, 0))) (g := g.more ⟨w.heap.size, cs.size, 1⟩) g.n 1 0 n cs.size (by simp [G.more]) hle (by rw [hmun]) (by rw [hmun]; simp)
    rw [hmun] at this
    simpa using this
theorem grow_c (i : Nat) (p : PV) (n : Nat) (hn : n ≤ 100000000000000) (s : St) (hs : s i = some (.row 107 2 [[p, .vec .nil []]])) :
    PCalls Tryd.prog 95 [.pt i 0 0, .lit (.int .i64 n)] s (fun r s' => ∃ j, Fresh s j ∧ s' = (s.upd j (some (.row 5 1 []))).upd i (some (.row 107 2 [[p, .sl j 1 0 0]])) ∧ r = .ret (.tup [])) := by
  refine PCalls.of Tryd.func95 rfl (by rfl) (by simp [Tryd.ntmps95]) ?_
  refine pwC_sound _ _ _ _ ?_
  simp [Tryd.ntmps95]
  refine PW.drawn (fun i => if i = 8 then 2 else 0) [0, 1, 2, 3, 4, 5, 6, 7, 9, 10, 11, 12, 13, 8, 14, 15] mixed_ (fun _ _ _ _ h => h) (by kernel_rfl) ?_
  have w1 : IntKind.i64.wrap (n : Int) = n := wrap_i64 (by omega) (by omega)
  have w0 : IntKind.i64.wrap 0 = 0 := wrap_i64 (by omega) (by omega)
  simp [hs, w1, w0]
  refine (noZero_c n hn _).mono ?_
  rintro _ _ ⟨j, hj, rfl, rfl⟩
  have hji := fresh_ne hj hs
  simp [hs, hji, Ne.symm hji, slc, bound, elemsOf]
  exact ⟨sub_refl.upd hj, _, sub_refl, j, hj, rfl⟩
theorem grown_c (base : St) (i : Nat) (n : Nat) (hn : n ≤ 100000000000000) (hi : Fresh base i) :
    PCalls Tryd.prog 59 [.pt i 0 0, .lit (.int .i64 n)] (base.upd i (some (.row 107 2 [[.lit (.pointer none), .vec .nil []]]))) (fun r s' => BldAt (decide (0 < n)) base i [] s' ∧ r = .ret (.tup [])) := by
  refine PCalls.of Tryd.func59 rfl (by rfl) (by simp [Tryd.ntmps59]) ?_
  refine pwC_sound _ _ _ _ ?_
  simp [Tryd.ntmps59]
  refine (copyCheck_c i (.lit (.pointer none)) (.vec .nil []) _ (by simp) (.inl rfl)).mono ?_
  rintro _ _ ⟨rfl, rfl⟩
  have h0 : ¬ (n : Int) < 0 := by omega
  simp [h0]
  have w0 : IntKind.i64.wrap 0 = 0 := wrap_i64 (by omega) (by omega)
  refine PW.drawn (fun i => 0) [0, 1, 2, 3, 4, 5, 6, 7, 8, 9, 10, 11, 12] mixed_ (fun _ _ _ _ h => h) (by kernel_rfl) ?_
  by_cases hn0 : 0 < n
  · have h1 : (0 : Int) < n := by omega
    simp [w0, h1, hn0]
    refine (grow_c i (.pt i 0 0) n hn _ (by simp)).mono ?_
    rintro _ _ ⟨j, hj, rfl, rfl⟩
    simp at hj
    obtain ⟨h1, h2, h3⟩ := hj
    simp
    refine ⟨_, sub_refl, hi, .pt i 0 0, .inr rfl, .inr ⟨j, .inl (by simp [hn0]), h1, h3, ?_⟩⟩
    funext m
    simp only [St.upd]
    split <;> split <;> simp_all
  · have h1 : ¬ (0 : Int) < n := by omega
    simp [w0, h1, hn0]
    exact ⟨_, sub_refl, hi, .pt i 0 0, .inr rfl, .inl ⟨rfl, rfl⟩⟩
end Go.Pv

/- strings.Join. -/
namespace Go.Pv
open Go.Proofs
set_option linter.unusedVariables false
set_option linter.unusedSimpArgs false
set_option maxRecDepth 100000
set_option maxHeartbeats 1000000
/-- Texts as values. -/
@[reducible] def strs (k : VK) (l : List ByteArray) : PV := .vec k (l.map fun s => .lit (.string s))
def joinL : List ByteArray → ByteArray → List UInt8
  | [], _ => []
  | x :: l, sep => x.data.toList ++ l.flatMap fun y => sep.data.toList ++ y.data.toList
def sizes (l : List ByteArray) : Nat := (l.map ByteArray.size).sum
theorem joinL_len (x : ByteArray) (l : List ByteArray) (sep : ByteArray) : (joinL (x :: l) sep).length = x.size + sizes l + sep.size * l.length := by
  have h : ∀ l : List ByteArray, (l.flatMap fun y => sep.data.toList ++ y.data.toList).length = sizes l + sep.size * l.length := by
    intro l
    induction l with
    | nil => rfl
    | cons y l ih =>
      have h1 : y.data.toList.length = y.size := rfl
      have h2 : sep.data.toList.length = sep.size := rfl
      simp only [List.flatMap_cons, List.length_append, ih, sizes, List.map_cons, List.sum_cons, List.length_cons, Nat.mul_succ] at *
      omega
  have h1 : x.data.toList.length = x.size := rfl
  simp only [joinL, List.length_append, h, h1]
  omega
theorem sizes_take (l : List ByteArray) (k : Nat) (h : k < l.length) : sizes (l.take (k + 1)) = sizes (l.take k) + l[k].size := by
  unfold sizes
  rw [List.map_take, List.map_take, sum_take_succ (by simpa using h)]
  simp
theorem sizes_take_le (l : List ByteArray) (k : Nat) : sizes (l.take k) ≤ sizes l := by
  unfold sizes
  rw [List.map_take]
  exact sum_take_le _ _
theorem slc_strs {P : Program} {t el : TypeId} (k : VK) (xs : List ByteArray) (h1 : sliceT P t = some el) (h2 : tsz P el = some 1) (hl : 1 ≤ xs.length) : ∃ k', slc P t (strs k xs) (some (.lit (.int .i64 1))) none = some (strs k' (xs.drop 1)) := by
  have h3 : ((xs.map fun s => PV.lit (.string s)).all (fun x => x.width == 1)) = true := by simp
  have h4 : (xs.map fun s => PV.lit (.string s)).take xs.length = xs.map fun s => PV.lit (.string s) := List.take_of_length_le (by simp)
  refine ⟨k, ?_⟩
  simp only [slc, h1, h2, Option.bind_some, bound]
  rw [List.length_map]
  cases k <;> simp [hl, h4]
theorem join_c (k : VK) (xs : List ByteArray) (sep : ByteArray) (hn : xs.length ≤ 1000000) (hs1 : sep.size ≤ 1000000) (hs2 : sizes xs ≤ 10000000000000) (s : St) :
    PCalls Tryd.prog 36 [strs k xs, .lit (.string sep)] s (fun r s' => s' = s ∧ r = .ret (.lit (.string ⟨(joinL xs sep).toArray⟩))) := by
  refine PCalls.of Tryd.func36 rfl (by rfl) (by simp [Tryd.ntmps36]) ?_
  refine pwC_sound _ _ _ _ ?_
  match xs, hn, hs2 with
  | [], _, _ => simp [Tryd.ntmps36, joinL]
  | [x], _, _ => simp [Tryd.ntmps36, joinL]
  | x :: y :: l, hn, hs2 =>
    have hN : ((x :: y :: l).length : Int) = (l.length : Int) + 1 + 1 := by simp
    have a1 : ¬ ((l.length : Int) + 1 + 1 = 0) := by omega
    have a2 : ¬ ((l.length : Int) + 1 + 1 = 1) := by omega
    refine pwC_cut fun K hK => ?_
    simp [Tryd.ntmps36]
    refine hK _ _ ?_
    clear hK K
    refine pwC_cut fun K hK => ?_
    simp [Tryd.ntmps36]
    simp [a1, a2]
    refine hK _ _ ?_
    clear hK K
    refine pwC_cut fun K hK => ?_
    simp
    refine hK _ _ ?_
    clear hK K
    -- the separators' room
    have hq : sep.size * (l.length + 1) ≤ 1000000000000 := by
      have h1 : l.length + 1 ≤ 1000000 := by simp at hn; omega
      calc sep.size * (l.length + 1) ≤ 1000000 * 1000000 := Nat.mul_le_mul hs1 h1
        _ = 1000000000000 := by decide
    have hln : l.length + 1 + 1 ≤ 1000000 := by simpa using hn
    obtain ⟨Q, hQ⟩ : ∃ Q, Q = 9223372036854775807 / (l.length + 1) := ⟨_, rfl⟩
    obtain ⟨M, hM⟩ : ∃ M, M = sep.size * (l.length + 1) := ⟨_, rfl⟩
    rw [← hM] at hq
    have hQi : Int.tdiv 9223372036854775807 ((l.length : Int) + 1) = (Q : Int) := by rw [hQ]; rfl
    have hMi : (sep.size : Int) * ((l.length : Int) + 1) = (M : Int) := by rw [hM]; push_cast; rfl
    have hQ1 : Q ≤ 9223372036854775807 := by rw [hQ]; exact Nat.div_le_self _ _
    have hQ2 : sep.size + 1 ≤ Q := by
      rw [hQ, Nat.le_div_iff_mul_le (by omega), Nat.add_mul, ← hM]
      omega
    have w1 : IntKind.i64.wrap ((l.length : Int) + 1) = l.length + 1 := wrap_i64 (by omega) (by omega)
    have w2 : IntKind.i64.wrap (Int.tdiv 9223372036854775807 ((l.length : Int) + 1)) = Q := by rw [hQi]; exact wrap_i64 (by omega) (by omega)
    have w3 : ¬ ((Q : Int) ≤ (sep.size : Int)) := by omega
    have w4 : ¬ ((l.length : Int) + 1 = 0) := by omega
    have w5 : IntKind.i64.wrap ((sep.size : Int) * ((l.length : Int) + 1)) = (M : Int) := by rw [hMi]; exact wrap_i64 (by omega) (by omega)
    have w6 : IntKind.i64.wrap (M : Int) = (M : Int) := wrap_i64 (by omega) (by omega)
    refine pwC_cut fun K hK => ?_
    have fin : ∀ e, e 5 = .lit (.int .i64 (M : Int)) → e 0 = strs k (x :: y :: l) → e 1 = .lit (.string sep) → K e s := by
      intro e e5 e0 e1
      refine hK _ _ ?_
      clear hK K
      refine pwC_cut fun K hK => ?_
      generalize hxs : x :: y :: l = xs at *
      have hlen : xs.length = l.length + 1 + 1 := by rw [← hxs]; rfl
      simp [e0, e1, e5]
      refine PW.loop (fun n e s' => ∃ j : Nat, j + n = xs.length ∧ e 0 = strs k xs ∧ e 1 = .lit (.string sep) ∧ e 39 = strs k xs ∧ e 40 = .lit (.int .i64 xs.length) ∧ e 41 = .lit (.int .i64 j) ∧ e 5 = .lit (.int .i64 ((M + sizes (xs.take j) : Nat) : Int)) ∧ s' = s) xs.length ⟨0, by simp, by simp [e0], by simp [e1], by simp, by simp [hlen], by simp, by simp [sizes, e5], rfl⟩ ?_
      rintro n e s' ⟨j, hj, e0, e1, e39, e40, e41, e5, rfl⟩
      refine pwC_sound _ _ _ _ ?_
      by_cases hlt : j < xs.length
      · have hg : xs[j]? = some xs[j] := List.getElem?_eq_getElem hlt
        have hst := sizes_take xs j hlt
        have hle := sizes_take_le xs (j + 1)
        have v1 : IntKind.i64.wrap ((9223372036854775807 : Int) - ((M + sizes (xs.take j) : Nat) : Int)) = 9223372036854775807 - ((M + sizes (xs.take j) : Nat) : Int) := wrap_i64 (by omega) (by omega)
        have v2 : ¬ ((9223372036854775807 : Int) - ((M + sizes (xs.take j) : Nat) : Int) < (xs[j].size : Int)) := by omega
        have v3 : IntKind.i64.wrap (((M + sizes (xs.take j) : Nat) : Int) + (xs[j].size : Int)) = ((M + sizes (xs.take (j + 1)) : Nat) : Int) := by rw [wrap_i64 (by omega) (by omega)]; omega
        have v4 : IntKind.i64.wrap ((j : Int) + 1) = ((j + 1 : Nat) : Int) := by rw [wrap_i64 (by omega) (by omega)]; omega
        simp only [Int.natCast_add] at v1 v2 v3
        simp [e0, e1, e39, e40, e41, e5, hlt, hg, v1, v2, v3, v4]
        exact ⟨n - 1, by omega, j + 1, by omega, by push_cast; rfl, rfl⟩
      · have hjl : j = xs.length := by omega
        subst hjl
        rw [List.take_length] at e5
        simp [e40, e41]
        refine hK _ _ ?_
        clear hK K e39 e40 e41
        refine pwC_cut fun K hK => ?_
        simp [e0, e1, e5]
        intro i hi
        refine hK _ _ ?_
        clear hK K
        refine pwC_cut fun K hK => ?_
        simp [e5]
        have hcast : ((M : Int) + (sizes xs : Int)) = ((M + sizes xs : Nat) : Int) := by push_cast; rfl
        rw [hcast]
        refine (grown_c s' i (M + sizes xs) (by omega) hi).mono ?_
        rintro _ s1 ⟨hB, rfl⟩
        simp
        refine hK _ _ ?_
        clear hK K
        refine pwC_cut fun K hK => ?_
        simp [e0]
        rw [← hxs]
        simp
        have hcont := joinL_len x (y :: l) sep
        have hxsz : x.size ≤ sizes xs := by rw [← hxs]; simp [sizes]
        refine (write_c _ _ i [] s1 hB x (by simp; omega)).mono ?_
        rintro _ s2 ⟨hB2, rfl⟩
        simp
        refine hK _ _ ?_
        clear hK K hB
        refine pwC_cut fun K hK => ?_
        obtain ⟨k', hk'⟩ := slc_strs (P := Tryd.prog) (t := 25) (el := 9) k xs (by simp) (by simp) (by omega)
        have hd : xs.drop 1 = y :: l := by rw [← hxs]; rfl
        rw [hd] at hk'
        simp [e0, hk']
        generalize hE : Env.put _ _ _ = E
        have g8 : E 8 = .pt i 0 0 := by rw [← hE]; simp
        have g1 : E 1 = .lit (.string sep) := by rw [← hE]; simp [e1]
        have g63 : E 63 = strs k' (y :: l) := by rw [← hE]; simp
        have g64 : E 64 = .lit (.int .i64 ((y :: l).length : Nat)) := by rw [← hE]; simp
        have g65 : E 65 = .lit (.int .i64 0) := by rw [← hE]; simp
        clear hE
        generalize htl : y :: l = tl at *
        have htlen : tl.length = l.length + 1 := by rw [← htl]; rfl
        have hsz : sizes xs = x.size + sizes tl := by rw [← hxs]; simp [sizes]
        clear e0 e1 e5 hk'
        refine PW.loop (fun n e s2 => ∃ j : Nat, j + n = tl.length ∧ e 8 = .pt i 0 0 ∧ e 1 = .lit (.string sep) ∧ e 63 = strs k' tl ∧ e 64 = .lit (.int .i64 tl.length) ∧ e 65 = .lit (.int .i64 j) ∧ BldAt (decide (0 < M + sizes xs)) s' i (joinL (x :: tl.take j) sep) s2) tl.length ⟨0, by simp, by simp [g8], by simp [g1], by simp [g63], by simp [g64], by simp [g65], by simpa [joinL] using hB2⟩ ?_
        clear g8 g1 g63 g64 g65 hB2
        rintro n2 e s2 ⟨j, hj, e8, e1, e63, e64, e65, hB⟩
        refine pwC_sound _ _ _ _ ?_
        by_cases hlt : j < tl.length
        · have hg : tl[j]? = some tl[j] := List.getElem?_eq_getElem hlt
          have hst := sizes_take tl j hlt
          have hle := sizes_take_le tl (j + 1)
          have hcon := joinL_len x (tl.take j) sep
          have hcon2 := joinL_len x (tl.take (j + 1)) sep
          have hmul : sep.size * (tl.take (j + 1)).length ≤ M := by
            rw [hM]; exact Nat.mul_le_mul_left _ (by simp; omega)
          have hmul2 : sep.size * (tl.take j).length + sep.size = sep.size * (tl.take (j + 1)).length := by
            rw [List.length_take, List.length_take, Nat.min_eq_left (by omega), Nat.min_eq_left (by omega), Nat.mul_succ]
          have v4 : IntKind.i64.wrap ((j : Int) + 1) = ((j + 1 : Nat) : Int) := by rw [wrap_i64 (by omega) (by omega)]; omega
          simp [e8, e1, e63, e64, e65, hlt, hg]
          refine (write_c _ _ i _ s2 hB sep (by omega)).mono ?_
          rintro _ s3 ⟨hB3, rfl⟩
          simp [e8, e1, e63, e64, e65, hlt, hg]
          refine (write_c _ _ i _ s3 hB3 tl[j] (by
            have : sep.data.toList.length = sep.size := rfl
            rw [List.length_append, this]; omega)).mono ?_
          rintro _ s4 ⟨hB4, rfl⟩
          simp [e8, e1, e63, e64, e65, v4]
          refine ⟨n2 - 1, by omega, j + 1, by omega, by push_cast; rfl, ?_⟩
          have : joinL (x :: tl.take (j + 1)) sep = joinL (x :: tl.take j) sep ++ sep.data.toList ++ tl[j].data.toList := by
            rw [List.take_succ_eq_append_getElem hlt]
            simp only [joinL, List.flatMap_append, List.flatMap_cons, List.flatMap_nil, List.append_nil, List.append_assoc]
          rw [this]
          exact hB4
        · have hjl : j = tl.length := by omega
          subst hjl
          rw [List.take_length] at hB
          have hcon := joinL_len x tl sep
          rw [htlen, ← hM] at hcon
          simp [e64, e65]
          refine hK _ _ ?_
          clear hK K
          simp [e8]
          refine (string_c _ _ i _ s2 hB (by omega) ?_).mono ?_
          · by_cases h0 : 0 < M + sizes xs
            · right
              intro h
              rw [h] at hcon
              simp at hcon
              omega
            · left; simpa using h0
          · rintro _ _ ⟨rfl, rfl⟩
            rw [← hxs]
            simp
    by_cases hsep : 0 < sep.size
    · have hsep' : (0 : Int) < sep.size := by omega
      simp [hsep, hsep', w1, w2, w3, w4, w5, w6]
      refine fin _ ?_ ?_ ?_
      · simp
      · simp
      · simp
    · have hsep' : ¬ (0 : Int) < sep.size := by omega
      have hz : sep.size = 0 := by omega
      simp [hsep, hsep']
      refine fin _ ?_ ?_ ?_
      · simp [hM, hz]
      · simp
      · simp
end Go.Pv

/- A logic over plain values: what a law is given, with its data. -/
namespace Go.Pv
open Go.RowKit Go.ChangeShapes Go.WideShapes
set_option linter.unusedVariables false
set_option linter.unusedSimpArgs false
section
variable {H : Type} {enc : TypeId × Value → H} {w : World} {base : Nat} {spare : Nat → Bool} {held : Bool} {P : Program}
/-- A slice's elements, as data. -/
def elemsD {H : Type} : DataW H → List (DataW H)
  | .slice elems _ => elems
  | _ => []
/-- A slice of whatever elements, each with its datum. -/
theorem rows_crD {α : Type} [Inhabited α] {t e sz : Nat} (encA : α → PV) (G : α → DataW H → Prop) (hsz : ∀ x, (encA x).width = sz) {fuel : Nat} {cs : List Value} {x : DataW H × List MemPlace} (ht : P.underlying t = some (.slice e)) (hc : P.cellsOf e = sz)
    (ih : ∀ m, m < fuel → ∀ cs x, DataW.trod enc P w base spare held m e cs = some x → ∃ y, CRd w (encA y) cs ∧ G y x.1)
    (h : DataW.trod enc P w base spare held fuel t cs = some x) : ∃ (v : Value) (l : List α), cs = [v] ∧ VR w (g0 w) (.vec .any (l.map encA)) v ∧ Value.oneCell' v = true ∧ l.length ≤ maxLen ∧ l.length = (elemsD x.1).length ∧ ∀ (i : Nat) y, l[i]? = some y → ∃ d, (elemsD x.1)[i]? = some d ∧ G y d := by
  rcases DataW.trod_slice ht h with ⟨rfl, rfl⟩ | ⟨a, len, cap, elems, rest, n, hf, rfl, rfl, hb, hl, hm, hlen, hel, _, _⟩
  · exact ⟨_, [], rfl, .vec .any [] none 0 0 (fun _ _ => undef) (Nat.le_refl _) (fun h => absurd rfl h) (fun h => by cases h) (fun _ => rfl) (by simp) (by simp) (by simp), rfl, Nat.zero_le _, rfl, fun i y hy => by simp at hy⟩
  · have hall : ∀ i, i < len → ∃ y : α, (∃ c, CRd w (encA y) c ∧ c.length = sz ∧ ∀ j u, c[j]? = some u → w.cell? (a.add (i * sz + j)) = some u) ∧ ∃ d, (elems.map (·.1))[i]? = some d ∧ G y d := by
      intro i hi
      have h1 := hel i hi
      rw [List.getElem?_eq_getElem (by omega)] at h1
      obtain ⟨c, hcc, ht2⟩ := Option.bind_eq_some_iff.1 h1
      obtain ⟨y, hK, hG⟩ := ih n (by omega) c _ ht2
      rw [hc] at hcc
      obtain ⟨_, hcl, hat⟩ := World.cells?_some hcc
      refine ⟨y, ⟨c, hK, hcl, fun j u hu => ?_⟩, elems[i].1, by simp [show i < elems.length by omega], hG⟩
      have hj : j < sz := by rw [← hcl]; exact (List.getElem?_eq_some_iff.1 hu).1
      rw [← Go.Deep.add_add, hat j hj]
      exact hu
    obtain ⟨l, hll, hp⟩ := list_of hall
    have hll' := hll
    subst hll
    have key : ∀ (i : Nat) (p : PV) (j : Nat) (c : PV), (l.map encA)[i]? = some p → p.cells[j]? = some c → ∃ v, w.cell? (a.add (i * sz + j)) = some v ∧ Value.oneCell' v = true ∧ VR w (g0 w) c v := by
      intro i p j c hp' hcj
      rw [List.getElem?_map] at hp'
      obtain ⟨y, hy, rfl⟩ := Option.map_eq_some_iff.1 hp'
      obtain ⟨⟨cc, hCR, hcl, hcell⟩, _⟩ := hp i y hy
      have hj : j < cc.length := by rw [← hCR.1]; exact (List.getElem?_eq_some_iff.1 hcj).1
      have h2 := hCR.2 j c cc[j] hcj (List.getElem?_eq_getElem hj)
      exact ⟨cc[j], hcell j _ (List.getElem?_eq_getElem hj), h2.2, h2.1⟩
    refine ⟨_, l, rfl, ?_, rfl, Nat.le_trans hl hm, by simp [elemsD]; omega, fun i y hy => ?_⟩
    · have := VR.vec (w := w) (g := g0 w) .any (l.map encA) (some a) cap sz (fun i j => (w.cell? (a.add (i * sz + j))).getD undef) (by simpa using hl) (fun h => absurd rfl h) (fun h => by cases h) (fun h => by cases h) (fun i p hp' => by
          rw [List.getElem?_map] at hp'
          obtain ⟨y, hy, rfl⟩ := Option.map_eq_some_iff.1 hp'
          exact hsz y) (fun i p j c hp' hcj => by
          obtain ⟨v, h1, h2, h3⟩ := key i p j c hp' hcj
          refine ⟨a, rfl, ?_, by rw [h1]; rfl, by rw [h1]; exact h2⟩
          have := cell_lt h1
          rwa [add_zero_add] at this) (fun i p j c hp' hcj => by
          obtain ⟨v, h1, h2, h3⟩ := key i p j c hp' hcj
          rw [h1]; exact h3)
      rw [List.length_map] at this
      exact this
    · exact (hp i y hy).2
theorem str_crD {t : TypeId} {fuel : Nat} {cs : List Value} {x : DataW H × List MemPlace} (ht : P.underlying t = some .string) (h : DataW.trod enc P w base spare held fuel t cs = some x) :
    ∃ s : ByteArray, cs = [.string s] ∧ VR w (g0 w) (.lit (.string s)) (.string s) ∧ s.size ≤ maxLen ∧ x.1 = .lit (.string s.data.toList) := by
  obtain ⟨a, e, hx, hw⟩ := DataW.trod_string ht h
  exact ⟨a, e, .lit _ rfl, hw, by rw [hx]⟩
end
end Go.Pv

/- A logic over plain values: parts of texts. -/
namespace Go.Pv
set_option linter.unusedVariables false
set_option linter.unusedSimpArgs false
section
variable {P : Program}
@[simp] theorem bound_none (d : Nat) : bound d none = some d := rfl
@[simp] theorem bound_int (d : Nat) (k : IntKind) (i : Int) : bound d (some (.lit (.int k i))) = if 0 ≤ i then some i.toNat else none := rfl
@[simp] theorem slc_str (t : TypeId) (s : ByteArray) (lo hi : Option PV) : slc P t (.lit (.string s)) lo hi = if isStrT P t then (bound s.size hi).bind fun h => (bound 0 lo).bind fun l => if l ≤ h ∧ h ≤ s.size then some (.lit (.string (s.extract l h))) else none else none := rfl
end
end Go.Pv

/- A logic over plain values: blocks told otherwise between two lines. -/
namespace Go.Pv
set_option linter.unusedVariables false
set_option linter.unusedSimpArgs false
section
variable {P : Program} {N : Nat} {e : Env} {Q : Exit → Env → St → Prop} {s s' : St}
theorem PW.convS {c : Code} (h : Conv s [] s' []) (hq : PW P N c e s' Q) : PW P N c e s Q :=
  PW.conv (fun g w hH => by
    obtain ⟨g', hle, hH', _, _⟩ := h g w hH
    exact ⟨g', hle, hH', fun t v hv => hv.le hle.toLEv⟩) hq
theorem Conv.drop0 {p : List PV} (h : Conv s p s' p) : Conv s [] s' [] := fun g w hH => by
  obtain ⟨g', hle, hH', _, _⟩ := h g w hH
  exact ⟨g', hle, hH', rfl, fun i p p' v hp => by simp at hp⟩
/-- What comes behind is closed, as a triple. -/
theorem PW.cut {x y : Code} (h : ∀ K : Env → St → Prop, (∀ e s, PW P N y e s Q → K e s) → pwC P N x e s (thenQ K Q)) : PW P N (.seq x y) e s Q :=
  PW.seq (pwC_sound _ _ _ _ (h (fun e s => PW P N y e s Q) fun _ _ h => h))
/-- .. under one name, which allows that blocks are told otherwise. -/
theorem PW.cutR {x y : Code} (h : ∀ R : Env → St → Prop, (∀ e s, PW P N y e s Q → R e s) → (∀ e s s', Conv s [] s' [] → R e s' → R e s) → pwC P N x e s (thenQ R Q)) : PW P N (.seq x y) e s Q :=
  PW.seq (pwC_sound _ _ _ _ (h (fun e s => PW P N y e s Q) (fun _ _ h => h) fun _ _ _ hc h => PW.convS hc h))
theorem Conv.mid {v x : PV} {pre post : List PV} (h : Conv s (v :: (pre ++ post)) s' (x :: (pre ++ post))) : Conv s (pre ++ v :: post) s' (pre ++ x :: post) := by
  intro g w hH
  obtain ⟨g', hle, hH', _, hr⟩ := h g w hH
  refine ⟨g', hle, hH', by simp, fun i p p' u hp hp' hu => ?_⟩
  rcases Nat.lt_trichotomy i pre.length with hi | hi | hi
  · rw [List.getElem?_append_left hi] at hp hp'
    exact hr (i + 1) p p' u (by rw [List.getElem?_cons_succ, List.getElem?_append_left hi]; exact hp) (by rw [List.getElem?_cons_succ, List.getElem?_append_left hi]; exact hp') hu
  · subst hi
    simp at hp hp'
    subst hp hp'
    exact hr 0 _ _ u rfl rfl hu
  · rw [List.getElem?_append_right (by omega)] at hp hp'
    obtain ⟨d, hd⟩ : ∃ d, i - pre.length = d + 1 := ⟨i - pre.length - 1, by omega⟩
    rw [hd, List.getElem?_cons_succ] at hp hp'
    have hid : i - 1 + 1 = i := by omega
    refine hr (i - 1 + 1) p p' u ?_ ?_ hu
    · rw [List.getElem?_cons_succ, List.getElem?_append_right (by omega), show i - 1 - pre.length = d by omega]; exact hp
    · rw [List.getElem?_cons_succ, List.getElem?_append_right (by omega), show i - 1 - pre.length = d by omega]; exact hp'
/-- A slice that began as an empty literal. -/
def OwnT (ty : TypeId) (sz : Nat) (base : St) (els : List (List PV)) (v : PV) (s : St) : Prop :=
  (els = [] ∧ v = .vec .tight [] ∧ s = base) ∨ (els ≠ [] ∧ ∃ j, Fresh base j ∧ v = .sl j sz 0 els.length ∧ s = base.upd j (some (.row ty sz els)))
theorem OwnT.sub {ty : TypeId} {sz : Nat} {base : St} {els : List (List PV)} {v : PV} (h : OwnT ty sz base els v s) : base.sub s := by
  rcases h with ⟨_, _, rfl⟩ | ⟨_, j, hj, _, rfl⟩
  · exact sub_refl
  · exact sub_refl.upd hj
theorem appT {t t2 b ty sz : Nat} {z : Value} {y : PV} {ys : List (List PV)} {K : PV → St → Prop} (h1 : sliceT P t = some ty) (h2 : tsz P ty = some sz) (h3 : tby P ty = some b) (h4 : tzero P ty = some z) (h5 : z.cells.size = sz) (h6 : b ≠ 0)
    (h7 : ((sliceT P t2).isSome || isStrT P t2) = true) (hy : elemsOf s sz y = some ys) (hl : (2 * ys.length + 1000) * b ≤ 281474976710656) (hK : ∀ v' s', OwnT ty sz s ys v' s' → K v' s') : appW P s t t2 (.vec .tight []) y K := by
  unfold appW
  refine ex_okv h1 (ex_okv h2 (ex_okv h3 (ex_okv h4 (ex_okv hy ⟨h5, h6, h7, fun he => ?_, fun he => ?_⟩))))
  · exact ⟨rfl, hK _ _ (.inl ⟨he, rfl, rfl⟩)⟩
  · refine ex_okv (v := []) rfl ⟨by simp, by simpa using hl, fun i hi => hK _ _ (.inr ⟨he, i, hi, by simp, by simp⟩)⟩
theorem appT2 {t t2 b ty sz : Nat} {z : Value} {base : St} {els : List (List PV)} {v y : PV} {ys : List (List PV)} {K : PV → St → Prop} (h : OwnT ty sz base els v s) (h1 : sliceT P t = some ty) (h2 : tsz P ty = some sz) (h3 : tby P ty = some b) (h4 : tzero P ty = some z) (h5 : z.cells.size = sz) (h6 : b ≠ 0)
    (h7 : ((sliceT P t2).isSome || isStrT P t2) = true) (hy : ∀ s, elemsOf s sz y = some ys) (hne : ys ≠ []) (hl : (2 * (els.length + ys.length) + 1000) * b ≤ 281474976710656) (hK : ∀ v' s', OwnL ty sz base (els ++ ys) v' s' → K v' s') : appW P s t t2 v y K := by
  rcases h with ⟨rfl, rfl, rfl⟩ | ⟨h0, j, hj, rfl, rfl⟩
  · refine appT h1 h2 h3 h4 h5 h6 h7 (hy _) (by simpa using hl) fun v' s' h => hK v' s' ?_
    rcases h with ⟨q, _⟩ | ⟨q, k, hk, rfl, rfl⟩
    · exact absurd q hne
    · exact .inr ⟨by simpa using hne, k, hk, by simp, by simp⟩
  · exact appOwn (.inr ⟨h0, j, hj, rfl, rfl⟩) h1 h2 h3 h4 h5 h6 h7 hy hl hK
/-- Fewer blocks, in a part of the state. -/
theorem OwnL.shrink {ty : TypeId} {sz : Nat} {b b1 : St} {els : List (List PV)} {v : PV} (h : OwnL ty sz b1 els v s) (hb : b.sub b1) : ∃ s2 : St, s2.sub s ∧ OwnL ty sz b els v s2 := by
  rcases h with ⟨h1, h2, rfl⟩ | ⟨h0, j, hj, rfl, rfl⟩
  · exact ⟨b, hb, .inl ⟨h1, h2, rfl⟩⟩
  · refine ⟨b.upd j (some (.row ty sz els)), fun k z hk => ?_, .inr ⟨h0, j, hb.fresh hj, rfl, rfl⟩⟩
    by_cases h : k = j
    · subst h; rw [St.upd_same] at hk ⊢; exact hk
    · rw [St.upd_ne _ _ h] at hk ⊢; exact hb k z hk
theorem St.sub.upd_of {s t : St} {i : Nat} {b : Option Blk} (h : s.sub t) (hi : s i = none) : s.sub (t.upd i b) := fun j c hj => by
  by_cases hji : j = i
  · subst hji; rw [hi] at hj; cases hj
  · rw [St.upd_ne _ _ hji]; exact h j c hj
/-- Less is known of a block's cells. -/
theorem Conv.wkBlk {b : Nat} {ty : TypeId} {sz : Nat} {els els' : List (List PV)} (hs : s b = some (.row ty sz els)) (hl : els'.length = els.length) (hw : ∀ (j : Nat) (cs : List PV), els[j]? = some cs → ∃ cs', els'[j]? = some cs' ∧ cs'.length = cs.length ∧ ∀ (f : Nat) (c c' : PV), cs[f]? = some c → cs'[f]? = some c' → Wk c c') :
    Conv s [] (s.upd b (some (.row ty sz els'))) [] := by
  intro g w hH
  refine ⟨g, .refl _ _, ?_, rfl, fun i p p' v hp => by simp at hp⟩
  have hne : s b ≠ none := by rw [hs]; simp
  have hold : ∀ k, (s.upd b (some (.row ty sz els'))) k ≠ none → s k ≠ none := fun k hk => by
    by_cases h1 : k = b
    · rw [h1]; exact hne
    · rwa [St.upd_ne _ _ h1] at hk
  refine ⟨fun k hk => ?_, hH.zlt, fun k c hk => ?_, fun k j hk hj => hH.inj k j (hold k hk) (hold j hj), fun k c hk hr => ?_⟩
  · have := hH.fresh k hk
    by_cases h1 : k = b
    · subst h1; exact absurd this hne
    · rw [St.upd_ne _ _ h1]; exact this
  · by_cases h1 : k = b
    · subst h1
      rw [St.upd_same] at hk
      cases hk
      obtain ⟨_, _, _, arr, hz, h2, h3, h4, h5, h6⟩ := hH.blk k _ hs
      have get : ∀ (j : Nat) (cs' : List PV), els'[j]? = some cs' → ∃ cs, els[j]? = some cs ∧ cs'.length = cs.length ∧ ∀ (f : Nat) (c c' : PV), cs[f]? = some c → cs'[f]? = some c' → Wk c c' := fun j cs' hj => by
        have hlt : j < els.length := by rw [← hl]; exact (List.getElem?_eq_some_iff.1 hj).1
        obtain ⟨cs2, q1, q2, q3⟩ := hw j _ (List.getElem?_eq_getElem hlt)
        rw [hj] at q1
        cases q1
        exact ⟨_, List.getElem?_eq_getElem hlt, q2, q3⟩
      refine .row _ _ _ arr hz h2 h3 (by rw [hl]; exact h4) (fun j cs' hj => ?_) (fun j cs' f c' hj hf => ?_)
      · obtain ⟨cs, q1, q2, _⟩ := get j cs' hj
        rw [q2]; exact h5 j cs q1
      · obtain ⟨cs, q1, q2, q3⟩ := get j cs' hj
        have hlt : f < cs.length := by rw [← q2]; exact (List.getElem?_eq_some_iff.1 hf).1
        obtain ⟨v, r1, r2, r3⟩ := h6 j cs f _ q1 (List.getElem?_eq_getElem hlt)
        exact ⟨v, r1, r2, r3.wk (q3 f _ c' (List.getElem?_eq_getElem hlt) hf)⟩
    · rw [St.upd_ne _ _ h1] at hk
      exact hH.blk k c hk
  · by_cases h1 : k = b
    · subst h1
      exact hH.apart k _ hs rfl
    · rw [St.upd_ne _ _ h1] at hk
      exact hH.apart k c hk hr
theorem fz1_off {j : Nat} {xs : List PV} : ∀ {l : List PV}, (∀ i z o n, PV.sl i z o n ∉ l) → l.map (fz1 j xs) = l
  | [], _ => rfl
  | c :: l, h => by
    rw [List.map_cons, fz1_off (fun i z o n hm => h i z o n (List.mem_cons_of_mem _ hm))]
    congr 1
    cases c with
    | sl i z o n => exact absurd List.mem_cons_self (h i z o n)
    | _ => rfl
/-- A slice of one's own, inside a struct, ends as a list. -/
theorem Conv.ownAgg {ty : TypeId} {sz : Nat} {base : St} {els : List (List PV)} {v : PV} (h : OwnL ty sz base els v s) {xs : List PV} (hx : xs.map PV.cells = els) (pre post : List PV) (h1 : ∀ i z o n, PV.sl i z o n ∉ pre) (h2 : ∀ i z o n, PV.sl i z o n ∉ post) :
    Conv s [.agg (pre ++ v :: post)] base [.agg (pre ++ .vec .any xs :: post)] := by
  rcases h with ⟨rfl, rfl, rfl⟩ | ⟨h0, j, hj, rfl, rfl⟩
  · have : xs = [] := by simpa using hx
    subst this
    refine Conv.wk (.cons (Wk.aggs ?_) .nil)
    clear hx h1 h2
    induction pre with
    | nil =>
      refine .cons (.any .nil []) ?_
      induction post with
      | nil => exact .nil
      | cons c r ih => exact .cons (.refl _) ih
    | cons c r ih => exact .cons (.refl _) ih
  · have := Conv.freeze (s := base.upd j (some (.row ty sz els))) (i := j) (St.upd_same _ _ _) hx (.agg (pre ++ PV.sl j sz 0 els.length :: post)) (fun a z o l hp hj => by
      rcases hp with hp | ⟨cs, hp, hm⟩
      · cases hp
      · cases hp
        rcases List.mem_append.1 hm with hm | hm
        · exact absurd hm (h1 _ _ _ _)
        · rcases List.mem_cons.1 hm with hm | hm
          · cases hm; simp
          · exact absurd hm (h2 _ _ _ _)) (fun cs h => by cases h)
    rw [St.upd_upd, St.upd_none hj] at this
    have hl : xs.length = els.length := by rw [← hx]; simp
    have he : fz j xs (.agg (pre ++ PV.sl j sz 0 els.length :: post)) = .agg (pre ++ .vec .any xs :: post) := by
      simp only [fz, List.map_append, List.map_cons, fz1_off h1, fz1_off h2]
      congr 3
      simp [fz1]
      rw [List.take_of_length_le (by omega)]
    rw [he] at this
    exact this
/-- What holds no slice into a block. -/
def plainP : PV → Prop
  | .agg ds => ∀ i z o n, PV.sl i z o n ∉ ds
  | .sl _ _ _ _ => False
  | _ => True
def fzT (j : Nat) (xs : List PV) (c : PV) : PV := match c with | .agg ds => .agg (ds.map (fz1 j xs)) | c => fz1 j xs c
theorem fzT_off {j : Nat} {xs : List PV} : ∀ {l : List PV}, (∀ c ∈ l, plainP c) → l.map (fzT j xs) = l
  | [], _ => rfl
  | c :: l, h => by
    rw [List.map_cons, fzT_off (fun d hd => h d (List.mem_cons_of_mem _ hd))]
    have hc := h c List.mem_cons_self
    congr 1
    cases c with
    | agg ds => simp only [fzT]; rw [fz1_off hc]
    | sl i z o n => exact hc.elim
    | _ => rfl
theorem fz_tup (j : Nat) (xs : List PV) (l : List PV) : fz j xs (.tup l) = .tup (l.map (fzT j xs)) := rfl
/-- A slice of one's own, among a function's results, ends as a list. -/
theorem Conv.ownTup {ty : TypeId} {sz : Nat} {base : St} {els : List (List PV)} {v : PV} (h : OwnL ty sz base els v s) {xs : List PV} (hx : xs.map PV.cells = els) (pre post : List PV) (h1 : ∀ c ∈ pre, plainP c) (h2 : ∀ c ∈ post, plainP c) :
    Conv s [.tup (pre ++ v :: post)] base [.tup (pre ++ .vec .any xs :: post)] := by
  rcases h with ⟨rfl, rfl, rfl⟩ | ⟨h0, j, hj, rfl, rfl⟩
  · have : xs = [] := by simpa using hx
    subst this
    have hw : Wks (pre ++ PV.vec .nil [] :: post) (pre ++ PV.vec .any [] :: post) := by
      clear hx h1 h2
      induction pre with
      | nil =>
        refine .cons (.any .nil []) ?_
        induction post with
        | nil => exact .nil
        | cons c r ih => exact .cons (.refl _) ih
      | cons c r ih => exact .cons (.refl _) ih
    refine Conv.wk (.cons (.tup _ _ hw.length_eq.symm ?_) .nil)
    clear h1 h2 hx
    generalize pre ++ PV.vec .nil [] :: post = a at hw
    generalize pre ++ PV.vec .any [] :: post = b at hw
    induction hw with
    | nil => intro i c d hc; simp at hc
    | cons h _ ih =>
      intro i c d hc hd
      cases i with
      | zero => cases hc; cases hd; exact h
      | succ i => exact ih i c d hc hd
  · have := Conv.freezeT (s := base.upd j (some (.row ty sz els))) (i := j) (St.upd_same _ _ _) hx (pre ++ PV.sl j sz 0 els.length :: post) (fun a z o l hp hj => by
      rcases hp with hp | ⟨cs, hp, hm⟩
      · rcases List.mem_append.1 hp with hm | hm
        · exact (h1 _ hm).elim
        · rcases List.mem_cons.1 hm with hm | hm
          · cases hm; simp
          · exact (h2 _ hm).elim
      · rcases List.mem_append.1 hp with hq | hq
        · exact absurd hm (h1 _ hq _ _ _ _)
        · rcases List.mem_cons.1 hq with hq | hq
          · cases hq
          · exact absurd hm (h2 _ hq _ _ _ _))
    rw [St.upd_upd, St.upd_none hj] at this
    have hl : xs.length = els.length := by rw [← hx]; simp
    rw [fz_tup] at this
    have he : (pre ++ PV.sl j sz 0 els.length :: post).map (fzT j xs) = pre ++ .vec .any xs :: post := by
      rw [List.map_append, List.map_cons, fzT_off h1, fzT_off h2]
      congr 2
      simp [fzT, fz1]
      rw [List.take_of_length_le (by omega)]
    rw [he] at this
    exact this
end
end Go.Pv

/- A logic over plain values: a loop over a function, and its rounds. -/
namespace Go.Pv
set_option linter.unusedVariables false
set_option linter.unusedSimpArgs false
section
variable {P : Program} {w : World} {g : G} {s : St} {N : Nat} {e : Env} {a : Act} {Q : Exit → Env → St → Prop}
/-- A loop's record is set. -/
theorem Holds.loopSet (hH : Holds g s w) {i : Nat} {L : LoopR} (hs : s i = some (.loop L)) : ∃ rec : Loop, w.heap[(g.mu i).blk]? = some (.loop rec) ∧ rec.state = L.st.state ∧ rec.pending = L.st.pend ∧ rec.params = L.ps ∧ rec.assign = L.asg ∧ rec.body = L.body ∧ rec.tmps.size = L.N ∧ (∀ t, VR w g (L.e t) (rec.tmps.getD t undef)) ∧
    ∀ (st : LSt), Holds g (s.upd i (some (.loop { L with st := st }))) (w.putObj (g.mu i).blk (.loop { rec with state := st.state, pending := st.pend })) ∧ LE g w g (w.putObj (g.mu i).blk (.loop { rec with state := st.state, pending := st.pend })) := by
  cases hH.blk i _ hs with
  | loop _ rec h1 h2 h3 h4 h5 h6 h7 h8 =>
    refine ⟨rec, h1, h2, h3, h4, h5, h6, h7, h8, fun st => ?_⟩
    have hle := LE.writeO hH hs rfl (.loop { rec with state := st.state, pending := st.pend })
    have hlt := (Array.getElem?_eq_some_iff.1 h1).1
    exact ⟨Holds.writeO hH hs rfl _ _ (.loop _ { rec with state := st.state, pending := st.pend } (World.putObj_heap_same hlt) rfl rfl h4 h5 h6 h7 (fun t => (h8 t).le hle.toLEv)), hle⟩
/-- The parameters of a round take its arguments. -/
def putL (e : Env) : List Tmp → List PV → Env
  | t :: ts, p :: ps => putL (e.put (some t) p) ts ps
  | _, _ => e
theorem ER.putL {ds : List Deferred} : ∀ (ts : List Tmp) (ps : List PV) (vs : List Value) (e : Env) (tmps : Array Value), ER w g N e ⟨tmps, ds⟩ → (∀ t ∈ ts, t < N) → vs.length = ps.length → (∀ (i : Nat) (p : PV) (v : Value), ps[i]? = some p → vs[i]? = some v → VR w g p v) →
    ER w g N (Pv.putL e ts ps) ⟨(ts.zip vs).foldl (fun tmps (t, a) => tmps.setIfInBounds t a) tmps, ds⟩
  | [], ps, vs, e, tmps, hE, ht, hl, h => by simpa [Pv.putL] using hE
  | t :: ts, [], vs, e, tmps, hE, ht, hl, h => by
    have : vs = [] := List.eq_nil_of_length_eq_zero (by simpa using hl)
    subst this
    simpa [Pv.putL] using hE
  | t :: ts, p :: ps, [], e, tmps, hE, ht, hl, h => by simp at hl
  | t :: ts, p :: ps, v :: vs, e, tmps, hE, ht, hl, h => by
    simp only [List.zip_cons_cons, List.foldl_cons, Pv.putL]
    exact ER.putL ts ps vs _ _ (hE.put (d := some t) (fun t' ht' => by cases ht'; exact ht t List.mem_cons_self) (h 0 p v rfl rfl)) (fun t' ht' => ht t' (List.mem_cons_of_mem _ ht')) (by simpa using hl) (fun i p' v' hp hv => h (i + 1) p' v' hp hv)
/-- What must hold where a round's body ends. -/
def QY (i : Nat) (L : LoopR) (K : PV → St → Prop) : Exit → Env → St → Prop
  | .normal, _, s => ∃ s2 : St, s2.sub s ∧ s2 i = some (.loop { L with st := .busy }) ∧ K (.lit (.bool true)) (s2.upd i (some (.loop { L with st := .ready })))
  | .ret, _, s => ∃ s2 : St, s2.sub s ∧ s2 i = some (.loop { L with st := .busy }) ∧ K (.lit (.bool false)) (s2.upd i (some (.loop { L with st := .done .ret })))
  | .exit id, _, s => ∃ s2 : St, s2.sub s ∧ s2 i = some (.loop { L with st := .busy }) ∧ K (.lit (.bool false)) (s2.upd i (some (.loop { L with st := .done (.exit id) })))
  | _, _, _ => False
theorem PYld.of {i : Nat} {args : List PV} {L : LoopR} {K : PV → St → Prop} (hs : s i = some (.loop L)) (hr : L.st = .ready) (hl : args.length = L.ps.size) (hps : ∀ p ∈ L.ps.toList, p < L.N) (hf1 : flat L.asg = true) (hf2 : flat L.body = true)
    (h : PW P L.N L.asg (putL L.e L.ps.toList args) s (thenQ (fun e1 s1 => s1 i = some (.loop L) ∧ PW P L.N L.body e1 (s1.upd i (some (.loop { L with st := .busy }))) (QY i L K)) (fun _ _ _ => False))) : PYld P i args s K := by
  intro g w vs hH hi hA
  obtain ⟨rec, h1, h2, h3, h4, h5, h6, h7, h8, hset⟩ := hH.loopSet hs
  refine ⟨_, _, _, _, _, run_yield h1 (by rw [h4, hA.1, hl]), ?_⟩
  refine roundIn_of_wpIn (F := fen none) trivial ?_
  have htm : ((rec.params.zip vs).foldl (fun tmps (t, a) => tmps.setIfInBounds t a) rec.tmps) = ((L.ps.toList.zip vs.toList).foldl (fun tmps (t, a) => tmps.setIfInBounds t a) rec.tmps) := by
    rw [h4, ← Array.foldl_toList, Array.toList_zip]
  rw [htm, h5, h6]
  have hE0 : ER w g L.N (putL L.e L.ps.toList args) ⟨(L.ps.toList.zip vs.toList).foldl (fun tmps (t, a) => tmps.setIfInBounds t a) rec.tmps, []⟩ :=
    ER.putL _ _ _ _ _ ⟨h7, h8⟩ hps (by rw [Array.length_toList]; exact hA.1) (fun i p v hp hv => hA.2 i p v hp (by rw [← Array.getElem?_toList]; exact hv))
  refine wpIn_mono (h (some (g.mu i).blk) 0 g _ w (.inl hf1) hH hE0 ⟨Nat.zero_le _, trivial⟩) ?_
  rintro ex a1 w1 ⟨e1, s1, g1, l1, H1, E1, D1, hq⟩
  cases ex with
  | normal =>
    obtain ⟨hs1, hbody⟩ := hq
    obtain ⟨rec1, q1, q2, q3, q4, q5, q6, q7, q8, hset1⟩ := H1.loopSet hs1
    rw [hr] at q2 q3
    have hmu1 : g1.mu i = g.mu i := l1.mu i hi
    rw [hmu1] at q1 hset1
    obtain ⟨H2, l2⟩ := hset1 .busy
    refine ⟨_, run_beginRound q1 q2, ?_⟩
    have hrec : ({ rec1 with state := LSt.busy.state, pending := LSt.busy.pend } : Loop) = { rec1 with state := .busy } := by
      have : rec1.pending = none := q3
      cases rec1
      simp only at this
      subst this
      rfl
    rw [hrec] at H2 l2
    refine wpIn_mono (hbody (some (g.mu i).blk) 0 g1 a1 _ (.inl hf2) H2 (E1.le l2.toLEv) (D1.le l2)) ?_
    rintro ex a3 w3 ⟨e3, s3, g3, l3, H3, E3, D3, hq⟩
    have fin : ∀ (j : Option Code) (st : LSt), (∃ s2 : St, s2.sub s3 ∧ s2 i = some (.loop { L with st := .busy }) ∧ K (.lit (.bool j.isNone)) (s2.upd i (some (.loop { L with st := st })))) → st.state = (if j.isNone then .ready else .done) → st.pend = j →
        ∃ v w', (Instr.endRound (g.mu i).blk j).run P w3 = .ok v w' ∧ ∃ p v' s' g', Ending.returned v = .returned v' ∧ LE g w g' w' ∧ Holds g' s' w' ∧ VR w' g' p v' ∧ K p s' := by
      rintro j st ⟨s2, hs2, hs3, hK⟩ hst hp
      obtain ⟨rec3, r1, r2, r3, r4, r5, r6, r7, r8, hset3⟩ := (H3.sub hs2).loopSet hs3
      have hmu3 : g3.mu i = g.mu i := (l3.mu i (Nat.lt_of_lt_of_le hi l1.n)).trans hmu1
      rw [hmu3] at r1 hset3
      obtain ⟨H4, l4⟩ := hset3 st
      rw [hst, hp] at H4 l4
      exact ⟨_, _, run_endRound j r1, .lit (.bool j.isNone), _, _, g3, rfl, ((l1.trans l2).trans l3).trans l4, H4, .lit _ rfl, hK⟩
    cases ex with
    | normal => exact fin none .ready hq rfl rfl
    | ret => exact fin (some .ret) (.done .ret) hq rfl rfl
    | exit id => exact fin (some (.exit id)) (.done (.exit id)) hq rfl rfl
    | goto l => exact hq.elim
    | panic c => exact hq.elim
    | outgrown => exact hq.elim
  | ret => exact hq.elim
  | exit id => exact hq.elim
  | goto l => exact hq.elim
  | panic c => exact hq.elim
  | outgrown => exact hq.elim
theorem Defs.lt {B : Nat} (hz : ∀ k, g.Z k → k < w.heap.size) : ∀ {ds : List Deferred}, Defs B g w ds → ∀ d ∈ ds, d ≠ { target := .collected w.heap.size, args := #[] }
  | [], _, d, hd => by cases hd
  | d0 :: ds, h, d, hd => by
    obtain ⟨⟨D, h1, h2, h3, h4⟩, h5, h6⟩ := h
    rcases List.mem_cons.1 hd with rfl | hd
    · rw [h1]
      intro he
      have := hz D h3
      simp only [Deferred.mk.injEq, Target.collected.injEq] at he
      omega
    · exact h6.lt hz d hd
/-- A loop over a function. -/
theorem PW.range {f : Operand} {ps : Array Tmp} {asg body : Code} {gf : FuncId} {cs : List PV} (hf : e.ev f = .fn gf [] cs) (hent : enters P gf = true)
    (h : ∀ i, s i = none → PCalls P gf (.yld i :: cs) (s.upd i (some (.loop ⟨.ready, N, e, ps, asg, body⟩))) (fun r s' => match r with
      | .ret _ => (s' i = some (.loop ⟨.ready, N, e, ps, asg, body⟩) ∧ Q .normal e (s'.upd i none)) ∨ (s' i = some (.loop ⟨.done .ret, N, e, ps, asg, body⟩) ∧ Q .ret e (s'.upd i none)) ∨ (∃ id, s' i = some (.loop ⟨.done (.exit id), N, e, ps, asg, body⟩) ∧ Q (.exit id) e (s'.upd i none))
      | .pan c => Q (.panic c) e (s'.upd i none))) : PW P N (.rangeFunc f ps asg body) e s Q := by
  intro r B g a w hr hH hE hd
  have hr0 : r = none := hr.resolve_left (by simp [flat])
  subst hr0
  refine wpIn_rangeFunc ?_
  intro fn _
  have hfv := hE.ev f
  rw [hf] at hfv
  generalize hfe : a.eval f = fv at hfv
  cases hfv with
  | fn _ _ _ fvs cvs f1 f2 f3 f4 =>
    have hfvs : fvs = #[] := Array.eq_empty_of_size_eq_zero (by simpa using f1)
    subst hfvs
    obtain ⟨H1, l1⟩ := hH.pushed (.deferred (some []))
    have hsz1 : (pushed w (.deferred (some []))).heap.size = w.heap.size + 1 := pushed_size _ _
    have HF : Holds (g.freeze w.heap.size) s (pushed w (.deferred (some []))) := H1.freeze (by rw [hsz1]; omega) (fun j hj hjb => by
      obtain ⟨b, hb⟩ := Option.ne_none_iff_exists'.1 hj
      have := (hH.blk j b hb).lt
      omega)
    have lF : LE g w (g.freeze w.heap.size) (pushed w (.deferred (some []))) := l1.trans (LE.freeze _)
    generalize hrec : (⟨.ready, none, fn, a.tmps, ps, asg, body, w.heap.size⟩ : Loop) = rec
    obtain ⟨L, hL⟩ : ∃ L : LoopR, L = ⟨.ready, N, e, ps, asg, body⟩ := ⟨_, rfl⟩
    have hle2 := LE.more HF ⟨(pushed w (.deferred (some []))).heap.size, 0, 0⟩ (.loop rec)
    have hmun : ((g.freeze w.heap.size).more ⟨(pushed w (.deferred (some []))).heap.size, 0, 0⟩).mu g.n = ⟨(pushed w (.deferred (some []))).heap.size, 0, 0⟩ := by simp [G.more, G.freeze]
    have H2 : Holds ((g.freeze w.heap.size).more ⟨(pushed w (.deferred (some []))).heap.size, 0, 0⟩) (s.upd g.n (some (.loop L))) (pushed (pushed w (.deferred (some []))) (.loop rec)) := by
      refine HF.newO (.loop rec) 0 0 (.loop L) ?_
      refine .loop L rec ?_ ?_ ?_ ?_ ?_ ?_ ?_ ?_
      · have : (g.freeze w.heap.size).n = g.n := rfl
        rw [this, hmun]
        exact pushed_new _ _
      · rw [← hrec, hL]; rfl
      · rw [← hrec, hL]; rfl
      · rw [← hrec, hL]
      · rw [← hrec, hL]
      · rw [← hrec, hL]
      · rw [← hrec, hL]; exact hE.size
      · intro t
        have := (hE.vr t).le (lF.trans hle2).toLEv
        rw [hL, show rec.tmps = a.tmps by rw [← hrec]]
        exact this
    have l2 := lF.trans hle2
    generalize hg2 : (g.freeze w.heap.size).more ⟨(pushed w (.deferred (some []))).heap.size, 0, 0⟩ = g2 at *
    generalize hw2 : pushed (pushed w (.deferred (some []))) (.loop rec) = w2 at *
    have hn2 : g.n < g2.n := by rw [← hg2]; exact Nat.lt_succ_self _
    have hblk : (g2.mu g.n).blk = w.heap.size + 1 := by rw [hmun]; exact hsz1
    have hZ2 : g2.Z w.heap.size := by rw [← hg2]; exact .inr rfl
    have hD2 : w2.heap[w.heap.size]? = some (.deferred (some [])) := by
      rw [← hw2, pushed_old _ _ (by rw [hsz1]; omega)]
      exact pushed_new _ _
    have hA : Args w2 g2 (.yld g.n :: cs) (#[.func (.yield (w.heap.size + 1)) #[] #[]] ++ cvs) := by
      refine ⟨by simp [f2]; omega, fun i p v hp hv => ?_⟩
      cases i with
      | zero =>
        cases hp
        have : v = .func (.yield (w.heap.size + 1)) #[] #[] := by
          rw [Array.getElem?_append_left (by simp)] at hv
          simpa using hv.symm
        rw [this, ← hblk]
        exact .yld _ hn2
      | succ i =>
        have hv' : cvs[i]? = some v := by
          rw [Array.getElem?_append_right (by simp)] at hv
          simpa using hv
        exact (f4 i p v hp hv').le l2.toLEv
    have hfresh : s g.n = none := hH.fresh _ (Nat.le_refl _)
    have hcall := h g.n hfresh
    rw [← hL] at hcall
    have henterL := run_enterLoop_outer (P := P) (w := w) fn a.tmps ps asg body
    have hww : (w.alloc (.deferred (some []))).alloc (.loop { state := .ready, pending := none, fn, tmps := a.tmps, params := ps, assign := asg, body, defers := w.heap.size }) = w2 := by
      rw [← hw2, ← hrec]; rfl
    rw [hww] at henterL
    refine ⟨w.heap.size + 1, [{ target := .collected w.heap.size, args := #[] }], w2, { target := .fn (.func gf) cvs, args := #[.func (.yield (w.heap.size + 1)) #[] #[]] }, w2, gf, #[.func (.yield (w.heap.size + 1)) #[] #[]] ++ cvs, w2, henterL, ?_, fun _ _ => trivial, ?_, fun h => (by cases h), ?_⟩
    · simp only [resolve, hfe]
      simp [go_sem]
    · simp [invoke, go_sem, run_enters hent]
    · rcases hcall with ⟨_, hcall⟩ | hcall
      case inr =>
        obtain ⟨p, v, s', g', w', q1, _⟩ := hcall g2 w2 _ H2 hA
        rw [run_enters hent] at q1
        cases q1
      refine (calls_fen (hcall g2 w2 _ H2 hA)).mono ?_
      rintro en w3 ⟨res, s3, g3, l3, H3, hres, hR⟩
      have hds : ∀ (g4 : G) (w4 : World), LE g2 w2 g4 w4 → DK B g4 w4 ([{ target := .collected w.heap.size, args := #[] }] ++ a.defers) := fun g4 w4 l4 => by
        refine ⟨Nat.le_trans hd.1 (Nat.le_trans l2.size l4.size), ⟨w.heap.size, rfl, hd.1, l4.Z _ hZ2, by rw [l4.block _ hZ2]; exact hD2⟩, ?_, hd.2.le (l2.trans l4).toLEv⟩
        exact fun d' hd' => hd.2.lt hH.zlt d' hd'
      have ends : ∀ (st : LSt) (hst : st ≠ .busy) (hst2 : ∀ p, st ≠ .over p), s3 g.n = some (.loop { L with st := st }) → ∃ w4, (Instr.endLoop (w.heap.size + 1)).run P w3 = .ok st.pend w4 ∧ LE g2 w2 g3 w4 ∧ Holds g3 (s3.upd g.n none) w4 ∧ LE g w g3 w4 := by
        intro st hst hst2 hs3
        obtain ⟨rec3, r1, r2, r3, r4, r5, r6, r7, r8, hset3⟩ := H3.loopSet hs3
        have hmu3 : (g3.mu g.n).blk = w.heap.size + 1 := by rw [l3.mu _ hn2]; exact hblk
        rw [hmu3] at r1 hset3
        obtain ⟨H4, l4⟩ := hset3 (.over rec3.pending)
        have hrun := run_endLoop (P := P) r1 (by rw [r2]; cases st <;> first | exact absurd rfl hst | simp [LSt.state])
        have hrec4 : ({ rec3 with state := (LSt.over rec3.pending).state, pending := (LSt.over rec3.pending).pend } : Loop) = { rec3 with state := .exhausted } := rfl
        rw [hrec4] at H4 l4
        refine ⟨w3.putObj (w.heap.size + 1) (.loop { rec3 with state := .exhausted }), by rw [show st.pend = rec3.pending from r3.symm]; exact hrun, l3.trans l4, H4.sub (fun j b hj => ?_), l2.trans (l3.trans l4)⟩
        by_cases hji : j = g.n
        · subst hji; rw [St.upd_same] at hj; cases hj
        · rw [St.upd_ne _ _ hji] at hj ⊢; exact hj
      cases hres with
      | ret p v hv =>
        subst hL
        rcases hR with ⟨hs3, hQ⟩ | ⟨hs3, hQ⟩ | ⟨id, hs3, hQ⟩
        · obtain ⟨w4, k1, k2, k3, k4⟩ := ends .ready (by simp) (by simp) hs3
          exact ⟨none, w4, k1, e, _, g3, k4, k3, ⟨hE.size, fun t => (hE.vr t).le k4.toLEv⟩, hds g3 w4 k2, hQ⟩
        · obtain ⟨w4, k1, k2, k3, k4⟩ := ends (.done .ret) (by simp) (by simp) hs3
          exact ⟨some .ret, w4, k1, wpIn_ret ⟨e, _, g3, k4, k3, ⟨hE.size, fun t => (hE.vr t).le k4.toLEv⟩, hds g3 w4 k2, hQ⟩⟩
        · obtain ⟨w4, k1, k2, k3, k4⟩ := ends (.done (.exit id)) (by simp) (by simp) hs3
          exact ⟨some (.exit id), w4, k1, wpIn_exit ⟨e, _, g3, k4, k3, ⟨hE.size, fun t => (hE.vr t).le k4.toLEv⟩, hds g3 w4 k2, hQ⟩⟩
      | pan c =>
        refine ⟨e, s3.upd g.n none, g3, l2.trans l3, H3.sub (fun j b hj => ?_), ⟨hE.size, fun t => (hE.vr t).le (l2.trans l3).toLEv⟩, hds g3 w3 l3, hR⟩
        by_cases hji : j = g.n
        · subst hji; rw [St.upd_same] at hj; cases hj
        · rwa [St.upd_ne _ _ hji] at hj
/-- .. with the record under a name. -/
theorem PW.rangeL {f : Operand} {ps : Array Tmp} {asg body : Code} {gf : FuncId} {cs : List PV} (hf : e.ev f = .fn gf [] cs) (hent : enters P gf = true)
    (h : ∀ (i : Nat) (L : LoopR), s i = none → L.st = .ready → L.N = N → L.e = e → L.ps = ps → L.asg = asg → L.body = body → PCalls P gf (.yld i :: cs) (s.upd i (some (.loop L))) (fun r s' => match r with
      | .ret _ => (s' i = some (.loop L) ∧ Q .normal e (s'.upd i none)) ∨ (s' i = some (.loop { L with st := .done .ret }) ∧ Q .ret e (s'.upd i none)) ∨ (∃ id, s' i = some (.loop { L with st := .done (.exit id) }) ∧ Q (.exit id) e (s'.upd i none))
      | .pan c => Q (.panic c) e (s'.upd i none))) : PW P N (.rangeFunc f ps asg body) e s Q :=
  PW.range hf hent fun i hi => h i ⟨.ready, N, e, ps, asg, body⟩ hi rfl rfl rfl rfl rfl rfl
/-- What must hold where a round's body ends; the record's forms under names. -/
def QZ (i : Nat) (B L : LoopR) (K : PV → St → Prop) : Exit → Env → St → Prop
  | .normal, _, s => ∃ s2 : St, s2.sub s ∧ s2 i = some (.loop B) ∧ K (.lit (.bool true)) (s2.upd i (some (.loop L)))
  | .ret, _, s => ∃ s2 : St, s2.sub s ∧ s2 i = some (.loop B) ∧ K (.lit (.bool false)) (s2.upd i (some (.loop { L with st := .done .ret })))
  | .exit id, _, s => ∃ s2 : St, s2.sub s ∧ s2 i = some (.loop B) ∧ K (.lit (.bool false)) (s2.upd i (some (.loop { L with st := .done (.exit id) })))
  | _, _, _ => False
theorem PYld.ofL {i : Nat} {args : List PV} {L : LoopR} {K : PV → St → Prop} (hs : s i = some (.loop L)) (hr : L.st = .ready) {ps : List Tmp} {asg body : Code} (hN : L.N = N) (he : L.e = e) (hp : L.ps = ps.toArray) (ha : L.asg = asg) (hb : L.body = body)
    (hl : args.length = ps.length) (hps : ∀ p ∈ ps, p < N) (hf1 : flat asg = true) (hf2 : flat body = true)
    (h : ∀ B : LoopR, PW P N asg (putL e ps args) s (thenQ (fun e1 s1 => s1 i = some (.loop L) ∧ PW P N body e1 (s1.upd i (some (.loop B))) (QZ i B L K)) (fun _ _ _ => False))) : PYld P i args s K := by
  refine PYld.of hs hr (by rw [hp, hl]; simp) (by rw [hp, hN]; exact hps) (by rw [ha]; exact hf1) (by rw [hb]; exact hf2) ?_
  have hh := h { L with st := .busy }
  have hL : ({ L with st := .ready } : LoopR) = L := by cases L; simp only at hr; subst hr; rfl
  have hq : QY i L K = QZ i { L with st := .busy } L K := by
    funext ex e s
    cases ex <;> simp only [QY, QZ, hL]
  rw [hq]
  generalize ({ L with st := .busy } : LoopR) = B at *
  rw [hN, he, hp, ha, hb]
  exact hh
end
end Go.Pv

/- Two parts of a state; a tree's nodes with their paths, in the order of a walk. -/
namespace Go.Pv
set_option linter.unusedVariables false
set_option linter.unusedSimpArgs false
/-- One part, and another one beside it. -/
def join (b o : St) : St := fun i => match b i with
  | some x => some x
  | none => o i
def Disj (b o : St) : Prop := ∀ i, b i ≠ none → o i = none
theorem join_base {b o : St} {i : Nat} {x : Blk} (h : b i = some x) : join b o i = some x := by simp [join, h]
theorem join_own {b o : St} {i : Nat} {x : Blk} (hd : Disj b o) (h : o i = some x) : join b o i = some x := by
  unfold join
  cases hb : b i with
  | none => exact h
  | some y => have := hd i (by rw [hb]; simp); rw [h] at this; cases this
theorem Disj.off {b o : St} (hd : Disj b o) {i : Nat} {x : Blk} (h : o i = some x) : b i = none := by
  cases hb : b i with
  | none => rfl
  | some y => have := hd i (by rw [hb]; simp); rw [h] at this; cases this
theorem join_none {b o : St} {i : Nat} (h : Fresh (join b o) i) : Fresh b i ∧ Fresh o i := by
  unfold Fresh join at h
  cases hb : b i with
  | none => rw [hb] at h; exact ⟨hb, h⟩
  | some y => rw [hb] at h; cases h
theorem join_upd {b o : St} {i : Nat} (x : Option Blk) (h : o i = none) : (join b o).upd i x = join (b.upd i x) o := by
  funext j
  unfold join St.upd
  by_cases hj : j = i
  · subst hj
    simp only [if_true]
    cases x with
    | none => simp [h]
    | some y => rfl
  · simp [hj]
theorem join_updO {b o : St} {i : Nat} (x : Option Blk) (h : b i = none) : (join b o).upd i x = join b (o.upd i x) := by
  funext j
  unfold join St.upd
  by_cases hj : j = i
  · subst hj; simp [h]
  · simp [hj]
theorem Disj.upd {b o : St} {i : Nat} {x : Option Blk} (h : Disj b o) (ho : o i = none) : Disj (b.upd i x) o := fun j hj => by
  by_cases hji : j = i
  · subst hji; exact ho
  · rw [St.upd_ne _ _ hji] at hj; exact h j hj
theorem Disj.updO {b o : St} {i : Nat} {x : Option Blk} (h : Disj b o) (hb : b i = none) : Disj b (o.upd i x) := fun j hj => by
  by_cases hji : j = i
  · subst hji; exact absurd hb hj
  · rw [St.upd_ne _ _ hji]; exact h j hj
theorem join_sub (b o : St) : b.sub (join b o) := fun i x h => join_base h
theorem join_mono {b b' o : St} (h : b'.sub b) (hd : Disj b o) : (join b' o).sub (join b o) := fun i x hx => by
  unfold join at hx
  cases hb : b' i with
  | none =>
    rw [hb] at hx
    exact join_own hd hx
  | some y => rw [hb] at hx; cases hx; exact join_base (h i _ hb)
theorem Disj.sub {b b' o : St} (hd : Disj b o) (h : b'.sub b) : Disj b' o := fun i hi => by
  obtain ⟨y, hy⟩ := Option.ne_none_iff_exists'.1 hi
  exact hd i (by rw [h i y hy]; simp)
/-- A slice of one's own, in a part of a state; with a block more. -/
theorem OwnL.join {ty : TypeId} {sz : Nat} {base b o : St} {els : List (List PV)} {v : PV} (h : OwnL ty sz b els v o) (hd : Disj base o) : OwnL ty sz (Pv.join base b) els v (Pv.join base o) := by
  rcases h with ⟨h1, h2, rfl⟩ | ⟨h0, j, hj, rfl, rfl⟩
  · exact .inl ⟨h1, h2, rfl⟩
  · have hb : base j = none := by
      cases hb : base j with
      | none => rfl
      | some y => have := hd j (by rw [hb]; simp); rw [St.upd_same] at this; cases this
    refine .inr ⟨h0, j, ?_, rfl, (join_updO _ hb).symm⟩
    unfold Fresh Pv.join
    rw [hb]
    exact hj
theorem OwnL.upd {ty : TypeId} {sz k : Nat} {b o : St} {els : List (List PV)} {v : PV} {x : Option Blk} (h : OwnL ty sz b els v o) (hk : o k = none ∨ b k ≠ none) : OwnL ty sz (b.upd k x) els v (o.upd k x) := by
  rcases h with ⟨h1, h2, rfl⟩ | ⟨h0, j, hj, rfl, rfl⟩
  · exact .inl ⟨h1, h2, rfl⟩
  · have hjk : j ≠ k := by
      rintro rfl
      rcases hk with hk | hk
      · rw [St.upd_same] at hk; cases hk
      · exact hk hj
    refine .inr ⟨h0, j, ?_, rfl, St.upd_comm _ _ _ hjk⟩
    unfold Fresh
    rw [St.upd_ne _ _ hjk]
    exact hj
/-- The nodes of a tree with their paths, in preorder. -/
def walkN : Nd → List Int → List (List Int × Nd)
  | ⟨op, s, n, fr, to, l⟩, p => (p, ⟨op, s, n, fr, to, l⟩) :: (l.attach.zipIdx.flatMap fun ⟨⟨y, _⟩, i⟩ => walkN y (p ++ [(i : Int)]))
def walkL (p : List Int) (l : List (Nd × Nat)) : List (List Int × Nd) := l.flatMap fun yi => walkN yi.1 (p ++ [(yi.2 : Int)])
theorem walkN_eq (x : Nd) (p : List Int) : walkN x p = (p, x) :: walkL p x.l.zipIdx := by
  obtain ⟨op, s, n, fr, to, l⟩ := x
  rw [walkN]
  congr 1
  unfold walkL
  simp only
  conv => rhs; rw [← List.attach_map_subtype_val l]
  rw [List.zipIdx_map, List.flatMap_map]
  rfl
theorem walkL_snoc (p : List Int) (l : List (Nd × Nat)) (y : Nd) (i : Nat) : walkL p (l ++ [(y, i)]) = walkL p l ++ walkN y (p ++ [(i : Int)]) := by
  simp [walkL]
theorem zipIdx_take (l : List Nd) (j : Nat) (h : j < l.length) : (l.take (j + 1)).zipIdx = (l.take j).zipIdx ++ [(l[j], j)] := by
  rw [List.take_succ_eq_append_getElem h, List.zipIdx_append]
  simp [Nat.min_eq_left (Nat.le_of_lt h)]
end Go.Pv

/- How a text falls into tokens: plain functions that both the program and the reference compute. -/
namespace Go.Pv
set_option linter.unusedVariables false
set_option linter.unusedSimpArgs false
/-- The byte at a place, 0 behind the end. -/
def bt (t : ByteArray) (i : Nat) : Int := match t[i]? with | some b => (b.toNat : Int) | none => 0
@[simp] theorem bt_get (t : ByteArray) (i : Nat) (h : i < t.size) : ((t[i].toNat : Nat) : Int) = bt t i := by
  unfold bt
  rw [getElem?_pos t i h]
theorem bt_none {t : ByteArray} {i : Nat} (h : t.size ≤ i) : bt t i = 0 := by
  unfold bt
  rw [getElem?_neg t i (by omega)]
theorem bt_nonneg (t : ByteArray) (i : Nat) : 0 ≤ bt t i := by
  unfold bt; split <;> omega
theorem bt_lt {t : ByteArray} {i : Nat} (h : bt t i ≠ 0) : i < t.size := by
  rcases Nat.lt_or_ge i t.size with h1 | h1
  · exact h1
  · exact absurd (bt_none h1) h
def isL (c : Int) : Bool := (decide (97 ≤ c) && decide (c ≤ 122)) || (decide (65 ≤ c) && decide (c ≤ 90)) || decide (c = 95)
def isD (c : Int) : Bool := decide (48 ≤ c) && decide (c ≤ 57)
/-- The first place from i on, below n, that p bars. -/
def scanF (p : Nat → Bool) : Nat → Nat → Nat
  | 0, i => i
  | k + 1, i => if p i then scanF p k (i + 1) else i
def scanW (p : Nat → Bool) (n i : Nat) : Nat := scanF p (n - i) i
theorem scanW_step {p : Nat → Bool} {n i : Nat} (h : i < n) (hp : p i = true) : scanW p n i = scanW p n (i + 1) := by
  unfold scanW
  rw [show n - i = (n - (i + 1)) + 1 by omega, scanF, if_pos hp]
theorem scanW_stop {p : Nat → Bool} {n i : Nat} (hp : p i = false) : scanW p n i = i := by
  unfold scanW
  cases n - i with
  | zero => rfl
  | succ k => rw [scanF, hp]; rfl
theorem scanW_end {p : Nat → Bool} {n i : Nat} (h : n ≤ i) : scanW p n i = i := by
  unfold scanW
  rw [show n - i = 0 by omega]; rfl
theorem scanF_le (p : Nat → Bool) : ∀ k i, i ≤ scanF p k i ∧ scanF p k i ≤ i + k
  | 0, i => ⟨Nat.le_refl _, Nat.le_refl _⟩
  | k + 1, i => by
    have := scanF_le p k (i + 1)
    rw [scanF]
    split <;> omega
theorem scanW_ge (p : Nat → Bool) (n i : Nat) : i ≤ scanW p n i := (scanF_le p _ _).1
theorem scanW_le (p : Nat → Bool) {n i : Nat} (h : i ≤ n) : scanW p n i ≤ n := by have := (scanF_le p (n - i) i).2; unfold scanW; omega
/-- The text x stands at place i. -/
def beg (t : ByteArray) (i : Nat) (x : ByteArray) : Bool := decide (i + x.size ≤ t.size) && decide (t.extract i (i + x.size) = x)
def wordEnd (t : ByteArray) (i : Nat) : Nat := scanW (fun j => isL (bt t j) || isD (bt t j)) t.size i
def numP (t : ByteArray) (j : Nat) : Bool := isL (bt t j) || isD (bt t j) || decide (bt t j = 46) || ((decide (bt t j = 43) || decide (bt t j = 45)) && (decide (bt t (j - 1) = 101) || decide (bt t (j - 1) = 69)))
def numEnd (t : ByteArray) (i : Nat) : Nat := scanW (numP t) t.size (i + 1)
def quotF (t : ByteArray) (q : Int) : Nat → Nat → Option Nat
  | 0, _ => none
  | k + 1, i => if i < t.size then (if bt t i = q then some (i + 1) else if bt t i = 10 then none else if bt t i = 92 then (if bt t (i + 1) = 10 then none else quotF t q k (i + 2)) else quotF t q k (i + 1)) else none
def quotE (t : ByteArray) (q : Int) (i : Nat) : Option Nat := quotF t q (t.size - i) i
/-- A line that goes on behind a backslash: its end, from j on, begun at i. -/
def linP (t : ByteArray) (i j : Nat) : Bool := decide (bt t j ≠ 10) || decide (bt t (j - 1) = 92) || (decide (i + 2 ≤ j) && decide (bt t (j - 1) = 13) && decide (bt t (j - 2) = 92))
def lineEnd (t : ByteArray) (i : Nat) : Nat :=
  let j := scanW (linP t i) t.size i
  if j < t.size ∧ i + 1 < j ∧ bt t (j - 1) = 13 then j - 1 else j
def cmtEnd (t : ByteArray) (i : Nat) : Nat :=
  if beg t i ⟨#[47, 47]⟩ then scanW (fun j => decide (bt t j ≠ 10)) t.size i
  else if beg t i ⟨#[47, 42]⟩ then (let j := scanW (fun j => !beg t j ⟨#[42, 47]⟩) t.size (i + 2); if j < t.size then j + 2 else t.size)
  else i
def isB (c : Int) : Bool := decide (c = 32) || decide (c = 9) || decide (c = 10) || decide (c = 11) || decide (c = 12) || decide (c = 13)
def pieceEnd (t : ByteArray) (i : Nat) : Nat :=
  if isB (bt t i) then i + 1
  else if bt t i = 92 then (if bt t (i + 1) = 10 then i + 2 else if bt t (i + 1) = 13 ∧ bt t (i + 2) = 10 then i + 3 else i)
  else cmtEnd t i
/-- A line ends between i and e. -/
def hasNL (t : ByteArray) (i e : Nat) : Bool := decide (scanW (fun j => decide (bt t j ≠ 10)) e i < e)
def clearB (t : ByteArray) (i e : Nat) (c : Bool) : Bool := if e = i + 1 ∧ 11 ≤ bt t i ∧ bt t i ≤ 13 then false else if hasNL t i e then true else c
/-- What stands before a token: its end, and whether the line is still clear. -/
def befF (t : ByteArray) : Nat → Nat → Bool → Nat × Bool
  | 0, i, c => (i, c)
  | k + 1, i, c => if i < pieceEnd t i then befF t k (pieceEnd t i) (clearB t i (pieceEnd t i) c) else (i, c)
def bef (t : ByteArray) (i : Nat) (c : Bool) : Nat × Bool := befF t (t.size - i) i c
def signLen (t : ByteArray) (i : Nat) (l : List ByteArray) : Nat := l.foldl (fun n s => if n < s.size ∧ beg t i s = true then s.size else n) 0
/-- A token at i: its kind and its end. -/
def tokE (keys signs : List ByteArray) (t : ByteArray) (i : Nat) (c : Bool) : Nat × Nat :=
  if bt t i = 35 ∧ c = true then (7, lineEnd t i)
  else if isL (bt t i) then (if (keys.any fun k => decide (k = t.extract i (wordEnd t i))) = true then 2 else 1, wordEnd t i)
  else if isD (bt t i) ∨ (bt t i = 46 ∧ isD (bt t (i + 1)) = true) then (3, numEnd t i)
  else if bt t i = 39 ∨ bt t i = 34 then (match quotE t (bt t i) (i + 1) with
    | none => (8, i + 1)
    | some e => (if bt t i = 34 then 5 else 4, e))
  else if signLen t i signs ≠ 0 then (6, i + signLen t i signs)
  else (8, i + 1)
def toksF (keys signs : List ByteArray) (t : ByteArray) : Nat → Nat → Bool → List Tk
  | 0, _, _ => []
  | k + 1, i, c =>
    let (a, d) := bef t i c
    if a = t.size then [⟨0, t.extract i a, ⟨#[]⟩, a⟩]
    else let (kd, e) := tokE keys signs t a d
      ⟨kd, t.extract i a, t.extract a e, a⟩ :: toksF keys signs t k e false
end Go.Pv

/- The keys and the signs of the language; a text's place in a list. -/
namespace Go.Pv
set_option linter.unusedVariables false
set_option linter.unusedSimpArgs false
def keysL : List ByteArray := [⟨#[98, 114, 101, 97, 107]⟩, ⟨#[99, 97, 115, 101]⟩, ⟨#[99, 104, 97, 114]⟩, ⟨#[99, 111, 110, 115, 116]⟩, ⟨#[99, 111, 110, 116, 105, 110, 117, 101]⟩, ⟨#[100, 101, 102, 97, 117, 108, 116]⟩, ⟨#[100, 111]⟩, ⟨#[101, 108, 115, 101]⟩, ⟨#[101, 110, 117, 109]⟩, ⟨#[101, 120, 116, 101, 114, 110]⟩, ⟨#[102, 111, 114]⟩, ⟨#[103, 111, 116, 111]⟩, ⟨#[105, 102]⟩, ⟨#[105, 110, 116]⟩, ⟨#[108, 111, 110, 103]⟩, ⟨#[114, 101, 116, 117, 114, 110]⟩, ⟨#[115, 104, 111, 114, 116]⟩, ⟨#[115, 105, 103, 110, 101, 100]⟩, ⟨#[115, 105, 122, 101, 111, 102]⟩, ⟨#[115, 116, 97, 116, 105, 99]⟩, ⟨#[115, 116, 114, 117, 99, 116]⟩, ⟨#[115, 119, 105, 116, 99, 104]⟩, ⟨#[116, 121, 112, 101, 100, 101, 102]⟩, ⟨#[117, 110, 105, 111, 110]⟩, ⟨#[117, 110, 115, 105, 103, 110, 101, 100]⟩, ⟨#[118, 111, 105, 100]⟩, ⟨#[118, 111, 108, 97, 116, 105, 108, 101]⟩, ⟨#[119, 104, 105, 108, 101]⟩]
def signsL : List ByteArray := [⟨#[46, 46, 46]⟩, ⟨#[60, 60, 61]⟩, ⟨#[62, 62, 61]⟩, ⟨#[60, 60]⟩, ⟨#[62, 62]⟩, ⟨#[60, 61]⟩, ⟨#[62, 61]⟩, ⟨#[61, 61]⟩, ⟨#[33, 61]⟩, ⟨#[38, 38]⟩, ⟨#[124, 124]⟩, ⟨#[43, 43]⟩, ⟨#[45, 45]⟩, ⟨#[43, 61]⟩, ⟨#[45, 61]⟩, ⟨#[42, 61]⟩, ⟨#[47, 61]⟩, ⟨#[37, 61]⟩, ⟨#[38, 61]⟩, ⟨#[124, 61]⟩, ⟨#[94, 61]⟩, ⟨#[45, 62]⟩, ⟨#[43]⟩, ⟨#[45]⟩, ⟨#[42]⟩, ⟨#[47]⟩, ⟨#[37]⟩, ⟨#[38]⟩, ⟨#[124]⟩, ⟨#[94]⟩, ⟨#[33]⟩, ⟨#[126]⟩, ⟨#[60]⟩, ⟨#[62]⟩, ⟨#[61]⟩, ⟨#[63]⟩, ⟨#[58]⟩, ⟨#[59]⟩, ⟨#[44]⟩, ⟨#[46]⟩, ⟨#[40]⟩, ⟨#[41]⟩, ⟨#[91]⟩, ⟨#[93]⟩, ⟨#[123]⟩, ⟨#[125]⟩, ⟨#[35]⟩]
def hasF : List ByteArray → ByteArray → Int → Int
  | [], _, _ => -1
  | y :: r, x, i => if y = x then i else hasF r x (i + 1)
def hasI (l : List ByteArray) (x : ByteArray) : Int := hasF l x 0
theorem hasF_ge (l : List ByteArray) (x : ByteArray) (i : Int) (hi : 0 ≤ i) : 0 ≤ hasF l x i ↔ (l.any fun k => decide (k = x)) = true := by
  induction l generalizing i with
  | nil => simp [hasF]
  | cons y r ih =>
    by_cases h : y = x
    · simp [hasF, h, hi]
    · simp only [hasF, if_neg h, List.any_cons, h, decide_false, Bool.false_or]
      exact ih (i + 1) (by omega)
theorem hasI_ge (l : List ByteArray) (x : ByteArray) : 0 ≤ hasI l x ↔ (l.any fun k => decide (k = x)) = true := hasF_ge l x 0 (by omega)
end Go.Pv

/- Facts about tokens: places stay inside the text. -/
namespace Go.Pv
set_option linter.unusedVariables false
set_option linter.unusedSimpArgs false
theorem scanF_bar (p : Nat → Bool) : ∀ k i, scanF p k i < i + k → p (scanF p k i) = false
  | 0, i, h => by simp [scanF] at h
  | k + 1, i, h => by
    rw [scanF] at h ⊢
    split
    · rename_i hp
      rw [if_pos hp] at h
      exact scanF_bar p k (i + 1) (by omega)
    · rename_i hp
      simpa using hp
theorem scanW_bar {p : Nat → Bool} {n i : Nat} (h : scanW p n i < n) : p (scanW p n i) = false := by
  have hge := scanW_ge p n i
  unfold scanW at *
  exact scanF_bar p (n - i) i (by omega)
theorem beg_le {t : ByteArray} {i : Nat} {x : ByteArray} (h : beg t i x = true) : i + x.size ≤ t.size := by
  simp [beg] at h; exact h.1
theorem cmtEnd_le {t : ByteArray} {i : Nat} (hi : i ≤ t.size) : cmtEnd t i ≤ t.size := by
  unfold cmtEnd
  split
  · exact scanW_le _ hi
  · split
    · rename_i h
      simp only
      split
      · rename_i hj
        have := scanW_bar hj
        simp at this
        have := beg_le this
        exact this
      · exact Nat.le_refl _
    · exact hi
theorem cmtEnd_ge {t : ByteArray} {i : Nat} (hi : i ≤ t.size) : i ≤ cmtEnd t i := by
  unfold cmtEnd
  split
  · exact scanW_ge _ _ _
  · split
    · simp only
      split
      · have := scanW_ge (fun j => !beg t j ⟨#[42, 47]⟩) t.size (i + 2); omega
      · exact hi
    · exact Nat.le_refl _
theorem pieceEnd_le {t : ByteArray} {i : Nat} (hi : i ≤ t.size) : i ≤ pieceEnd t i ∧ pieceEnd t i ≤ t.size := by
  unfold pieceEnd
  split
  · rename_i h
    have : bt t i ≠ 0 := by intro h0; rw [h0] at h; revert h; decide
    have := bt_lt this
    omega
  · split
    · rename_i h
      split
      · rename_i h1
        have := bt_lt (t := t) (i := i + 1) (by omega)
        omega
      · split
        · rename_i h1
          have := bt_lt (t := t) (i := i + 2) (by omega)
          omega
        · omega
    · exact ⟨cmtEnd_ge hi, cmtEnd_le hi⟩
theorem lineEnd_gt {t : ByteArray} {i : Nat} (hi : i < t.size) (h : bt t i ≠ 10) : i < lineEnd t i ∧ lineEnd t i ≤ t.size := by
  have h1 : scanW (linP t i) t.size i = scanW (linP t i) t.size (i + 1) := scanW_step hi (by simp [linP, h])
  have h2 := scanW_ge (linP t i) t.size (i + 1)
  have h3 := scanW_le (linP t i) (n := t.size) (i := i) (by omega)
  unfold lineEnd
  simp only
  split <;> omega
theorem signLen_in {t : ByteArray} {i : Nat} (hi : i ≤ t.size) (l : List ByteArray) : i + signLen t i l ≤ t.size := by
  have h : ∀ (l : List ByteArray) (n : Nat), i + n ≤ t.size → i + l.foldl (fun n s => if n < s.size ∧ beg t i s = true then s.size else n) n ≤ t.size := by
    intro l
    induction l with
    | nil => intro n h; exact h
    | cons x l ih =>
      intro n h
      simp only [List.foldl_cons]
      apply ih
      split
      · rename_i h1
        exact beg_le h1.2
      · exact h
  exact h l 0 hi
theorem quotF_in (t : ByteArray) (q : Int) : ∀ (k i e : Nat), quotF t q k i = some e → i < e ∧ e ≤ t.size
  | 0, i, e, h => by simp [quotF] at h
  | k + 1, i, e, h => by
    simp only [quotF] at h
    split at h
    · split at h
      · cases h; omega
      · split at h
        · cases h
        · split at h
          · split at h
            · cases h
            · have := quotF_in t q k (i + 2) e h; omega
          · have := quotF_in t q k (i + 1) e h; omega
    · cases h
theorem tokE_in (keys signs : List ByteArray) {t : ByteArray} {i : Nat} (c : Bool) (hi : i < t.size) : i < (tokE keys signs t i c).2 ∧ (tokE keys signs t i c).2 ≤ t.size := by
  unfold tokE
  split
  · rename_i h
    exact lineEnd_gt hi (by omega)
  · split
    · rename_i h
      have h1 : wordEnd t i = scanW (fun j => isL (bt t j) || isD (bt t j)) t.size (i + 1) := scanW_step hi (by simp [h])
      have h2 := scanW_ge (fun j => isL (bt t j) || isD (bt t j)) t.size (i + 1)
      have h3 := scanW_le (fun j => isL (bt t j) || isD (bt t j)) (n := t.size) (i := i + 1) (by omega)
      simp only
      omega
    · split
      · have h2 := scanW_ge (numP t) t.size (i + 1)
        have h3 := scanW_le (numP t) (n := t.size) (i := i + 1) (by omega)
        simp only [numEnd]
        omega
      · split
        · split
          · simp only; omega
          · rename_i e he
            have := quotF_in t _ _ _ _ he
            simp only; omega
        · split
          · rename_i h
            have := signLen_in (t := t) (i := i) (by omega) signs
            simp only; omega
          · simp only; omega
theorem befF_fuel (t : ByteArray) : ∀ (k k' i : Nat) (c : Bool), i ≤ t.size → t.size - i ≤ k → t.size - i ≤ k' → befF t k i c = befF t k' i c
  | 0, 0, i, c, _, h, h' => rfl
  | 0, k' + 1, i, c, hi, h, h' => by
    have := pieceEnd_le hi
    simp only [befF]; rw [if_neg (by omega)]
  | k + 1, 0, i, c, hi, h, h' => by
    have := pieceEnd_le hi
    simp only [befF]; rw [if_neg (by omega)]
  | k + 1, k' + 1, i, c, hi, h, h' => by
    have := pieceEnd_le hi
    simp only [befF]
    split
    · exact befF_fuel t k k' _ _ (by omega) (by omega) (by omega)
    · rfl
theorem bef_step {t : ByteArray} {i : Nat} {c : Bool} (hi : i ≤ t.size) (h : i < pieceEnd t i) : bef t i c = bef t (pieceEnd t i) (clearB t i (pieceEnd t i) c) := by
  have := pieceEnd_le hi
  unfold bef
  obtain ⟨k, hk⟩ : ∃ k, t.size - i = k + 1 := ⟨t.size - i - 1, by omega⟩
  rw [hk]
  simp only [befF]
  rw [if_pos h]
  exact befF_fuel t _ _ _ _ (by omega) (by omega) (by omega)
theorem bef_stop {t : ByteArray} {i : Nat} {c : Bool} (h : ¬ i < pieceEnd t i) : bef t i c = (i, c) := by
  unfold bef
  cases t.size - i with
  | zero => rfl
  | succ k => simp only [befF]; rw [if_neg h]
/-- The tokens from a place on, what stands before the first one begun at st. -/
def restF (keys signs : List ByteArray) (t : ByteArray) (k st i : Nat) (c : Bool) : List Tk :=
  if (bef t i c).1 = t.size then [⟨0, t.extract st (bef t i c).1, ⟨#[]⟩, (bef t i c).1⟩]
  else ⟨(tokE keys signs t (bef t i c).1 (bef t i c).2).1, t.extract st (bef t i c).1, t.extract (bef t i c).1 (tokE keys signs t (bef t i c).1 (bef t i c).2).2, (bef t i c).1⟩ :: toksF keys signs t k (tokE keys signs t (bef t i c).1 (bef t i c).2).2 false
theorem toksF_succ (keys signs : List ByteArray) (t : ByteArray) (k i : Nat) (c : Bool) : toksF keys signs t (k + 1) i c = restF keys signs t k i i c := rfl
def allT (t : ByteArray) : List Tk := toksF keysL signsL t (t.size + 1) 0 true
end Go.Pv

/- The reference's lexer: its parts. -/
namespace Go.Pv
open Go.Proofs
set_option linter.unusedVariables false
set_option linter.unusedSimpArgs false
set_option maxRecDepth 100000
set_option maxHeartbeats 1000000
theorem rletter_c (c : Int) (s : St) : PCalls Tryd.prog 38 [.lit (.int .u8 c)] s (fun r s' => s' = s ∧ r = .ret (.lit (.bool (isL c)))) := by
  refine PCalls.of Tryd.func38 rfl (by rfl) (by simp [Tryd.ntmps38]) ?_
  refine pwC_sound _ _ _ _ ?_
  by_cases h1 : 97 ≤ c <;> by_cases h2 : c ≤ 122 <;> by_cases h3 : 65 ≤ c <;> by_cases h4 : c ≤ 90 <;>
    simp [Tryd.ntmps38, isL, h1, h2, h3, h4]
theorem rdigit_c (c : Int) (s : St) : PCalls Tryd.prog 62 [.lit (.int .u8 c)] s (fun r s' => s' = s ∧ r = .ret (.lit (.bool (isD c)))) := by
  refine PCalls.of Tryd.func62 rfl (by rfl) (by simp [Tryd.ntmps62]) ?_
  refine pwC_sound _ _ _ _ ?_
  by_cases h1 : 48 ≤ c <;> simp [Tryd.ntmps62, isD, h1]
theorem rbyte_c (t : ByteArray) (i : Nat) (ht : t.size ≤ 1000000) (s : St) : PCalls Tryd.prog 64 [.lit (.string t), .lit (.int .i64 i)] s (fun r s' => s' = s ∧ r = .ret (.lit (.int .u8 (bt t i)))) := by
  refine PCalls.of Tryd.func64 rfl (by rfl) (by simp [Tryd.ntmps64]) ?_
  refine pwC_sound _ _ _ _ ?_
  have h0 : ¬ (i : Int) < 0 := by omega
  by_cases h1 : i < t.size
  · have h2 : ¬ (t.size : Int) ≤ i := by omega
    have h3 : ¬ t.size ≤ i := by omega
    simp [Tryd.ntmps64, h0, h1, h2, h3]
  · have h2 : (t.size : Int) ≤ i := by omega
    have h3 : t.size ≤ i := by omega
    simp [Tryd.ntmps64, h0, h1, h2, h3, bt_none h3]
theorem rbegins_c (t : ByteArray) (i : Nat) (x : ByteArray) (ht : t.size ≤ 1000000) (hi : i ≤ 1000000) (hx : x.size ≤ 1000000) (s : St) : PCalls Tryd.prog 96 [.lit (.string t), .lit (.int .i64 i), .lit (.string x)] s (fun r s' => s' = s ∧ r = .ret (.lit (.bool (beg t i x)))) := by
  refine PCalls.of Tryd.func96 rfl (by rfl) (by simp [Tryd.ntmps96]) ?_
  refine pwC_sound _ _ _ _ ?_
  have w1 : IntKind.i64.wrap ((t.size : Int) - (i : Int)) = (t.size : Int) - (i : Int) := wrap_i64 (by omega) (by omega)
  have w2 : IntKind.i64.wrap ((i : Int) + (x.size : Int)) = (i : Int) + (x.size : Int) := wrap_i64 (by omega) (by omega)
  have w3 : ((i : Int) + (x.size : Int)).toNat = i + x.size := by omega
  have w4 : (0 : Int) ≤ (i : Int) + (x.size : Int) := by omega
  by_cases h1 : i + x.size ≤ t.size
  · have h2 : (x.size : Int) ≤ (t.size : Int) - (i : Int) := by omega
    simp [Tryd.ntmps96, w1, w2, w3, w4, h1, h2, beg]
  · have h2 : ¬ (x.size : Int) ≤ (t.size : Int) - (i : Int) := by omega
    simp [Tryd.ntmps96, w1, w2, w3, w4, h1, h2, beg]
end Go.Pv

/- The reference's lexer: comments, numbers, quoted texts, lines, pieces. -/
namespace Go.Pv
open Go.Proofs
set_option linter.unusedVariables false
set_option linter.unusedSimpArgs false
set_option maxRecDepth 100000
set_option maxHeartbeats 1000000
theorem rcomment_c (t : ByteArray) (i : Nat) (ht : t.size ≤ 1000000) (hi : i ≤ t.size) (s : St) : PCalls Tryd.prog 65 [.lit (.string t), .lit (.int .i64 i)] s (fun r s' => s' = s ∧ r = .ret (.lit (.int .i64 (cmtEnd t i)))) := by
  refine PCalls.of Tryd.func65 rfl (by rfl) (by simp [Tryd.ntmps65]) ?_
  refine pwC_sound _ _ _ _ ?_
  simp [Tryd.ntmps65]
  refine (rbegins_c t i ⟨#[47, 47]⟩ ht (by omega) (by decide) _).mono ?_
  rintro _ s1 ⟨hs1, rfl⟩
  rw [hs1]
  clear hs1 s1
  by_cases h1 : beg t i ⟨#[47, 47]⟩ = true
  · simp [h1]
    refine PW.loop (fun n e s' => ∃ j : Nat, j + n = t.size ∧ e 0 = .lit (.string t) ∧ e 1 = .lit (.int .i64 j) ∧ scanW (fun j => decide (bt t j ≠ 10)) t.size j = cmtEnd t i ∧ s' = s) (t.size - i) ⟨i, by omega, by simp, by simp, by simp [cmtEnd, h1], rfl⟩ ?_
    rintro n e s' ⟨j, hj, e0, e1, hs, rfl⟩
    refine pwC_sound _ _ _ _ ?_
    by_cases hlt : j < t.size
    · have hlt' : (j : Int) < t.size := by omega
      have w1 : IntKind.i64.wrap ((j : Int) + 1) = ((j + 1 : Nat) : Int) := by rw [wrap_i64 (by omega) (by omega)]; omega
      by_cases hc : bt t j = 10
      · rw [scanW_stop (by simp [hc])] at hs
        simp [e0, e1, hlt, hlt', hc, ← hs]
      · rw [scanW_step hlt (by simp [hc])] at hs
        simp [e0, e1, hlt, hlt', hc, w1]
        exact ⟨n - 1, by omega, j + 1, by omega, by omega, by simpa using hs⟩
    · have hlt' : ¬ (j : Int) < t.size := by omega
      rw [scanW_end (by omega)] at hs
      simp [e0, e1, hlt, hlt', ← hs]
  · simp [h1]
    refine (rbegins_c t i ⟨#[47, 42]⟩ ht (by omega) (by decide) _).mono ?_
    rintro _ s1 ⟨hs1, rfl⟩
    rw [hs1]
    clear hs1 s1
    by_cases h2 : beg t i ⟨#[47, 42]⟩ = true
    · have hi2 : i + 2 ≤ t.size := by
        have := h2
        simp [beg] at this
        exact this.1
      have w2 : IntKind.i64.wrap ((i : Int) + 2) = ((i + 2 : Nat) : Int) := by rw [wrap_i64 (by omega) (by omega)]; omega
      simp [h2, w2]
      refine PW.loop (fun n e s' => ∃ j : Nat, j + n = t.size ∧ e 0 = .lit (.string t) ∧ e 5 = .lit (.int .i64 j) ∧ (let k := scanW (fun j => !beg t j ⟨#[42, 47]⟩) t.size j; if k < t.size then k + 2 else t.size) = cmtEnd t i ∧ s' = s) (t.size - (i + 2)) ⟨i + 2, by omega, by simp, by simp, by simp [cmtEnd, h1, h2], rfl⟩ ?_
      rintro n e s' ⟨j, hj, e0, e5, hs, rfl⟩
      refine pwC_sound _ _ _ _ ?_
      by_cases hlt : j < t.size
      · have hlt' : (j : Int) < t.size := by omega
        have w1 : IntKind.i64.wrap ((j : Int) + 1) = ((j + 1 : Nat) : Int) := by rw [wrap_i64 (by omega) (by omega)]; omega
        have w3 : IntKind.i64.wrap ((j : Int) + 2) = ((j + 2 : Nat) : Int) := by rw [wrap_i64 (by omega) (by omega)]; omega
        simp [e0, e5, hlt, hlt']
        refine (rbegins_c t j ⟨#[42, 47]⟩ ht (by omega) (by decide) _).mono ?_
        rintro _ s1 ⟨hs1, rfl⟩
        rw [hs1]
        clear hs1 s1
        by_cases hc : beg t j ⟨#[42, 47]⟩ = true
        · rw [scanW_stop (by simp [hc])] at hs
          simp [hlt] at hs
          simp [e0, e5, hlt, hlt', hc, w3, ← hs]
        · rw [scanW_step hlt (by simp [hc])] at hs
          simp [e0, e5, hlt, hlt', hc, w1]
          exact ⟨n - 1, by omega, j + 1, by omega, by omega, by simpa using hs⟩
      · have hlt' : ¬ (j : Int) < t.size := by omega
        rw [scanW_end (by omega)] at hs
        simp [hlt] at hs
        simp [e0, e5, hlt, hlt', ← hs]
    · simp [h2, cmtEnd, h1]
end Go.Pv

/- The reference's lexer: numbers. -/
namespace Go.Pv
open Go.Proofs
set_option linter.unusedVariables false
set_option linter.unusedSimpArgs false
set_option maxRecDepth 100000
set_option maxHeartbeats 1000000
theorem rnumber_c (t : ByteArray) (i : Nat) (ht : t.size ≤ 1000000) (hi : i < t.size) (s : St) : PCalls Tryd.prog 67 [.lit (.string t), .lit (.int .i64 i)] s (fun r s' => s' = s ∧ r = .ret (.lit (.int .i64 (numEnd t i)))) := by
  refine PCalls.of Tryd.func67 rfl (by rfl) (by simp [Tryd.ntmps67]) ?_
  refine pwC_sound _ _ _ _ ?_
  have w0 : IntKind.i64.wrap ((i : Int) + 1) = ((i + 1 : Nat) : Int) := by rw [wrap_i64 (by omega) (by omega)]; omega
  simp [Tryd.ntmps67, w0]
  refine PW.loop (fun n e s' => ∃ j : Nat, j + n = t.size ∧ i + 1 ≤ j ∧ e 0 = .lit (.string t) ∧ e 5 = .lit (.int .i64 j) ∧ scanW (numP t) t.size j = numEnd t i ∧ s' = s) (t.size - (i + 1)) ⟨i + 1, by omega, by omega, by simp, by simp, rfl, rfl⟩ ?_
  rintro n e s' ⟨j, hj, hij, e0, e5, hs, rfl⟩
  refine pwC_sound _ _ _ _ ?_
  by_cases hlt : j < t.size
  · have hlt' : (j : Int) < t.size := by omega
    have hlt2 : j - 1 < t.size := by omega
    have w1 : IntKind.i64.wrap ((j : Int) + 1) = ((j + 1 : Nat) : Int) := by rw [wrap_i64 (by omega) (by omega)]; omega
    have w2 : IntKind.i64.wrap ((j : Int) - 1) = ((j - 1 : Nat) : Int) := by rw [wrap_i64 (by omega) (by omega)]; omega
    have hn : numP t j = true → scanW (numP t) t.size (j + 1) = numEnd t i := fun h => by rw [scanW_step hlt h] at hs; exact hs
    have hno : numP t j = false → numEnd t i = j := fun h => by rw [scanW_stop h] at hs; exact hs.symm
    by_cases hsg : bt t j = 43 ∨ bt t j = 45
    · have hL : isL (bt t j) = false := by rcases hsg with a | a <;> rw [a] <;> decide
      have hD : isD (bt t j) = false := by rcases hsg with a | a <;> rw [a] <;> decide
      have h46 : ¬ bt t j = 46 := by omega
      by_cases a1 : bt t j = 43 <;> by_cases a3 : bt t (j - 1) = 101 <;> by_cases a4 : bt t (j - 1) = 69 <;> (try (exfalso; omega)) <;>
      (have a2 : ¬ bt t j = 43 → bt t j = 45 := by omega
       simp [a1] at a2
       simp [a1, a2] at hL hD
       simp [e0, e5, hlt, hlt', hlt2, w2, a1, a2, a3, a4]
       refine (rletter_c _ _).mono ?_
       rintro _ s1 ⟨hs1, rfl⟩
       rw [hs1]
       clear hs1 s1
       simp [e0, e5, hlt, hlt', hlt2, w2, a1, a2, a3, a4, hL]
       refine (rdigit_c _ _).mono ?_
       rintro _ s1 ⟨hs1, rfl⟩
       rw [hs1]
       clear hs1 s1
       simp [e0, e5, hlt, hlt', hlt2, w1, w2, a1, a2, a3, a4, hL, hD]
       first
       | exact ⟨n - 1, by omega, j + 1, by omega, by omega, by omega, hn (by simp [numP, hL, hD, a1, a2, a3, a4])⟩
       | (rw [hno (by simp [numP, hL, hD, a1, a2, a3, a4])]; exact ⟨_, sub_refl, rfl, rfl⟩))
    · have a1 : ¬ bt t j = 43 := fun h => hsg (.inl h)
      have a2 : ¬ bt t j = 45 := fun h => hsg (.inr h)
      simp [e0, e5, hlt, hlt', hlt2, w2, a1, a2]
      refine (rletter_c _ _).mono ?_
      rintro _ s1 ⟨hs1, rfl⟩
      rw [hs1]
      clear hs1 s1
      by_cases hL : isL (bt t j) = true
      · simp [e0, e5, hlt, hlt', hlt2, w1, w2, a1, a2, hL]
        exact ⟨n - 1, by omega, j + 1, by omega, by omega, by omega, hn (by simp [numP, hL])⟩
      · simp [e0, e5, hlt, hlt', hlt2, w1, w2, a1, a2, hL]
        refine (rdigit_c _ _).mono ?_
        rintro _ s1 ⟨hs1, rfl⟩
        rw [hs1]
        clear hs1 s1
        by_cases hD : isD (bt t j) = true
        · simp [e0, e5, hlt, hlt', hlt2, w1, w2, a1, a2, hL, hD]
          exact ⟨n - 1, by omega, j + 1, by omega, by omega, by omega, hn (by simp [numP, hD])⟩
        · by_cases h46 : bt t j = 46
          · simp [e0, e5, hlt, hlt', hlt2, w1, w2, a1, a2, hL, hD, h46]
            exact ⟨n - 1, by omega, j + 1, by omega, by omega, by omega, hn (by simp [numP, h46])⟩
          · simp [e0, e5, hlt, hlt', hlt2, w1, w2, a1, a2, hL, hD, h46]
            rw [hno (by simp [numP, hL, hD, a1, a2, h46])]
            exact ⟨_, sub_refl, rfl, rfl⟩
  · have hlt' : ¬ (j : Int) < t.size := by omega
    rw [scanW_end (by omega)] at hs
    simp [e0, e5, hlt, hlt', ← hs]
end Go.Pv

/- The reference's lexer: quoted texts. -/
namespace Go.Pv
open Go.Proofs
set_option linter.unusedVariables false
set_option linter.unusedSimpArgs false
set_option maxRecDepth 100000
set_option maxHeartbeats 1000000
theorem quotF_fuel (t : ByteArray) (q : Int) : ∀ (k k' i : Nat), t.size - i ≤ k → t.size - i ≤ k' → quotF t q k i = quotF t q k' i
  | 0, k', i, h, h' => by
    cases k' with
    | zero => rfl
    | succ k' => simp only [quotF]; rw [if_neg (by omega)]
  | k + 1, 0, i, h, h' => by simp only [quotF]; rw [if_neg (by omega)]
  | k + 1, k' + 1, i, h, h' => by
    simp only [quotF]
    rw [quotF_fuel t q k k' (i + 2) (by omega) (by omega), quotF_fuel t q k k' (i + 1) (by omega) (by omega)]
theorem quotE_eq (t : ByteArray) (q : Int) (i : Nat) : quotE t q i = if i < t.size then (if bt t i = q then some (i + 1) else if bt t i = 10 then none else if bt t i = 92 then (if bt t (i + 1) = 10 then none else quotE t q (i + 2)) else quotE t q (i + 1)) else none := by
  unfold quotE
  cases h : t.size - i with
  | zero => rw [if_neg (by omega)]; rfl
  | succ k =>
    simp only [quotF]
    rw [quotF_fuel t q k (t.size - (i + 2)) (i + 2) (by omega) (by omega), quotF_fuel t q k (t.size - (i + 1)) (i + 1) (by omega) (by omega)]
theorem rquoted_c (t : ByteArray) (i : Nat) (ht : t.size ≤ 1000000) (hi : i < t.size) (hq : bt t i = 39 ∨ bt t i = 34) (s : St) : PCalls Tryd.prog 68 [.lit (.string t), .lit (.int .i64 i)] s (fun r s' => s' = s ∧ r = .ret (.lit (.int .i64 ((quotE t (bt t i) (i + 1)).getD i : Nat)))) := by
  refine PCalls.of Tryd.func68 rfl (by rfl) (by simp [Tryd.ntmps68]) ?_
  refine pwC_sound _ _ _ _ ?_
  have w0 : IntKind.i64.wrap ((i : Int) + 1) = ((i + 1 : Nat) : Int) := by rw [wrap_i64 (by omega) (by omega)]; omega
  simp [Tryd.ntmps68, w0]
  refine PW.loop (fun n e s' => ∃ j : Nat, j + n = t.size + 1 ∧ i + 1 ≤ j ∧ e 0 = .lit (.string t) ∧ e 1 = .lit (.int .i64 i) ∧ e 5 = .lit (.int .i64 j) ∧ quotE t (bt t i) j = quotE t (bt t i) (i + 1) ∧ s' = s) (t.size + 1 - (i + 1)) ⟨i + 1, by omega, by omega, by simp, by simp, by simp, rfl, rfl⟩ ?_
  rintro n e s' ⟨j, hj, hij, e0, e1, e5, hs, rfl⟩
  refine pwC_sound _ _ _ _ ?_
  rw [quotE_eq] at hs
  have hq10 : ¬ bt t i = 10 := by omega
  by_cases hlt : j < t.size
  · have hlt' : (j : Int) < t.size := by omega
    have w1 : IntKind.i64.wrap ((j : Int) + 1) = ((j + 1 : Nat) : Int) := by rw [wrap_i64 (by omega) (by omega)]; omega
    rw [if_pos hlt] at hs
    by_cases h10 : bt t j = 10
    · rw [if_neg (by omega), if_pos h10] at hs
      simp [e0, e1, e5, hlt, hlt', h10, ← hs]
    · refine pwC_cut fun K1 hK1 => ?_
      simp [e0, e5, hlt, hlt', h10]
      refine hK1 _ _ ?_
      clear hK1 K1
      simp
      refine PW.drawn (fun i => 0) [0, 1, 2, 3, 4, 5, 6] mixed_ (fun _ _ _ _ h => h) (by kernel_rfl) ?_
      by_cases hc : bt t j = bt t i
      · rw [if_pos hc] at hs
        simp [e0, e1, e5, hlt, hlt', hi, hc, w1]
        rw [← hs]
        simp
      · rw [if_neg hc, if_neg h10] at hs
        by_cases h92 : bt t j = 92
        · rw [if_pos h92] at hs
          rw [h92] at hc h10
          by_cases hlt1 : j + 1 < t.size
          · have hlt1' : (j : Int) + 1 < t.size := by omega
            have w5 : IntKind.i64.wrap ((j : Int) + 1 + 1) = ((j + 2 : Nat) : Int) := by rw [wrap_i64 (by omega) (by omega)]; omega
            have w6 : ((j : Int) + 1).toNat = j + 1 := by omega
            have w7 : (0 : Int) ≤ (j : Int) + 1 := by omega
            by_cases h10' : bt t (j + 1) = 10
            · rw [if_pos h10'] at hs
              simp [e0, e1, e5, hlt, hlt', hi, hc, w1, h92, hlt1, hlt1', w6, w7, h10', ← hs]
            · rw [if_neg h10'] at hs
              simp [e0, e1, e5, hlt, hlt', hi, hc, w1, h92, hlt1, hlt1', w5, w6, w7, h10']
              exact ⟨n - 2, by omega, j + 2, by omega, by omega, by omega, hs⟩
          · have hlt1' : ¬ (j : Int) + 1 < t.size := by omega
            have w5 : IntKind.i64.wrap ((j : Int) + 1 + 1) = ((j + 2 : Nat) : Int) := by rw [wrap_i64 (by omega) (by omega)]; omega
            rw [if_neg (by rw [bt_none (by omega)]; omega)] at hs
            simp [e0, e1, e5, hlt, hlt', hi, hc, w1, h92, hlt1, hlt1', w5]
            exact ⟨n - 2, by omega, j + 2, by omega, by omega, by omega, hs⟩
        · rw [if_neg h92] at hs
          simp [e0, e1, e5, hlt, hlt', hi, hc, w1, h92]
          exact ⟨n - 1, by omega, j + 1, by omega, by omega, by omega, hs⟩
  · have hlt' : ¬ (j : Int) < t.size := by omega
    rw [if_neg hlt] at hs
    simp [e0, e1, e5, hlt, hlt', ← hs]
end Go.Pv

/- The reference's lexer: lines, and what stands before a token. -/
namespace Go.Pv
open Go.Proofs
set_option linter.unusedVariables false
set_option linter.unusedSimpArgs false
set_option maxRecDepth 100000
set_option maxHeartbeats 1000000
theorem rline_c (t : ByteArray) (i : Nat) (ht : t.size ≤ 1000000) (hi : i < t.size) (h35 : bt t i = 35) (s : St) : PCalls Tryd.prog 66 [.lit (.string t), .lit (.int .i64 i)] s (fun r s' => s' = s ∧ r = .ret (.lit (.int .i64 (lineEnd t i)))) := by
  refine PCalls.of Tryd.func66 rfl (by rfl) (by simp [Tryd.ntmps66]) ?_
  refine pwC_sound _ _ _ _ ?_
  refine pwC_cut fun K hK => ?_
  simp [Tryd.ntmps66]
  refine hK _ _ ?_
  clear hK K
  refine pwC_cut fun K hK => ?_
  simp
  refine hK _ _ ?_
  clear hK K
  refine pwC_cut fun K hK => ?_
  simp
  have fin : ∀ (e : Env) (j : Nat), j ≤ t.size → e 0 = .lit (.string t) → e 1 = .lit (.int .i64 i) → e 5 = .lit (.int .i64 j) → scanW (linP t i) t.size i = j → K e s := by
    intro e j hj e0 e1 e5 hs
    refine hK _ _ ?_
    clear hK K
    have hle : lineEnd t i = if j < t.size ∧ i + 1 < j ∧ bt t (j - 1) = 13 then j - 1 else j := by simp [lineEnd, hs]
    have w2 : IntKind.i64.wrap ((j : Int) - 1) = (j : Int) - 1 := by rw [wrap_i64 (by omega) (by omega)]
    by_cases h1 : j < t.size
    · have h1' : (j : Int) < t.size := by omega
      by_cases h2 : i + 1 < j
      · have h2' : (i : Int) < (j : Int) - 1 := by omega
        have h3 : ((j : Int) - 1).toNat = j - 1 := by omega
        have h4 : (0 : Int) ≤ (j : Int) - 1 := by omega
        have h5 : j - 1 < t.size := by omega
        have h4' : (1 : Int) ≤ (j : Int) := by omega
        by_cases h6 : bt t (j - 1) = 13
        · simp [h1, h2, h6] at hle
          simp [e0, e1, e5, w2, h1, h1', h2', h3, h4, h4', h5, h6, hle]
          exact ⟨_, sub_refl, rfl, by omega⟩
        · simp [h1, h2, h6] at hle
          simp [e0, e1, e5, w2, h1, h1', h2', h3, h4, h4', h5, h6, hle]
      · have h2' : ¬ (i : Int) < (j : Int) - 1 := by omega
        simp [h1, h2] at hle
        simp [e0, e1, e5, w2, h1, h1', h2', hle]
    · have h1' : ¬ (j : Int) < t.size := by omega
      simp [h1] at hle
      simp [e0, e1, e5, w2, h1, h1', hle]
  clear hK
  refine PW.loop (fun n e s' => ∃ j : Nat, j + n = t.size ∧ i ≤ j ∧ e 0 = .lit (.string t) ∧ e 1 = .lit (.int .i64 i) ∧ e 5 = .lit (.int .i64 j) ∧ scanW (linP t i) t.size j = scanW (linP t i) t.size i ∧ s' = s) (t.size - i) ⟨i, by omega, by omega, by simp, by simp, by simp, rfl, rfl⟩ ?_
  rintro n e s' ⟨j, hj, hij, e0, e1, e5, hs, rfl⟩
  refine pwC_sound _ _ _ _ ?_
  by_cases hlt : j < t.size
  · have hlt' : (j : Int) < t.size := by omega
    have w1 : IntKind.i64.wrap ((j : Int) + 1) = ((j + 1 : Nat) : Int) := by rw [wrap_i64 (by omega) (by omega)]; omega
    have hn : linP t i j = true → scanW (linP t i) t.size (j + 1) = scanW (linP t i) t.size i := fun h => by rw [scanW_step hlt h] at hs; exact hs
    have hno : linP t i j = false → scanW (linP t i) t.size i = j := fun h => by rw [scanW_stop h] at hs; exact hs.symm
    by_cases h10 : bt t j = 10
    · have hji : i < j := by
        rcases Nat.lt_or_ge i j with h | h
        · exact h
        · have : j = i := by omega
          subst this; omega
      have w2 : IntKind.i64.wrap ((j : Int) - 1) = ((j : Int) - 1) := by rw [wrap_i64 (by omega) (by omega)]
      have w3 : IntKind.i64.wrap ((j : Int) - 2) = ((j : Int) - 2) := by rw [wrap_i64 (by omega) (by omega)]
      have h3 : ((j : Int) - 1).toNat = j - 1 := by omega
      have h4 : (0 : Int) ≤ (j : Int) - 1 := by omega
      have h4' : (1 : Int) ≤ (j : Int) := by omega
      have h5 : j - 1 < t.size := by omega
      by_cases a1 : bt t (j - 1) = 92
      · simp [e0, e1, e5, hlt, hlt', h10, w1, w2, h3, h4, h4', h5, a1]
        exact ⟨n - 1, by omega, j + 1, by omega, by omega, by omega, hn (by simp [linP, a1])⟩
      · by_cases a2 : i + 2 ≤ j
        · have a2' : (i : Int) ≤ (j : Int) - 2 := by omega
          have h6 : ((j : Int) - 2).toNat = j - 2 := by omega
          have h7 : (0 : Int) ≤ (j : Int) - 2 := by omega
          have h7' : (2 : Int) ≤ (j : Int) := by omega
          have h8 : j - 2 < t.size := by omega
          by_cases a3 : bt t (j - 1) = 13
          · by_cases a4 : bt t (j - 2) = 92
            · simp [e0, e1, e5, hlt, hlt', h10, w1, w2, w3, h3, h4, h4', h5, h6, h7, h7', h8, a1, a2', a3, a4]
              exact ⟨n - 1, by omega, j + 1, by omega, by omega, by omega, hn (by simp [linP, a2, a3, a4])⟩
            · simp [e0, e1, e5, hlt, hlt', h10, w1, w2, w3, h3, h4, h4', h5, h6, h7, h7', h8, a1, a2', a3, a4]
              exact fin _ j (by omega) (by simp [e0]) (by simp [e1]) (by simp [e5]) (hno (by simp [linP, h10, a1, a3, a4]))
          · simp [e0, e1, e5, hlt, hlt', h10, w1, w2, w3, h3, h4, h4', h5, h6, h7, h7', h8, a1, a2', a3]
            exact fin _ j (by omega) (by simp [e0]) (by simp [e1]) (by simp [e5]) (hno (by simp [linP, h10, a1, a3]))
        · have a2' : ¬ (i : Int) ≤ (j : Int) - 2 := by omega
          simp [e0, e1, e5, hlt, hlt', h10, w1, w2, w3, h3, h4, h4', h5, a1, a2']
          exact fin _ j (by omega) (by simp [e0]) (by simp [e1]) (by simp [e5]) (hno (by simp [linP, h10, a1]; omega))
    · simp [e0, e1, e5, hlt, hlt', h10, w1]
      exact ⟨n - 1, by omega, j + 1, by omega, by omega, by omega, hn (by simp [linP, h10])⟩
  · have hlt' : ¬ (j : Int) < t.size := by omega
    rw [scanW_end (by omega)] at hs
    simp [e0, e1, e5, hlt, hlt']
    exact fin _ j (by omega) (by simp [e0]) (by simp [e1]) (by simp [e5]) hs.symm
end Go.Pv

/- The reference's lexer: words and signs. -/
namespace Go.Pv
open Go.Proofs
set_option linter.unusedVariables false
set_option linter.unusedSimpArgs false
set_option maxRecDepth 100000
set_option maxHeartbeats 1000000
theorem has_c (k : VK) (l : List ByteArray) (x : ByteArray) (hl : l.length ≤ 1000000) (s : St) : PCalls Tryd.prog 37 [strs k l, .lit (.string x)] s (fun r s' => s' = s ∧ r = .ret (.lit (.int .i64 (hasI l x)))) := by
  refine PCalls.of Tryd.func37 rfl (by rfl) (by simp [Tryd.ntmps37]) ?_
  refine pwC_sound _ _ _ _ ?_
  simp [Tryd.ntmps37]
  refine PW.loop (fun n e s' => ∃ j : Nat, j + n = l.length ∧ e 0 = strs k l ∧ e 1 = .lit (.string x) ∧ e 5 = .lit (.int .i64 j) ∧ hasF (l.drop j) x j = hasI l x ∧ s' = s) l.length ⟨0, by omega, by simp, by simp, by simp, rfl, rfl⟩ ?_
  rintro n e s' ⟨j, hj, e0, e1, e5, hs, rfl⟩
  refine pwC_sound _ _ _ _ ?_
  by_cases hlt : j < l.length
  · have hlt' : (j : Int) < l.length := by omega
    have hg : l[j]? = some l[j] := List.getElem?_eq_getElem hlt
    have w1 : IntKind.i64.wrap ((j : Int) + 1) = ((j + 1 : Nat) : Int) := by rw [wrap_i64 (by omega) (by omega)]; omega
    rw [List.drop_eq_getElem_cons hlt, hasF] at hs
    by_cases hc : l[j] = x
    · rw [if_pos hc] at hs
      simp [e0, e1, e5, hlt, hlt', hg, hc, ← hs]
    · rw [if_neg hc] at hs
      simp [e0, e1, e5, hlt, hlt', hg, hc, w1]
      exact ⟨n - 1, by omega, j + 1, by omega, by omega, hs⟩
  · have hlt' : ¬ (j : Int) < l.length := by omega
    rw [List.drop_eq_nil_of_le (by omega)] at hs
    simp [e0, e1, e5, hlt, hlt', ← hs, hasF]
theorem rkeys_c (s : St) : PCalls Tryd.prog 63 [] s (fun r s' => s' = s ∧ r = .ret (strs .tight keysL)) := by
  refine PCalls.of Tryd.func63 rfl (by rfl) (by simp [Tryd.ntmps63]) ?_
  refine pwC_sound _ _ _ _ ?_
  simp [Tryd.ntmps63, keysL]
theorem rsigns_c (s : St) : PCalls Tryd.prog 97 [] s (fun r s' => s' = s ∧ r = .ret (strs .tight signsL)) := by
  refine PCalls.of Tryd.func97 rfl (by rfl) (by simp [Tryd.ntmps97]) ?_
  refine pwC_sound _ _ _ _ ?_
  simp [Tryd.ntmps97, signsL]
theorem rword_c (t : ByteArray) (i : Nat) (ht : t.size ≤ 1000000) (hi : i ≤ t.size) (s : St) : PCalls Tryd.prog 39 [.lit (.string t), .lit (.int .i64 i)] s (fun r s' => s' = s ∧ r = .ret (.tup [.lit (.int .i64 (if (keysL.any fun k => decide (k = t.extract i (wordEnd t i))) = true then 2 else 1)), .lit (.int .i64 (wordEnd t i))])) := by
  refine PCalls.of Tryd.func39 rfl (by rfl) (by simp [Tryd.ntmps39]) ?_
  refine pwC_sound _ _ _ _ ?_
  refine pwC_cut fun K hK => ?_
  simp [Tryd.ntmps39]
  refine hK _ _ ?_
  clear hK K
  refine pwC_cut fun K hK => ?_
  simp
  refine hK _ _ ?_
  clear hK K
  refine pwC_cut fun K hK => ?_
  simp
  have fin : ∀ (e : Env) (j : Nat), e 0 = .lit (.string t) → e 1 = .lit (.int .i64 i) → e 6 = .lit (.int .i64 j) → wordEnd t i = j → K e s := by
    intro e j e0 e1 e6 hs
    refine hK _ _ ?_
    clear hK K
    have h1 : i ≤ j := by rw [← hs]; exact scanW_ge _ _ _
    have h2 : j ≤ t.size := by rw [← hs]; exact scanW_le _ hi
    rw [hs]
    simp
    refine PW.drawn (fun i => match i with | 0 => 1 | 5 => 1 | _ => 0) [0, 1, 2, 3, 4, 5, 6] mixed_ (fun _ _ _ _ h => h) (by kernel_rfl) ?_
    simp [e0, e1, e6]
    refine quiet_of (rkeys_c _) ?_
    simp [e0, e1, e6, h1, h2]
    refine quiet_of (has_c .tight keysL (t.extract i j) (by decide) _) ?_
    have hh := hasI_ge keysL (t.extract i j)
    by_cases hc : 0 ≤ hasI keysL (t.extract i j)
    · have hh' := hh.1 hc
      simp [hc, e0, e1, e6]
      exact ⟨_, sub_refl, rfl, by simpa using hh'⟩
    · have hh' : ¬ (keysL.any fun k => decide (k = t.extract i j)) = true := fun h => hc (hh.2 h)
      simp [hc, e0, e1, e6]
      exact ⟨_, sub_refl, rfl, by simpa using hh'⟩
  clear hK
  refine PW.loop (fun n e s' => ∃ j : Nat, j + n = t.size ∧ e 0 = .lit (.string t) ∧ e 1 = .lit (.int .i64 i) ∧ e 6 = .lit (.int .i64 j) ∧ scanW (fun j => isL (bt t j) || isD (bt t j)) t.size j = wordEnd t i ∧ s' = s) (t.size - i) ⟨i, by omega, by simp, by simp, by simp, rfl, rfl⟩ ?_
  rintro n e s' ⟨j, hj, e0, e1, e6, hs, rfl⟩
  refine pwC_sound _ _ _ _ ?_
  by_cases hlt : j < t.size
  · have hlt' : (j : Int) < t.size := by omega
    have w1 : IntKind.i64.wrap ((j : Int) + 1) = ((j + 1 : Nat) : Int) := by rw [wrap_i64 (by omega) (by omega)]; omega
    simp [e0, e6, hlt, hlt']
    refine (rletter_c _ _).mono ?_
    rintro _ s1 ⟨hs1, rfl⟩
    rw [hs1]
    clear hs1 s1
    by_cases hL : isL (bt t j) = true
    · rw [scanW_step hlt (by simp [hL])] at hs
      simp [e0, e1, e6, hlt, hlt', hL, w1]
      exact ⟨n - 1, by omega, j + 1, by omega, by omega, hs⟩
    · simp [e0, e1, e6, hlt, hlt', hL]
      refine (rdigit_c _ _).mono ?_
      rintro _ s1 ⟨hs1, rfl⟩
      rw [hs1]
      clear hs1 s1
      by_cases hD : isD (bt t j) = true
      · rw [scanW_step hlt (by simp [hD])] at hs
        simp [e0, e1, e6, hlt, hlt', hL, hD, w1]
        exact ⟨n - 1, by omega, j + 1, by omega, by omega, hs⟩
      · rw [scanW_stop (by simp [hL, hD])] at hs
        simp [e0, e1, e6, hlt, hlt', hL, hD]
        exact fin _ j (by simp [e0]) (by simp [e1]) (by simp [e6]) hs.symm
  · have hlt' : ¬ (j : Int) < t.size := by omega
    rw [scanW_end (by omega)] at hs
    simp [e0, e1, e6, hlt, hlt']
    exact fin _ j (by simp [e0]) (by simp [e1]) (by simp [e6]) hs.symm
end Go.Pv

/- The reference's lexer: signs, and what stands before a token. -/
namespace Go.Pv
open Go.Proofs
set_option linter.unusedVariables false
set_option linter.unusedSimpArgs false
set_option maxRecDepth 100000
set_option maxHeartbeats 1000000
/-- The longest sign so far, as a text. -/
def signT (t : ByteArray) (i : Nat) (l : List ByteArray) (b : ByteArray) : ByteArray := l.foldl (fun b s => if b.size < s.size ∧ beg t i s = true then s else b) b
theorem signT_size (t : ByteArray) (i : Nat) (l : List ByteArray) (b : ByteArray) : (signT t i l b).size = l.foldl (fun n s => if n < s.size ∧ beg t i s = true then s.size else n) b.size := by
  induction l generalizing b with
  | nil => rfl
  | cons x l ih =>
    simp only [signT, List.foldl_cons] at *
    split
    · exact ih x
    · exact ih b
theorem signLen_eq (t : ByteArray) (i : Nat) (l : List ByteArray) : (signT t i l ⟨#[]⟩).size = signLen t i l := signT_size t i l ⟨#[]⟩
theorem rsign_c (t : ByteArray) (i : Nat) (ht : t.size ≤ 1000000) (hi : i ≤ t.size) (s : St) : PCalls Tryd.prog 69 [.lit (.string t), .lit (.int .i64 i)] s (fun r s' => s' = s ∧ r = .ret (.lit (.string (signT t i signsL ⟨#[]⟩)))) := by
  refine PCalls.of Tryd.func69 rfl (by rfl) (by simp [Tryd.ntmps69]) ?_
  refine pwC_sound _ _ _ _ ?_
  simp [Tryd.ntmps69]
  refine (rsigns_c _).mono ?_
  rintro _ s1 ⟨hs1, rfl⟩
  rw [hs1]
  clear hs1 s1
  have hl : ∀ x ∈ signsL, x.size ≤ 3 := by decide
  have hn : signsL.length = 47 := by decide
  generalize signsL = L at *
  simp
  refine PW.loop (fun n e s' => ∃ (j : Nat) (b : ByteArray), j + n = L.length ∧ e 0 = .lit (.string t) ∧ e 1 = .lit (.int .i64 i) ∧ e 5 = .lit (.string b) ∧ e 6 = strs .tight L ∧ e 7 = .lit (.int .i64 j) ∧ signT t i (L.drop j) b = signT t i L ⟨#[]⟩ ∧ s' = s) L.length ⟨0, ⟨#[]⟩, by omega, by simp, by simp, by simp, by simp, by simp, rfl, rfl⟩ ?_
  rintro n e s' ⟨j, b, hj, e0, e1, e5, e6, e7, hs, rfl⟩
  refine pwC_sound _ _ _ _ ?_
  by_cases hlt : j < L.length
  · have hlt' : (j : Int) < L.length := by omega
    have hg : L[j]? = some L[j] := List.getElem?_eq_getElem hlt
    have w1 : IntKind.i64.wrap ((j : Int) + 1) = ((j + 1 : Nat) : Int) := by rw [wrap_i64 (by omega) (by omega)]; omega
    have hx := hl L[j] (List.getElem_mem hlt)
    rw [List.drop_eq_getElem_cons hlt, signT, List.foldl_cons] at hs
    by_cases hc : b.size < (L[j]).size
    · have hc' : (b.size : Int) < (L[j]).size := by omega
      simp [e0, e1, e5, e6, e7, hlt, hlt', hg, hc, hc']
      refine (rbegins_c t i L[j] ht (by omega) (by omega) _).mono ?_
      rintro _ s1 ⟨hs1, rfl⟩
      rw [hs1]
      clear hs1 s1
      by_cases hb : beg t i L[j] = true
      · rw [if_pos ⟨hc, hb⟩] at hs
        simp [e0, e1, e5, e6, e7, hlt, hlt', hg, hc, hc', hb, w1]
        exact ⟨n - 1, by omega, j + 1, by omega, by omega, hs⟩
      · rw [if_neg (fun h => hb h.2)] at hs
        simp [e0, e1, e5, e6, e7, hlt, hlt', hg, hc, hc', hb, w1]
        exact ⟨n - 1, by omega, j + 1, by omega, by omega, hs⟩
    · have hc' : ¬ (b.size : Int) < (L[j]).size := by omega
      rw [if_neg (fun h => hc h.1)] at hs
      simp [e0, e1, e5, e6, e7, hlt, hlt', hg, hc, hc', w1]
      exact ⟨n - 1, by omega, j + 1, by omega, by omega, hs⟩
  · have hlt' : ¬ (j : Int) < L.length := by omega
    rw [List.drop_eq_nil_of_le (by omega)] at hs
    simp only [signT, List.foldl_nil] at hs
    simp [e0, e1, e5, e6, e7, hlt, hlt', hs, signT]
theorem rpiece_c (t : ByteArray) (i : Nat) (ht : t.size ≤ 1000000) (hi : i ≤ t.size) (s : St) : PCalls Tryd.prog 40 [.lit (.string t), .lit (.int .i64 i)] s (fun r s' => s' = s ∧ r = .ret (.lit (.int .i64 (pieceEnd t i)))) := by
  refine PCalls.of Tryd.func40 rfl (by rfl) (by simp [Tryd.ntmps40]) ?_
  refine pwC_sound _ _ _ _ ?_
  simp [Tryd.ntmps40]
  have w1 : IntKind.i64.wrap ((i : Int) + 1) = ((i + 1 : Nat) : Int) := by rw [wrap_i64 (by omega) (by omega)]; omega
  have w2 : IntKind.i64.wrap ((i : Int) + 2) = ((i + 2 : Nat) : Int) := by rw [wrap_i64 (by omega) (by omega)]; omega
  have w3 : IntKind.i64.wrap ((i : Int) + 3) = ((i + 3 : Nat) : Int) := by rw [wrap_i64 (by omega) (by omega)]; omega
  refine (rbyte_c t i ht _).mono ?_
  rintro _ s1 ⟨hs1, rfl⟩
  rw [hs1]
  clear hs1 s1
  by_cases c1 : bt t i = 32
  · simp [c1, w1, pieceEnd, isB]
  by_cases c2 : bt t i = 9
  · simp [c2, w1, pieceEnd, isB]
  by_cases c3 : bt t i = 10
  · simp [c3, w1, pieceEnd, isB]
  by_cases c4 : bt t i = 11
  · simp [c4, w1, pieceEnd, isB]
  by_cases c5 : bt t i = 12
  · simp [c5, w1, pieceEnd, isB]
  by_cases c6 : bt t i = 13
  · simp [c6, w1, pieceEnd, isB]
  have hB : isB (bt t i) = false := by simp [isB, c1, c2, c3, c4, c5, c6]
  have hP : pieceEnd t i = if bt t i = 92 then (if bt t (i + 1) = 10 then i + 2 else if bt t (i + 1) = 13 ∧ bt t (i + 2) = 10 then i + 3 else i) else cmtEnd t i := by simp [pieceEnd, hB]
  rw [hP]
  by_cases c7 : bt t i = 92
  · simp [c7, w1]
    refine (rbyte_c t (i + 1) ht _).mono ?_
    rintro _ s1 ⟨hs1, rfl⟩
    rw [hs1]
    clear hs1 s1
    by_cases d1 : bt t (i + 1) = 10
    · simp [c7, w1, w2, d1]
    · simp [c7, w1, w2, d1]
      refine (rbyte_c t (i + 1) ht _).mono ?_
      rintro _ s1 ⟨hs1, rfl⟩
      rw [hs1]
      clear hs1 s1
      by_cases d2 : bt t (i + 1) = 13
      · simp [c7, w1, w2, d1, d2]
        refine (rbyte_c t (i + 2) ht _).mono ?_
        rintro _ s1 ⟨hs1, rfl⟩
        rw [hs1]
        clear hs1 s1
        by_cases d3 : bt t (i + 2) = 10
        · simp [c7, w1, w2, w3, d1, d2, d3]
        · simp [c7, w1, w2, w3, d1, d2, d3]
      · simp [c7, w1, w2, d1, d2]
  · simp [c1, c2, c3, c4, c5, c6, c7]
    refine (rcomment_c t i ht hi _).mono ?_
    rintro _ s1 ⟨hs1, rfl⟩
    rw [hs1]
    clear hs1 s1
    simp [c7]
end Go.Pv

/- The reference's lexer: a token. -/
namespace Go.Pv
open Go.Proofs
set_option linter.unusedVariables false
set_option linter.unusedSimpArgs false
set_option maxRecDepth 100000
set_option maxHeartbeats 1000000
theorem signT_nil (t : ByteArray) (i : Nat) (l : List ByteArray) : signT t i l ⟨#[]⟩ = ⟨#[]⟩ ↔ signLen t i l = 0 := by
  rw [← signLen_eq]
  constructor
  · intro h; rw [h]; rfl
  · intro h
    generalize signT t i l ⟨#[]⟩ = x at h
    obtain ⟨d⟩ := x
    have : d.size = 0 := h
    rw [Array.eq_empty_of_size_eq_zero this]
theorem signLen_le (t : ByteArray) (i : Nat) (l : List ByteArray) : signLen t i l ≤ t.size := by
  have h : ∀ (l : List ByteArray) (n : Nat), n ≤ t.size → l.foldl (fun n s => if n < s.size ∧ beg t i s = true then s.size else n) n ≤ t.size := by
    intro l
    induction l with
    | nil => intro n h; exact h
    | cons x l ih =>
      intro n h
      simp only [List.foldl_cons]
      apply ih
      split
      · rename_i h1
        have := h1.2
        simp [beg] at this
        omega
      · exact h
  exact h l 0 (Nat.zero_le _)
theorem quotF_gt (t : ByteArray) (q : Int) : ∀ (k i e : Nat), quotF t q k i = some e → i < e ∧ e ≤ t.size
  | 0, i, e, h => by simp [quotF] at h
  | k + 1, i, e, h => by
    simp only [quotF] at h
    split at h
    · split at h
      · cases h; omega
      · split at h
        · cases h
        · split at h
          · split at h
            · cases h
            · have := quotF_gt t q k (i + 2) e h; omega
          · have := quotF_gt t q k (i + 1) e h; omega
    · cases h
theorem quotE_gt {t : ByteArray} {q : Int} {i e : Nat} {v : Option Nat} (hv : quotE t q i = v) (he : v = some e) : i < e ∧ e ≤ t.size := by
  subst he; exact quotF_gt t q _ i e hv
theorem rtoken_c (t : ByteArray) (i : Nat) (c : Bool) (ht : t.size ≤ 1000000) (hi : i < t.size) (s : St) : PCalls Tryd.prog 41 [.lit (.string t), .lit (.int .i64 i), .lit (.bool c)] s (fun r s' => s' = s ∧ r = .ret (.tup [.lit (.int .i64 ((tokE keysL signsL t i c).1 : Nat)), .lit (.int .i64 ((tokE keysL signsL t i c).2 : Nat))])) := by
  refine PCalls.of Tryd.func41 rfl (by rfl) (by simp [Tryd.ntmps41]) ?_
  refine pwC_sound _ _ _ _ ?_
  have w1 : IntKind.i64.wrap ((i : Int) + 1) = ((i + 1 : Nat) : Int) := by rw [wrap_i64 (by omega) (by omega)]; omega
  have hi' : i ≤ t.size := by omega
  by_cases h35 : bt t i = 35
  · have n1 : isL 35 = false := by decide
    have n2 : isD 35 = false := by decide
    cases c with
    | true =>
      rw [show tokE keysL signsL t i true = (7, lineEnd t i) from by simp [tokE, h35]]
      simp [Tryd.ntmps41, hi, h35]
      refine (rline_c t i ht hi h35 _).mono ?_
      rintro _ s1 ⟨hs1, rfl⟩
      rw [hs1]
      clear hs1 s1
      simp
    | false =>
      simp [Tryd.ntmps41, hi, h35]
      refine (rletter_c _ _).mono ?_
      rintro _ s1 ⟨hs1, rfl⟩
      rw [hs1]
      clear hs1 s1
      simp [n1]
      refine (rdigit_c _ _).mono ?_
      rintro _ s1 ⟨hs1, rfl⟩
      rw [hs1]
      clear hs1 s1
      simp [n2]
      refine (rsign_c t i ht hi' _).mono ?_
      rintro _ s1 ⟨hs1, rfl⟩
      rw [hs1]
      clear hs1 s1
      by_cases hS : signLen t i signsL = 0
      · have hS' := (signT_nil t i signsL).2 hS
        rw [show tokE keysL signsL t i false = (8, i + 1) from by simp [tokE, hS, h35, n1, n2]]
        simp [hS', w1, h35, n1, n2]
      · have hS' : ¬ signT t i signsL ⟨#[]⟩ = ⟨#[]⟩ := fun h => hS ((signT_nil t i signsL).1 h)
        have hz := signLen_eq t i signsL
        rw [show tokE keysL signsL t i false = (6, i + signLen t i signsL) from by simp [tokE, hS, h35, n1, n2]]
        have w9 : IntKind.i64.wrap ((i : Int) + (signLen t i signsL : Int)) = ((i + signLen t i signsL : Nat) : Int) := by rw [wrap_i64 (by omega) (by have := signLen_le t i signsL; omega)]; omega
        simp [hS', hz, w9, h35, n1, n2]
  by_cases hL : isL (bt t i) = true
  · rw [show tokE keysL signsL t i c = (if (keysL.any fun k => decide (k = t.extract i (wordEnd t i))) = true then 2 else 1, wordEnd t i) from by simp [tokE, h35, hL]]
    simp [Tryd.ntmps41, hi, h35]
    refine (rletter_c _ _).mono ?_
    rintro _ s1 ⟨hs1, rfl⟩
    rw [hs1]
    clear hs1 s1
    simp [hL]
    refine (rword_c t i ht hi' _).mono ?_
    rintro _ s1 ⟨hs1, rfl⟩
    rw [hs1]
    clear hs1 s1
    simp
    exact ⟨_, sub_refl, rfl, by split <;> rfl⟩
  simp [Tryd.ntmps41, hi, h35]
  refine (rletter_c _ _).mono ?_
  rintro _ s1 ⟨hs1, rfl⟩
  rw [hs1]
  clear hs1 s1
  simp [hL]
  refine (rdigit_c _ _).mono ?_
  rintro _ s1 ⟨hs1, rfl⟩
  rw [hs1]
  clear hs1 s1
  by_cases hD : isD (bt t i) = true
  · rw [show tokE keysL signsL t i c = (3, numEnd t i) from by simp [tokE, h35, hL, hD]]
    simp [hD]
    refine (rnumber_c t i ht hi _).mono ?_
    rintro _ s1 ⟨hs1, rfl⟩
    rw [hs1]
    clear hs1 s1
    simp
  by_cases h46 : bt t i = 46
  · have n1 : isL 46 = false := by decide
    have n2 : isD 46 = false := by decide
    simp [hD, h46, n1, n2, w1]
    refine (rbyte_c t (i + 1) ht _).mono ?_
    rintro _ s1 ⟨hs1, rfl⟩
    rw [hs1]
    clear hs1 s1
    simp [n1, n2]
    refine (rdigit_c _ _).mono ?_
    rintro _ s1 ⟨hs1, rfl⟩
    rw [hs1]
    clear hs1 s1
    by_cases hD1 : isD (bt t (i + 1)) = true
    · rw [show tokE keysL signsL t i c = (3, numEnd t i) from by simp [tokE, h46, hD1, n1, n2]]
      simp [hD1, n1, n2]
      refine (rnumber_c t i ht hi _).mono ?_
      rintro _ s1 ⟨hs1, rfl⟩
      rw [hs1]
      clear hs1 s1
      simp
    · simp [hD1, n1, n2, h46]
      refine (rsign_c t i ht hi' _).mono ?_
      rintro _ s1 ⟨hs1, rfl⟩
      rw [hs1]
      clear hs1 s1
      by_cases hS : signLen t i signsL = 0
      · have hS' := (signT_nil t i signsL).2 hS
        rw [show tokE keysL signsL t i c = (8, i + 1) from by simp [tokE, hS, h46, hD1, n1, n2]]
        simp [hS', w1, h46, hD1, n1, n2]
      · have hS' : ¬ signT t i signsL ⟨#[]⟩ = ⟨#[]⟩ := fun h => hS ((signT_nil t i signsL).1 h)
        have hz := signLen_eq t i signsL
        rw [show tokE keysL signsL t i c = (6, i + signLen t i signsL) from by simp [tokE, hS, h46, hD1, n1, n2]]
        have w9 : IntKind.i64.wrap ((i : Int) + (signLen t i signsL : Int)) = ((i + signLen t i signsL : Nat) : Int) := by rw [wrap_i64 (by omega) (by have := signLen_le t i signsL; omega)]; omega
        simp [hS', hz, w9, h46, hD1, n1, n2]
  by_cases hq : bt t i = 39 ∨ bt t i = 34
  · have hqE : tokE keysL signsL t i c = (match quotE t (bt t i) (i + 1) with | none => (8, i + 1) | some e => (if bt t i = 34 then 5 else 4, e)) := by
      simp [tokE, h35, hL, hD, h46, hq]
      all_goals (cases quotE t (bt t i) (i + 1) <;> rfl)
    rw [hqE]
    have key : ∀ v : Option Nat, quotE t (bt t i) (i + 1) = v → (∀ e, v = some e → e ≠ i) := by
      intro v hv e he
      have := quotE_gt hv he
      omega
    rcases hq with q1 | q1
    · simp [hD, h46, q1]
      refine (rquoted_c t i ht hi (by omega) _).mono ?_
      rintro _ s1 ⟨hs1, rfl⟩
      rw [hs1]
      clear hs1 s1
      rw [q1]
      rw [q1] at key
      cases hQ : quotE t 39 (i + 1) with
      | none => simp [q1, w1]
      | some e =>
        have hne := key _ hQ e rfl
        have hne' : ¬ (e : Int) = i := by omega
        simp [q1, w1, hne, hne']
    · simp [hD, h46, q1]
      refine (rquoted_c t i ht hi (by omega) _).mono ?_
      rintro _ s1 ⟨hs1, rfl⟩
      rw [hs1]
      clear hs1 s1
      rw [q1]
      rw [q1] at key
      cases hQ : quotE t 34 (i + 1) with
      | none => simp [q1, w1]
      | some e =>
        have hne := key _ hQ e rfl
        have hne' : ¬ (e : Int) = i := by omega
        simp [q1, w1, hne, hne']
  have q1 : ¬ bt t i = 39 := fun h => hq (.inl h)
  have q2 : ¬ bt t i = 34 := fun h => hq (.inr h)
  simp [hD, h46, q1, q2]
  refine (rsign_c t i ht hi' _).mono ?_
  rintro _ s1 ⟨hs1, rfl⟩
  rw [hs1]
  clear hs1 s1
  by_cases hS : signLen t i signsL = 0
  · have hS' := (signT_nil t i signsL).2 hS
    rw [show tokE keysL signsL t i c = (8, i + 1) from by simp [tokE, hS, h35, hL, hD, h46, q1, q2]]
    simp [hS', w1, h35, hL, hD, h46, q1, q2]
  · have hS' : ¬ signT t i signsL ⟨#[]⟩ = ⟨#[]⟩ := fun h => hS ((signT_nil t i signsL).1 h)
    have hz := signLen_eq t i signsL
    rw [show tokE keysL signsL t i c = (6, i + signLen t i signsL) from by simp [tokE, hS, h35, hL, hD, h46, q1, q2]]
    have w9 : IntKind.i64.wrap ((i : Int) + (signLen t i signsL : Int)) = ((i + signLen t i signsL : Nat) : Int) := by rw [wrap_i64 (by omega) (by have := signLen_le t i signsL; omega)]; omega
    simp [hS', hz, w9, h35, hL, hD, h46, q1, q2]
end Go.Pv

/- The reference's lexer: all tokens. -/
namespace Go.Pv
open Go.Proofs
set_option linter.unusedVariables false
set_option linter.unusedSimpArgs false
set_option maxRecDepth 100000
set_option maxHeartbeats 1000000
theorem rall_c (t : ByteArray) (ht : t.size ≤ 1000000) (s : St) : PCalls Tryd.prog 22 [.lit (.string t)] s (fun r s' => s' = s ∧ r = .ret (toks .any (allT t))) := by
  refine PCalls.conv (R := fun r s' => ∃ v, r = .ret v ∧ OwnL 23 4 s ((allT t).map encTC) v s') ?_ ?_ ?_
  · refine PCalls.of Tryd.func22 rfl (by rfl) (by simp [Tryd.ntmps22]) ?_
    refine pwC_sound _ _ _ _ ?_
    simp [Tryd.ntmps22]
    refine PW.loop (fun n e s' => ∃ (a st k : Nat) (c : Bool) (acc : List Tk), a + n = t.size ∧ st ≤ a ∧ t.size - a ≤ k ∧ acc.length ≤ a ∧ e 0 = .lit (.string t) ∧ e 4 = .lit (.int .i64 st) ∧ e 5 = .lit (.int .i64 a) ∧ e 6 = .lit (.bool c) ∧ acc ++ restF keysL signsL t k st a c = allT t ∧ OwnL 23 4 s (acc.map encTC) (e 3) s') t.size ⟨0, 0, t.size, true, [], by omega, by omega, by omega, by simp, by simp, by simp, by simp, by simp, by simp [allT, toksF_succ], by simpa using OwnL.nil _ _ _⟩ ?_
    rintro n e s' ⟨a, st, k, c, acc, hn, hst, hk, hacc, e0, e4, e5, e6, hall, hB⟩
    refine pwC_sound _ _ _ _ ?_
    refine pwC_cut fun K hK => ?_
    have hpe := pieceEnd_le (t := t) (i := a) (by omega)
    simp [e0, e4, e5, e6]
    refine (rpiece_c t a ht (by omega) _).mono ?_
    rintro _ s1 ⟨hs1, rfl⟩
    rw [hs1]
    clear hs1 s1
    simp [e0, e4, e5, e6]
    refine hK _ _ ?_
    clear hK K
    generalize hE : Env.put _ _ _ = E
    have g0 : E 0 = .lit (.string t) := by rw [← hE]; simp [e0]
    have g4 : E 4 = .lit (.int .i64 st) := by rw [← hE]; simp [e4]
    have g5 : E 5 = .lit (.int .i64 a) := by rw [← hE]; simp [e5]
    have g6 : E 6 = .lit (.bool c) := by rw [← hE]; simp [e6]
    have g7 : E 7 = .lit (.int .i64 (pieceEnd t a : Nat)) := by rw [← hE]; simp
    have g3 : E 3 = e 3 := by rw [← hE]; simp
    clear hE e0 e4 e5 e6
    generalize e 3 = v at *
    clear e
    refine pwC_cut fun K hK => ?_
    by_cases hp : a < pieceEnd t a
    · have hp' : (a : Int) < (pieceEnd t a : Nat) := by omega
      have hb := bef_step (c := c) (i := a) (t := t) (by omega) hp
      have hrest : restF keysL signsL t k st a c = restF keysL signsL t k st (pieceEnd t a) (clearB t a (pieceEnd t a) c) := by unfold restF; rw [hb]
      rw [hrest] at hall
      clear hK
      have hcl : clearB t a (pieceEnd t a) c = (if pieceEnd t a = a + 1 ∧ 11 ≤ bt t a ∧ bt t a ≤ 13 then false else (c || hasNL t a (pieceEnd t a))) := by
        unfold clearB
        split
        · rfl
        · cases hasNL t a (pieceEnd t a) <;> simp
      generalize clearB t a (pieceEnd t a) c = c' at *
      generalize pieceEnd t a = pe at *
      simp [g0, g3, g4, g5, g6, g7, hp, hp']
      refine PW.loop (fun n1 e1 s1 => ∃ (j : Nat) (d : Bool), j + n1 = pe ∧ a ≤ j ∧ e1 0 = .lit (.string t) ∧ e1 3 = v ∧ e1 4 = .lit (.int .i64 st) ∧ e1 5 = .lit (.int .i64 a) ∧ e1 7 = .lit (.int .i64 (pe : Nat)) ∧ e1 8 = .lit (.int .i64 j) ∧ e1 6 = .lit (.bool d) ∧ (d || hasNL t j pe) = (c || hasNL t a pe) ∧ s1 = s') (pe - a) ⟨a, c, by omega, by omega, by simp [g0], by simp [g3], by simp [g4], by simp [g5], by simp [g7], by simp, by simp [g6], rfl, rfl⟩ ?_
      rintro n1 e1 s1 ⟨j, d, hj, haj, f0, f3, f4, f5, f7, f8, f6, hd, hs1⟩
      rw [hs1]
      clear hs1 s1
      refine pwC_sound _ _ _ _ ?_
      by_cases hlt : j < pe
      · have hlt' : (j : Int) < (pe : Nat) := by omega
        have hjt : j < t.size := by omega
        have w1 : IntKind.i64.wrap ((j : Int) + 1) = ((j + 1 : Nat) : Int) := by rw [wrap_i64 (by omega) (by omega)]; omega
        by_cases hc : bt t j = 10
        · have hnl : hasNL t j pe = true := by unfold hasNL; rw [scanW_stop (by simp [hc])]; simpa using hlt
          rw [hnl, Bool.or_true] at hd
          simp [f0, f3, f4, f5, f6, f7, f8, hlt, hlt', hjt, hc, w1]
          exact ⟨n1 - 1, by omega, j + 1, by omega, by omega, by omega, by simpa using hd.symm⟩
        · have hnl : hasNL t j pe = hasNL t (j + 1) pe := by unfold hasNL; rw [scanW_step hlt (by simp [hc])]
          rw [hnl] at hd
          simp [f0, f3, f4, f5, f6, f7, f8, hlt, hlt', hjt, hc, w1]
          exact ⟨n1 - 1, by omega, j + 1, by omega, by omega, by omega, hd⟩
      · have hlt' : ¬ (j : Int) < (pe : Nat) := by omega
        have hnl : hasNL t j pe = false := by unfold hasNL; rw [scanW_end (by omega)]; simpa using hlt
        rw [hnl, Bool.or_false] at hd
        rw [← hd] at hcl
        have hat : a < t.size := by omega
        have w1 : IntKind.i64.wrap ((a : Int) + 1) = ((a + 1 : Nat) : Int) := by rw [wrap_i64 (by omega) (by omega)]; omega
        have hex : c' = d ∨ True := .inr trivial
        by_cases q1 : pe = a + 1
        · subst q1
          have hlt2 : ¬ (j : Int) < (a : Int) + 1 := by omega
          by_cases q2 : 11 ≤ bt t a
          · by_cases q3 : bt t a ≤ 13
            · rw [if_pos ⟨rfl, q2, q3⟩] at hcl
              rw [hcl] at hall
              simp [f0, f3, f4, f5, f6, f7, f8, hlt, hlt2, w1, q2, q3, hat]
              exact ⟨n - 1, by omega, a + 1, by omega, st, by omega, k, by omega, acc, by omega, rfl, by omega, hall, hB⟩
            · rw [if_neg (fun h => q3 h.2.2)] at hcl
              rw [hcl] at hall
              simp [f0, f3, f4, f5, f6, f7, f8, hlt, hlt2, w1, q2, q3, hat]
              cases d with
              | false => exact ⟨n - 1, by omega, a + 1, by omega, st, by omega, k, by omega, .inl ⟨acc, by omega, rfl, by omega, rfl, hall, hB⟩⟩
              | true => exact ⟨n - 1, by omega, a + 1, by omega, st, by omega, k, by omega, .inr ⟨acc, by omega, rfl, by omega, rfl, hall, hB⟩⟩
          · rw [if_neg (fun h => q2 h.2.1)] at hcl
            rw [hcl] at hall
            simp [f0, f3, f4, f5, f6, f7, f8, hlt, hlt2, w1, q2, hat]
            cases d with
            | false => exact ⟨n - 1, by omega, a + 1, by omega, st, by omega, k, by omega, .inl ⟨acc, by omega, rfl, by omega, rfl, hall, hB⟩⟩
            | true => exact ⟨n - 1, by omega, a + 1, by omega, st, by omega, k, by omega, .inr ⟨acc, by omega, rfl, by omega, rfl, hall, hB⟩⟩
        · have q1' : ¬ (pe : Int) = (a : Int) + 1 := by omega
          rw [if_neg (fun h => q1 h.1)] at hcl
          rw [hcl] at hall
          simp [f0, f3, f4, f5, f6, f7, f8, hlt, hlt', w1, q1, q1', hat]
          cases d with
          | false => exact ⟨n - (pe - a), by omega, pe, by omega, st, by omega, k, by omega, .inl ⟨acc, by omega, rfl, rfl, rfl, hall, hB⟩⟩
          | true => exact ⟨n - (pe - a), by omega, pe, by omega, st, by omega, k, by omega, .inr ⟨acc, by omega, rfl, rfl, rfl, hall, hB⟩⟩
    · have hpe2 : pieceEnd t a = a := by omega
      have hp' : ¬ (a : Int) < (pieceEnd t a : Nat) := by omega
      have hb := bef_stop (c := c) hp
      simp [g0, g3, g4, g5, g6, g7, hp, hp']
      refine hK _ _ ?_
      clear hK K
      generalize hE : Env.put _ _ _ = E'
      have f0 : E' 0 = .lit (.string t) := by rw [← hE]; simp [g0]
      have f3 : E' 3 = v := by rw [← hE]; simp [g3]
      have f4 : E' 4 = .lit (.int .i64 st) := by rw [← hE]; simp [g4]
      have f5 : E' 5 = .lit (.int .i64 a) := by rw [← hE]; simp [g5]
      have f6 : E' 6 = .lit (.bool c) := by rw [← hE]; simp [g6]
      clear hE g0 g3 g4 g5 g6 g7 E
      unfold restF at hall
      rw [hb] at hall
      simp only at hall
      refine pwC_cut fun K hK => ?_
      by_cases hae : a = t.size
      · rw [if_pos hae] at hall
        have hae' : (a : Int) = (t.size : Nat) := by omega
        have hst' : st ≤ t.size := by omega
        clear hK
        simp [f0, f3, f4, f5, hae, hae', hst']
        rw [hae] at hall
        refine appOwn (b := 48) (z := .agg #[.int .i64 0, .string ⟨#[]⟩, .string ⟨#[]⟩, .int .i64 0]) (ys := [encTC ⟨0, t.extract st t.size, ⟨#[]⟩, t.size⟩]) hB (by simp) (by simp) (by simp) (by simp) rfl (by omega) (by simp) (fun s => by simp [elemsOf]) (by simp; omega) (fun v1 s1 hB1 => ⟨_, sub_refl, ?_⟩)
        rw [← hall]
        simpa using hB1
      · rw [if_neg hae] at hall
        have hae' : ¬ (a : Int) = (t.size : Nat) := by omega
        simp [f0, f3, f4, f5, hae, hae']
        refine hK _ _ ?_
        clear hK K
        have hat : a < t.size := by omega
        have hin := tokE_in keysL signsL c hat
        refine pwC_cut fun K hK => ?_
        simp [f0, f3, f4, f5, f6]
        refine (rtoken_c t a c ht hat _).mono ?_
        rintro _ s1 ⟨hs1, rfl⟩
        rw [hs1]
        clear hs1 s1
        generalize hkd : (tokE keysL signsL t a c).1 = kd at *
        generalize hen : (tokE keysL signsL t a c).2 = en at *
        simp [f0, f3, f4, f5, f6]
        refine hK _ _ ?_
        clear hK K
        generalize hE : Env.put _ _ _ = E
        have g0 : E 0 = .lit (.string t) := by rw [← hE]; simp [f0]
        have g3 : E 3 = v := by rw [← hE]; simp [f3]
        have g4 : E 4 = .lit (.int .i64 st) := by rw [← hE]; simp [f4]
        have g5 : E 5 = .lit (.int .i64 a) := by rw [← hE]; simp [f5]
        have g9 : E 9 = .lit (.int .i64 (kd : Nat)) := by rw [← hE]; simp
        have g10 : E 10 = .lit (.int .i64 (en : Nat)) := by rw [← hE]; simp
        clear hE f0 f3 f4 f5 f6 E'
        obtain ⟨k', rfl⟩ : ∃ k', k = k' + 1 := ⟨k - 1, by omega⟩
        refine pwC_cut fun K hK => ?_
        refine PW.drawn (fun i => 0) [0, 1, 2, 3, 4, 5, 6, 7, 8, 9, 10, 11, 12, 13, 14] mixed_ (fun _ _ _ _ h => h) (by kernel_rfl) ?_
        have ha2 : a ≤ t.size := by omega
        have hen1 : a ≤ en := by omega
        have hen2 : en ≤ t.size := by omega
        simp [g0, g3, g4, g5, g9, g10, hst, ha2, hen1, hen2]
        refine appOwn (b := 48) (z := .agg #[.int .i64 0, .string ⟨#[]⟩, .string ⟨#[]⟩, .int .i64 0]) (ys := [encTC ⟨kd, t.extract st a, t.extract a en, a⟩]) hB (by simp) (by simp) (by simp) (by simp) rfl (by omega) (by simp) (fun s => by simp [elemsOf]) (by simp; omega) (fun v1 s1 hB1 => ?_)
        refine hK _ _ ?_
        clear hK K
        simp [g0, g3, g4, g5, g9, g10]
        rw [toksF_succ] at hall
        exact ⟨n - (en - a), by omega, en, by omega, en, by omega, k', by omega, acc ++ [⟨kd, t.extract st a, t.extract a en, a⟩], by simp; omega, rfl, rfl, by simpa using hall, by simpa using hB1⟩
  · rintro p s' ⟨v, hv, hO⟩
    cases hv
    exact ⟨_, _, Conv.own (xs := (allT t).map encT) hO (by simp) [], rfl, rfl⟩
  · rintro c s' ⟨v, hv, _⟩
    cases hv
theorem rscan_c (t : ByteArray) (ht : t.size ≤ 1000000000) (s : St) : PCalls Tryd.prog 58 [.lit (.string t)] s (fun r s' => s' = s ∧ r = .ret (if 200000 < t.size ∨ 40000 < (allT t).length then .tup [.vec .nil [], .lit (.int .i64 2)] else .tup [toks .any (allT t), .lit (.int .i64 0)])) := by
  refine PCalls.of Tryd.func58 rfl (by rfl) (by simp [Tryd.ntmps58]) ?_
  refine pwC_sound _ _ _ _ ?_
  by_cases h1 : 200000 < t.size
  · have h1' : (200000 : Int) < t.size := by omega
    simp [Tryd.ntmps58, h1, h1']
  · have h1' : ¬ (200000 : Int) < t.size := by omega
    simp [Tryd.ntmps58, h1, h1']
    refine (rall_c t (by omega) _).mono ?_
    rintro _ s1 ⟨hs1, rfl⟩
    rw [hs1]
    clear hs1 s1
    by_cases h2 : 40000 < (allT t).length
    · have h2' : (40000 : Int) < (allT t).length := by omega
      simp [h2, h2']
    · have h2' : ¬ (40000 : Int) < (allT t).length := by omega
      simp [h2, h2']
      exact ⟨_, sub_refl, rfl, by omega⟩
end Go.Pv
