/- Several texts, one behind the other. -/
import Derived.Shelf.SlIter.Nil
import Derived.Shelf.SortM.Plain
import Derived.Shelf.SortM.SortNone
import Derived.Test.YtkdimfmnialabaaProg
import Derived.Test.YtkdimfmnialabaaKB
import Derived.Maps.Range
import Derived.Test.YtkdimfmnialabaaKD
import Derived.Sort.Walk0
import Derived.Sort.KeysCollected
import Derived.Test.YtkdimfmnialabaaKC
import Derived.Test.YtkdimfmnialabaaChecked
namespace Go.Proofs
open Go.Shelf
def Try.keys20_ren : Go.Shelf.Ren := ⟨fun | 7 => 20 | 10 => 33 | n => n, fun | 23 => 36 | 26 => 9 | 3 => 4 | 28 => 42 | 0 => 0 | 27 => 41 | 33 => 54 | 4 => 4 | n => n, fun | n => n⟩
theorem Try.keys20 : Go.Proofs.SlLaysZ.n7 Try.prog Try.keys20_ren := {
  mixed := by kernel_rfl
  f7 := ⟨Try.f20.name, by decide, Try.func20.trans (congrArg some (by kernel_rfl))⟩
  f10 := ⟨Try.f33.name, by decide, Try.func33.trans (congrArg some (by kernel_rfl))⟩
  t0 := Try.underlying0
  a0 := Try.isAgg0
  z0 := Try.sizeOf0
  v0 := Try.zeroValue0
  t4 := Try.underlying4
  a4 := Try.isAgg4
  z4 := Try.sizeOf4
  v4 := Try.zeroValue4
  t23 := Try.underlying36
  a23 := Try.isAgg36
  z23 := Try.sizeOf36
  v23 := Try.zeroValue36
  t26 := Try.underlying9
  a26 := Try.isAgg9
  z26 := Try.sizeOf9
  v26 := Try.zeroValue9
  t27 := Try.underlying41
  a27 := Try.isAgg41
  z27 := Try.sizeOf41
  v27 := Try.zeroValue41
  t28 := Try.underlying42
  a28 := Try.isAgg42
  z28 := Try.sizeOf42
  v28 := Try.zeroValue42
  t33 := Try.underlying54
  a33 := Try.isAgg54
  z33 := Try.sizeOf54
  v33 := Try.zeroValue54 }
def Try.sorted19_ren : Go.Shelf.Ren := ⟨fun | 6 => 19 | 8 => 31 | 9 => 32 | 11 => 35 | 13 => 37 | 12 => 36 | 23 => 47 | 24 => 48 | 14 => 38 | 15 => 39 | 16 => 40 | 17 => 41 | 18 => 42 | 19 => 43 | 20 => 44 | 21 => 45 | 22 => 46 | 25 => 49 | 26 => 50 | 27 => 51 | 28 => 52 | 29 => 53 | 30 => 54 | 31 => 55 | n => n, fun | 26 => 9 | 28 => 42 | 24 => 29 | 0 => 0 | 3 => 3 | 37 => 59 | 48 => 70 | 50 => 72 | 4 => 4 | 40 => 62 | 39 => 61 | 45 => 67 | 5 => 5 | 9 => 9 | 51 => 73 | 55 => 77 | 57 => 79 | 58 => 80 | 33 => 54 | n => n, fun | n => n⟩
theorem Try.sorted19 : Go.Proofs.SlLaysZ.n6 Try.prog Try.sorted19_ren := {
  mixed := by kernel_rfl
  f6 := ⟨Try.f19.name, by decide, Try.func19.trans (congrArg some (by kernel_rfl))⟩
  f8 := ⟨Try.f31.name, by decide, Try.func31.trans (congrArg some (by kernel_rfl))⟩
  f11 := ⟨Try.f35.name, by decide, Try.func35.trans (congrArg some (by kernel_rfl))⟩
  t0 := Try.underlying0
  a0 := Try.isAgg0
  z0 := Try.sizeOf0
  v0 := Try.zeroValue0
  t24 := Try.underlying29
  a24 := Try.isAgg29
  z24 := Try.sizeOf29
  v24 := Try.zeroValue29
  t26 := Try.underlying9
  a26 := Try.isAgg9
  z26 := Try.sizeOf9
  v26 := Try.zeroValue9
  t28 := Try.underlying42
  a28 := Try.isAgg42
  z28 := Try.sizeOf42
  v28 := Try.zeroValue42
  i26 := by kernel_rfl }
def Try.sort32_ren : Go.Shelf.Ren := ⟨fun | 6 => 32 | 8 => 37 | 9 => 36 | 19 => 47 | 20 => 48 | 21 => 38 | 22 => 39 | 23 => 40 | 24 => 41 | 25 => 42 | 26 => 43 | 27 => 44 | 28 => 45 | 29 => 46 | 36 => 49 | 31 => 50 | 32 => 51 | 37 => 52 | 38 => 53 | 39 => 54 | 41 => 55 | n => n, fun | 27 => 29 | 29 => 9 | 3 => 3 | 32 => 59 | 26 => 29 | 0 => 0 | 44 => 70 | 46 => 72 | 4 => 4 | 36 => 62 | 35 => 61 | 41 => 67 | 5 => 5 | 9 => 9 | 53 => 73 | 57 => 77 | 63 => 79 | 64 => 80 | n => n, fun | n => n⟩
theorem Try.sort32 : Go.Proofs.SlLaysM.n6 Try.prog Try.sort32_ren := {
  mixed := by kernel_rfl
  f6 := ⟨Try.f32.name, by decide, Try.func32.trans (congrArg some (by kernel_rfl))⟩
  f8 := Try.func37.trans (congrArg some (by kernel_rfl))
  f9 := ⟨Try.f36.name, by decide, Try.func36.trans (congrArg some (by kernel_rfl))⟩
  f19 := Try.func47.trans (congrArg some (by kernel_rfl))
  f20 := Try.func48.trans (congrArg some (by kernel_rfl))
  f21 := ⟨Try.f38.name, by decide, Try.func38.trans (congrArg some (by kernel_rfl))⟩
  f22 := ⟨Try.f39.name, by decide, Try.func39.trans (congrArg some (by kernel_rfl))⟩
  f23 := ⟨Try.f40.name, by decide, Try.func40.trans (congrArg some (by kernel_rfl))⟩
  f24 := ⟨Try.f41.name, by decide, Try.func41.trans (congrArg some (by kernel_rfl))⟩
  f25 := ⟨Try.f42.name, by decide, Try.func42.trans (congrArg some (by kernel_rfl))⟩
  f26 := ⟨Try.f43.name, by decide, Try.func43.trans (congrArg some (by kernel_rfl))⟩
  f27 := ⟨Try.f44.name, by decide, Try.func44.trans (congrArg some (by kernel_rfl))⟩
  f28 := ⟨Try.f45.name, by decide, Try.func45.trans (congrArg some (by kernel_rfl))⟩
  f29 := ⟨Try.f46.name, by decide, Try.func46.trans (congrArg some (by kernel_rfl))⟩
  f31 := Try.func50.trans (congrArg some (by kernel_rfl))
  f32 := Try.func51.trans (congrArg some (by kernel_rfl))
  f36 := ⟨Try.f49.name, by decide, Try.func49.trans (congrArg some (by kernel_rfl))⟩
  f37 := ⟨Try.f52.name, by decide, Try.func52.trans (congrArg some (by kernel_rfl))⟩
  f38 := ⟨Try.f53.name, by decide, Try.func53.trans (congrArg some (by kernel_rfl))⟩
  f39 := ⟨Try.f54.name, by decide, Try.func54.trans (congrArg some (by kernel_rfl))⟩
  f41 := ⟨Try.f55.name, by decide, Try.func55.trans (congrArg some (by kernel_rfl))⟩
  t0 := Try.underlying0
  a0 := Try.isAgg0
  z0 := Try.sizeOf0
  v0 := Try.zeroValue0
  t3 := Try.underlying3
  a3 := Try.isAgg3
  z3 := Try.sizeOf3
  v3 := Try.zeroValue3
  t4 := Try.underlying4
  a4 := Try.isAgg4
  z4 := Try.sizeOf4
  v4 := Try.zeroValue4
  t5 := Try.underlying5
  a5 := Try.isAgg5
  z5 := Try.sizeOf5
  v5 := Try.zeroValue5
  t9 := Try.underlying9
  a9 := Try.isAgg9
  z9 := Try.sizeOf9
  v9 := Try.zeroValue9
  t26 := Try.underlying29
  a26 := Try.isAgg29
  z26 := Try.sizeOf29
  v26 := Try.zeroValue29
  t27 := Try.underlying29
  a27 := Try.isAgg29
  z27 := Try.sizeOf29
  v27 := Try.zeroValue29
  t29 := Try.underlying9
  a29 := Try.isAgg9
  z29 := Try.sizeOf9
  v29 := Try.zeroValue9
  t32 := Try.underlying59
  a32 := Try.isAgg59
  z32 := Try.sizeOf59
  v32 := Try.zeroValue59
  t35 := Try.underlying61
  a35 := Try.isAgg61
  z35 := Try.sizeOf61
  v35 := Try.zeroValue61
  t36 := Try.underlying62
  a36 := Try.isAgg62
  z36 := Try.sizeOf62
  v36 := Try.zeroValue62
  t41 := Try.underlying67
  a41 := Try.isAgg67
  z41 := Try.sizeOf67
  v41 := Try.zeroValue67
  t44 := Try.underlying70
  a44 := Try.isAgg70
  z44 := Try.sizeOf70
  v44 := Try.zeroValue70
  t46 := Try.underlying72
  a46 := Try.isAgg72
  z46 := Try.sizeOf72
  v46 := Try.zeroValue72
  t53 := Try.underlying73
  a53 := Try.isAgg73
  z53 := Try.sizeOf73
  v53 := Try.zeroValue73
  t57 := Try.underlying77
  a57 := Try.isAgg77
  z57 := Try.sizeOf77
  v57 := Try.zeroValue77
  t63 := Try.underlying79
  a63 := Try.isAgg79
  z63 := Try.sizeOf79
  v63 := Try.zeroValue79
  t64 := Try.underlying80
  a64 := Try.isAgg80
  z64 := Try.sizeOf80
  v64 := Try.zeroValue80 }
end Go.Proofs

/- slices.Sorted of maps.Keys: by the library's proved contract, at whatever block holds the map. -/
namespace Go.Pv
open Go.Proofs Go.Maps Go.WideElems Go.RowKit Go.WideShapes
set_option linter.unusedVariables false
set_option linter.unusedSimpArgs false
set_option maxRecDepth 100000
set_option maxHeartbeats 1000000
theorem sorts_w (m : Nat) : AnyZ.SortsIn Try.prog Try.sorted19_ren Fence.wide m :=
  ⟨fun blk off cap ss W hH hblk hsz => callsIn_wide.2 (AnyM.slices_Sort_string Try.sort32 blk off cap ss W hH hblk hsz),
   fun p cap W => callsIn_wide.2 (AnyM.slices_Sort_string_none Try.sort32 p cap W)⟩
theorem sortedKeys_w {H : Type} (Bm b nn : Nat) (D0 : DataW H) (R : Value → Option (DataW H × List MemPlace)) (w : World) (hB : Bm < w.heap.size) (hm : w.cell? ⟨Bm, 0, none⟩ = some (.map (some b))) (hown : w.ownsMap Try.prog 9 R b nn D0) (hmax : Maps.size D0 ≤ maxLen) (hbytes : Maps.size D0 * 16 ≤ 140737488355328) :
    CallsIn Fence.wide 5 Try.prog 19 #[.func (.func 33) #[] #[.pointer (some ⟨Bm, 0, none⟩)]] w fun e w' => ∃ (v : Value) (ss : List (List UInt8)), e = .returned v ∧ ss.Perm (strKeys D0) ∧
      w'.ownsRow w.heap.size 9 1 v ss.length ((ss.mergeSort (fun x y => decide (x ≤ y))).map encStr) ∧ (v = .slice none 0 0 ↔ ss = []) ∧ Below w.heap.size w w' := by
  have hseq : SeqGives Fence.wide 2 Try.prog 33 #[.pointer (some ⟨Bm, 0, none⟩)] encStr (fun ss => ss.Perm (strKeys D0)) (Maps.size D0) w :=
    AnyZ.keys_gives (ρ := Try.keys20_ren) { Try.keys20 with } Fence.wide _ trivial rfl (by omega) Bm b nn D0 w hB hm hown
  exact AnyZ.sorted_in Try.sorted19 Fence.wide 5 trivial trivial trivial trivial rfl (by omega) (sorts_w _) (enters_of Try.func32 (by kernel_rfl) rfl) 33 #[.pointer (some ⟨Bm, 0, none⟩)] trivial (enters_of Try.func33 (by kernel_rfl) rfl) _ _ hmax hbytes _ hseq
theorem Holds.below {g : G} {s : St} {w w' : World} (hH : Holds g s w) (hb : Below w.heap.size w w') : Holds g s w' ∧ LE g w g w' := by
  have hle : LE g w g w' := ⟨⟨Nat.le_refl _, fun _ _ => rfl, fun _ h => h, fun k hk => hb.block k (hH.zlt k hk)⟩, hb.os, hb.tape, hb.output, hb.size⟩
  exact ⟨⟨hH.fresh, fun k hk => Nat.lt_of_lt_of_le (hH.zlt k hk) hb.size, fun i b hi => (hH.blk i b hi).le hle.toLEv (hH.lt (by rw [hi]; simp)) (hb.block _ (hH.blk i b hi).lt), hH.inj, hH.apart⟩, hle⟩
@[reducible] def strsB (L : List (List UInt8)) : PV := .vec .any (L.map fun l => .lit (.string ⟨l.toArray⟩))
/-- A new slice of texts, as a list. -/
theorem ownsRow_vec {g : G} {s : St} {w w' : World} (hH : Holds g s w) (hb : Below w.heap.size w w') {v : Value} {L : List (List UInt8)} {n : Nat} (hn : n = L.length) (hr : w'.ownsRow w.heap.size 9 1 v n (L.map encStr)) :
    ∃ g', LE g w g' w' ∧ Holds g' s w' ∧ VR w' g' (strsB L) v := by
  subst hn
  obtain ⟨H1, l1⟩ := hH.below hb
  rcases hr.2 with ⟨rfl, h0⟩ | ⟨gb, cap, cur, rfl, hbase, hgb, hc, hcm, hsz, htk⟩
  · have : L = [] := List.length_eq_zero_iff.1 h0
    subst this
    refine ⟨g, l1, H1, ?_⟩
    exact VR.vec .any [] none 0 1 (fun _ _ => undef) (Nat.le_refl _) (fun h => absurd rfl h) (fun h => by cases h) (fun _ => rfl) (fun i x hx => by simp at hx) (fun i x j c hx => by simp at hx) (fun i x j c hx => by simp at hx)
  · have hlt : gb < w'.heap.size := by
      rcases Nat.lt_or_ge gb w'.heap.size with h | h
      · exact h
      · rw [Array.getElem?_eq_none h] at hgb; cases hgb
    have HF := H1.freeze (k := gb) hlt (fun j hj hjb => by
      obtain ⟨bb, hbb⟩ := Option.ne_none_iff_exists'.1 hj
      have := (hH.blk j bb hbb).lt
      omega)
    refine ⟨_, l1.trans (LE.freeze _), HF, ?_⟩
    have hcell : ∀ (i : Nat) (x : List UInt8), L[i]? = some x → w'.cell? ⟨gb, i, none⟩ = some (.string ⟨x.toArray⟩) := fun i x hx => by
      have hi := (List.getElem?_eq_some_iff.1 hx).1
      simp only [World.cell?, hgb]
      have h2 : (cur.toList.take (L.length * 1))[i]? = some (.string ⟨x.toArray⟩) := by rw [htk, List.getElem?_map, hx]; rfl
      rw [List.getElem?_take] at h2
      simp only [Nat.mul_one, hi, if_true, Array.getElem?_toList] at h2
      simp [h2]
    have hlen : (List.map (fun l : List UInt8 => PV.lit (Value.string ⟨l.toArray⟩)) L).length = L.length := by simp
    have := VR.vec (w := w') (g := g.freeze gb) .any (L.map fun l => PV.lit (.string ⟨l.toArray⟩)) (some ⟨gb, 0, none⟩) cap 1
      (fun i _ => match L[i]? with | some x => .string ⟨x.toArray⟩ | none => undef) (by simpa using hc) (fun h => absurd rfl h) (fun h => by cases h) (fun h => by cases h) (fun i x hx => by
        rw [List.getElem?_map] at hx
        cases hfi : L[i]? with
        | none => rw [hfi] at hx; cases hx
        | some y => rw [hfi] at hx; cases hx; rfl) (fun i x j c hx hc => by
        rw [List.getElem?_map] at hx
        cases hfi : L[i]? with
        | none => rw [hfi] at hx; cases hx
        | some y =>
          rw [hfi] at hx
          cases hx
          cases j with
          | zero => exact ⟨_, rfl, .inr rfl, by rw [add_plain]; simpa using hcell i y hfi, rfl⟩
          | succ j => simp [PV.cells] at hc) (fun i x j c hx hc => by
        rw [List.getElem?_map] at hx
        cases hfi : L[i]? with
        | none => rw [hfi] at hx; cases hx
        | some y =>
          rw [hfi] at hx
          cases hx
          cases j with
          | zero => cases hc; exact .lit _ rfl
          | succ j => simp [PV.cells] at hc)
    rw [hlen] at this
    exact this
/-- slices.Sorted of a map's keys. -/
theorem sorted_c {s : St} {b m : Nat} {es : List (ByteArray × PV)} (hb : s b = some (.row 36 1 [[.mp m]])) (hm : s m = some (.dict es)) (hlen : es.length ≤ 1000000) (hk : ∀ x ∈ es, x.1.size ≤ 2 ^ 63 - 1) :
    PCalls Try.prog 19 [.fn 33 [] [.pt b 0 0]] s fun r s' => s' = s ∧ ∃ ss : List (List UInt8), ss.Perm (es.map fun x => x.1.data.toList) ∧ r = .ret (strsB (ss.mergeSort fun x y => decide (x ≤ y))) := by
  refine .inl ⟨by kernel_rfl, fun g w vs hH hA => ?_⟩
  obtain ⟨l⟩ := vs
  have h1 := hA.1
  simp at h1
  match l, h1 with
  | [v0], _ =>
  have hv := hA.2 0 _ v0 rfl rfl
  cases hv with
  | fn _ _ _ fv cv h1 h2 h3 h4 =>
  obtain ⟨fv⟩ := fv
  obtain ⟨cv⟩ := cv
  simp at h1 h2
  subst h1
  match cv, h2 with
  | [c0], _ =>
  have hc := h4 0 _ c0 rfl rfl
  cases hc with
  | pt _ _ _ hi =>
  cases hH.blk b _ hb with
  | row _ _ _ arr hz hbk hs hl he h =>
  obtain ⟨v, hv1, _, hv2⟩ := h 0 _ 0 _ rfl rfl
  cases hv2 with
  | mp _ him =>
  cases hH.blk m _ hm with
  | dict _ ents clock hmb hml hmd hst =>
  have hks : Try.prog.underlying 9 = some .string := Try.underlying9
  have hkey : ∀ (j : Nat) (x : MapEntry), ents[j]? = some x → ∃ k p, es[j]? = some (k, p) ∧ keyOf Try.prog 9 x.key = some (.string k.data.toList) := fun j x hx => by
    have hj := (Array.getElem?_eq_some_iff.1 hx).1
    obtain ⟨⟨k, p⟩, hej⟩ : ∃ q, es[j]? = some q := ⟨_, List.getElem?_eq_getElem (by omega)⟩
    refine ⟨k, p, hej, ?_⟩
    rw [(hmd j k p x hej hx).1]
    have := hk _ (List.mem_of_getElem? hej)
    simp only [keyOf, hks, mapKey]
    rw [if_pos (by simpa [maxLen] using this)]
  let R : Value → Option (DataW Unit × List MemPlace) := fun _ => some (.nil, [])
  have hrd : ∀ (j : Nat) (x : MapEntry), ents[j]? = some x → ∃ k p, es[j]? = some (k, p) ∧ rd Try.prog 9 R x = some (.string k.data.toList, .nil) := fun j x hx => by
    obtain ⟨k, p, h1, h2⟩ := hkey j x hx
    exact ⟨k, p, h1, rd_mk (yv := ((.nil : DataW Unit), [])) h2 rfl⟩
  have hfit : Fit Try.prog 9 R ents clock := ⟨by rw [hml]; simp [maxLen]; omega, hst, fun x hx => by
    obtain ⟨j, hj⟩ := List.getElem?_of_mem hx
    obtain ⟨k, p, _, h2⟩ := hrd j x (by simpa using hj)
    exact ⟨_, h2⟩⟩
  have hown : w.ownsMap Try.prog 9 R (g.mu m).blk ents.size (.map ((ents.toList.map (rg Try.prog 9 R)).foldr DataW.insert [])) := ⟨ents, clock, hmb, hfit, Nat.le_refl _, rfl⟩
  have hsz : Maps.size (DataW.map ((ents.toList.map (rg Try.prog 9 R)).foldr DataW.insert [])) = es.length := by
    show List.length _ = _
    rw [DataW.length_sorted, List.length_map, Array.length_toList, hml]
  have hcell : w.cell? ⟨(g.mu b).blk, 0, none⟩ = some (.map (some (g.mu m).blk)) := by
    have : arr[0]? = some (.map (some (g.mu m).blk)) := by simpa using hv1
    simp [World.cell?, hbk, this]
  have hblt : (g.mu b).blk < w.heap.size := (hH.blk b _ hb).lt
  have hperm : (strKeys (DataW.map ((ents.toList.map (rg Try.prog 9 R)).foldr DataW.insert []))).Perm (es.map fun x => x.1.data.toList) := by
    show (List.map _ _).Perm _
    refine ((sorted_perm _).map _).trans ?_
    rw [List.map_map]
    refine List.Perm.of_eq (List.ext_getElem? fun j => ?_)
    rw [List.getElem?_map, List.getElem?_map]
    rcases Nat.lt_or_ge j ents.size with hj | hj
    · have hx := Array.getElem?_eq_getElem hj
      obtain ⟨k, p, h1, h2⟩ := hrd j _ hx
      rw [h1, Array.getElem?_toList, hx]
      simp [rg_of h2, strOf]
    · rw [List.getElem?_eq_none (by simpa using hj), List.getElem?_eq_none (by omega)]; rfl
  have hcall := callsIn_wide.1 (sortedKeys_w (g.mu b).blk (g.mu m).blk _ _ R w hblt hcell hown (by rw [hsz]; simp [maxLen]; omega) (by rw [hsz]; omega))
  simp only [Nat.zero_mul, Nat.add_zero]
  refine hcall.mono ?_
  rintro e w' ⟨v, ss, rfl, hp, hrow, _, hbl⟩
  have hlm : ss.length = (ss.mergeSort fun x y => decide (x ≤ y)).length := (List.mergeSort_perm _ _).length_eq.symm
  obtain ⟨g', l1, H1, V1⟩ := ownsRow_vec hH hbl hlm hrow
  exact ⟨_, s, g', l1, H1, .ret _ _ V1, rfl, ss, hp.trans hperm, rfl⟩
end Go.Pv

/- tree.Names: the names in a tree, by a map, sorted. -/
namespace Go.Pv
open Go.Proofs
set_option linter.unusedVariables false
set_option linter.unusedSimpArgs false
set_option maxRecDepth 100000
set_option maxHeartbeats 1000000
theorem keys_c (m : Nat) (s : St) : PCalls Try.prog 20 [.mp m] s (fun r s' => ∃ b, Fresh s b ∧ r = .ret (.fn 33 [] [.pt b 0 0]) ∧ s' = s.upd b (some (.row 36 1 [[.mp m]]))) := by
  refine PCalls.of Try.func20 rfl (by rfl) (by simp [Try.ntmps20]) ?_
  refine pwC_sound _ _ _ _ ?_
  simp +contextual [Try.ntmps20]
  intro b hb
  exact ⟨_, sub_refl, b, hb, rfl, rfl⟩
/-- A name more. -/
def nameD (es : List (ByteArray × PV)) (x : Nd) : List (ByteArray × PV) := if x.op = 50 then dset es x.s (.lit (.bool true)) else es
def namesD (l : List (List Int × Nd)) : List (ByteArray × PV) := l.foldl (fun es q => nameD es q.2) []
theorem namesD_snoc (l : List (List Int × Nd)) (p : List Int) (x : Nd) : namesD (l ++ [(p, x)]) = nameD (namesD l) x := by
  unfold namesD; rw [List.foldl_append]; rfl
theorem dset_len (es : List (ByteArray × PV)) (k : ByteArray) (v : PV) : (dset es k v).length ≤ es.length + 1 := by
  induction es with
  | nil => simp [dset]
  | cons e es ih =>
    obtain ⟨k', u⟩ := e
    unfold dset
    split
    · simp
    · simp; omega
theorem dset_mem (es : List (ByteArray × PV)) (k : ByteArray) (v : PV) (q : ByteArray) : (∃ x ∈ dset es k v, x.1 = q) ↔ q = k ∨ ∃ x ∈ es, x.1 = q := by
  induction es with
  | nil => simp [dset, eq_comm]
  | cons e es ih =>
    obtain ⟨k', u⟩ := e
    unfold dset
    split
    · rename_i h
      subst h
      simp only [List.mem_cons, exists_eq_or_imp]
      constructor
      · rintro (h | h)
        · exact .inl h.symm
        · exact .inr (.inr h)
      · rintro (h | h | h)
        · exact .inl h.symm
        · exact .inl h
        · exact .inr h
    · simp only [List.mem_cons, exists_eq_or_imp, ih]
      constructor
      · rintro (h | h | h) <;> simp [h]
      · rintro (h | h | h) <;> simp [h]
theorem namesF_mem (q : ByteArray) : ∀ (l : List (List Int × Nd)) (es : List (ByteArray × PV)), (∃ x ∈ l.foldl (fun es q => nameD es q.2) es, x.1 = q) ↔ (∃ x ∈ es, x.1 = q) ∨ ∃ y ∈ l, y.2.op = 50 ∧ y.2.s = q
  | [], es => by simp
  | (p, x) :: l, es => by
    rw [List.foldl_cons, namesF_mem q l]
    simp only [List.mem_cons, exists_eq_or_imp]
    unfold nameD
    split
    · rename_i h
      rw [dset_mem]
      constructor
      · rintro ((h2 | h2) | h2)
        · exact .inr (.inl ⟨h, h2.symm⟩)
        · exact .inl h2
        · exact .inr (.inr h2)
      · rintro (h2 | ⟨_, h2⟩ | h2)
        · exact .inl (.inr h2)
        · exact .inl (.inl h2.symm)
        · exact .inr h2
    · rename_i h
      constructor
      · rintro (h2 | h2)
        · exact .inl h2
        · exact .inr (.inr h2)
      · rintro (h2 | ⟨h3, _⟩ | h2)
        · exact .inl h2
        · exact absurd h3 h
        · exact .inr h2
theorem namesD_mem (l : List (List Int × Nd)) (q : ByteArray) : (∃ x ∈ namesD l, x.1 = q) ↔ ∃ y ∈ l, y.2.op = 50 ∧ y.2.s = q := by
  unfold namesD
  rw [namesF_mem]
  simp
theorem namesF_len : ∀ (l : List (List Int × Nd)) (es : List (ByteArray × PV)), (l.foldl (fun es q => nameD es q.2) es).length ≤ es.length + l.length
  | [], es => by simp
  | (p, x) :: l, es => by
    rw [List.foldl_cons]
    have := namesF_len l (nameD es x)
    have h2 : (nameD es x).length ≤ es.length + 1 := by
      unfold nameD
      split
      · exact dset_len _ _ _
      · omega
    simp only [List.length_cons]
    omega
theorem namesD_len (l : List (List Int × Nd)) : (namesD l).length ≤ l.length := by
  have := namesF_len l []
  simpa [namesD] using this
/-- What the loop has of its own: its record and the map. -/
def OwnN (i im : Nat) (L : LoopR) (es : List (ByteArray × PV)) : St := (St.empty.upd i (some (.loop L))).upd im (some (.dict es))
def InvN (i im : Nat) (L : LoopR) (pre : List (List Int × Nd)) (own : St) : Prop := own = OwnN i im L (namesD pre)
theorem walkN_mem (x : Nd) : ∀ p y, y ∈ walkN x p → Gd x → Gd y.2 := by
  intro p y hy hG
  rw [walkN_eq] at hy
  rcases List.mem_cons.1 hy with rfl | hy
  · exact hG
  · unfold walkL at hy
    obtain ⟨⟨z, j⟩, hz, hy⟩ := List.mem_flatMap.1 hy
    have hzm : z ∈ x.l := by
      have := List.mem_zipIdx hz
      exact List.mem_of_getElem? (by simpa using List.mem_zipIdx_iff_getElem?.1 hz)
    have := Nd.mem_lt hzm
    exact walkN_mem z _ y hy (hG.sub hzm)
termination_by x.size
theorem names_c (x : Nd) (hsz : x.size ≤ 1000000) (hG : Gd x) (s : St) : PCalls Try.prog 13 [encU x] s (fun r s' => s' = s ∧ ∃ ss : List (List UInt8), ss.Perm ((namesD (walkN x [])).map fun x => x.1.data.toList) ∧ r = .ret (strsB (ss.mergeSort fun x y => decide (x ≤ y)))) := by
  refine PCalls.of Try.func13 rfl (by rfl) (by simp [Try.ntmps13]) ?_
  refine pwC_sound _ _ _ _ ?_
  refine pwC_cut fun K hK => ?_
  simp +contextual [Try.ntmps13]
  intro i1 h1
  refine hK _ _ ?_
  clear hK K
  refine pwC_cut fun K hK => ?_
  simp
  intro im hm1 h1m hm i3 h3m hm3 h31 h13 h3
  refine hK _ _ ?_
  clear hK K
  refine pwC_cut fun K hK => ?_
  simp [hm1, h1m, h3m, hm3, h31, h13]
  refine (walk_c x _).mono ?_
  rintro _ _ ⟨b, hb, rfl, rfl⟩
  simp at hb
  obtain ⟨hb3, h3b, hbm, hmb, hb1, h1b, hbs⟩ := hb
  simp
  generalize hE : Env.put _ _ _ = E
  have g3 : E 3 = .pt i3 0 0 := by rw [← hE]; simp
  have g8 : E 8 = .fn 28 [] [.pt b 0 0] := by rw [← hE]; simp
  clear hE
  refine PW.rangeL (show E.ev (.tmp 8) = _ from g8) (by kernel_rfl) ?_
  intro i L hi hst hN hLe hps hasg hbody
  have hi' : Fresh _ i := hi
  simp at hi'
  clear hi
  obtain ⟨hib, hbi, hi3, h3i, him, hmi, hi1, h1i, his⟩ := hi'
  obtain ⟨base, hbase⟩ : ∃ base : St, base = ((s.upd i1 (some (.row 24 6 [encC x]))).upd i3 (some (.row 36 1 [[.mp im]]))).upd b (some (.row 24 6 [encC x])) := ⟨_, rfl⟩
  have hst0 : (((((s.upd i1 (some (.row 24 6 [encC x]))).upd im (some (.dict []))).upd i3 (some (.row 36 1 [[.mp im]]))).upd b (some (.row 24 6 [encC x]))).upd i (some (.loop L))) = join base (OwnN i im L []) := by
    rw [hbase]
    funext j
    simp only [join, OwnN, St.upd, St.empty]
    by_cases q1 : j = i
    · subst q1; simp [him, hib, hi3, hi1, show s j = none from his]
    · by_cases q2 : j = im
      · subst q2; simp [q1, hmb, hm3, hm1, show s j = none from hm]
      · simp only [if_neg q1, if_neg q2]
        cases hq : (if j = b then some (Blk.row 24 6 [encC x]) else if j = i3 then some (Blk.row 36 1 [[PV.mp im]]) else if j = i1 then some (Blk.row 24 6 [encC x]) else s j) <;> rfl
  have hdj : Disj base (OwnN i im L []) := by
    intro j hj
    rw [hbase] at hj
    simp only [OwnN, St.upd, St.empty] at hj ⊢
    by_cases q1 : j = i
    · subst q1; simp [hib, hi3, hi1, show s j = none from his] at hj
    · by_cases q2 : j = im
      · subst q2; simp [hmb, hm3, hm1, show s j = none from hm] at hj
      · simp [q1, q2]
  have b3 : base i3 = some (.row 36 1 [[.mp im]]) := by rw [hbase]; simp [h3b]
  have bb : base b = some (.row 24 6 [encC x]) := by rw [hbase]; simp
  have bs : s.sub base := by rw [hbase]; exact ((sub_refl.upd_of h1).upd_of h3).upd_of hbs
  refine PCalls.mono (R := fun r s' => r = .ret (.tup []) ∧ ∃ own', InvN i im L (walkN x []) own' ∧ Disj base own' ∧ s' = join base own') ?_ ?_
  · rw [hst0]
    refine walk1_c (B0 := base) (M := x.size) (I := InvN i im L) ?_ x hsz base _ (Nat.le_refl _) (by unfold InvN namesD; rfl) hdj sub_refl bb
    intro pre p y base' own hlen hO hdj' hsub
    have oi : own i = some (.loop L) := by rw [hO]; simp [OwnN, him]
    have om : own im = some (.dict (namesD pre)) := by rw [hO]; simp [OwnN]
    have ni : base' i = none := hdj'.off oi
    have nm : base' im = none := hdj'.off om
    have ji := join_own hdj' oi
    have jm := join_own hdj' om
    have j3 := join_base (o := own) (hsub _ _ b3)
    refine PYld.ofL ji hst hN hLe hps hasg hbody rfl (by simp) rfl rfl ?_
    clear hst hN hLe hps hasg hbody hst0 hbase
    intro B
    refine pwC_sound _ _ _ _ ?_
    simp +contextual [putL, ji]
    intro i5 h5
    obtain ⟨h5b, h5o⟩ := join_none h5
    have n5i : i ≠ i5 := fun e => by subst e; rw [show own i = none from h5o] at oi; cases oi
    have n5m : im ≠ i5 := fun e => by subst e; rw [show own im = none from h5o] at om; cases om
    have n53 : i3 ≠ i5 := fun e => by subst e; rw [show join base' own i3 = none from h5] at j3; cases j3
    refine ⟨n5i, ?_⟩
    refine pwC_sound _ _ _ _ ?_
    have e1 : (join base' own).upd i (some (.loop B)) = join base' (own.upd i (some (.loop B))) := join_updO _ ni
    by_cases hop : y.op = 50
    · simp [g3, ji, j3, jm, n5i, n5m, n53, n5i.symm, n5m.symm, n53.symm, h3i, hi3, him, hmi, h3m, hm3, hop]
      obtain ⟨own2, ho2⟩ : ∃ o : St, o = OwnN i im L (dset (namesD pre) y.s (.lit (.bool true))) := ⟨_, rfl⟩
      have hd2 : Disj base' own2 := fun k hk => by
        have q1 : k ≠ i := fun e => hk (e ▸ ni)
        have q2 : k ≠ im := fun e => hk (e ▸ nm)
        rw [ho2]; simp [OwnN, St.empty, St.upd, q1, q2]
      have ho3 : own2 = own.upd im (some (.dict (dset (namesD pre) y.s (.lit (.bool true))))) := by rw [ho2, hO]; simp [OwnN]
      have o2i : own2 i = some (.loop L) := by rw [ho2]; simp [OwnN, him]
      have e2 : (join base' own).upd im (some (.dict (dset (namesD pre) y.s (.lit (.bool true))))) = join base' own2 := by rw [ho3]; exact join_updO _ nm
      refine ⟨(join base' own2).upd i (some (.loop B)), ?_, St.upd_same _ _ _, rfl, own2, ?_, hd2, ?_⟩
      · rw [← e2, St.upd_comm _ _ _ (show i ≠ im from him), St.upd_comm (join base' own) _ _ n5m.symm, St.upd_comm _ _ _ n5i.symm]
        exact sub_refl.upd_of (by rw [St.upd_ne _ _ n5i.symm, St.upd_ne _ _ n5m.symm]; exact h5)
      · unfold InvN; rw [namesD_snoc]; unfold nameD; rw [if_pos hop]; exact ho2
      · rw [St.upd_upd, St.upd_self (join_own hd2 o2i)]
    · simp [g3, ji, j3, jm, n5i, n5m, n53, n5i.symm, n5m.symm, n53.symm, h3i, hi3, him, hmi, h3m, hm3, hop]
      refine ⟨join base' (own.upd i (some (.loop B))), ?_, ?_, rfl, own, ?_, hdj', ?_⟩
      · rw [← e1, St.upd_comm _ _ _ n5i.symm]
        exact sub_refl.upd_of (by rw [St.upd_ne _ _ n5i.symm]; exact h5)
      · rw [← e1, St.upd_same]
      · unfold InvN; rw [namesD_snoc]; unfold nameD; rw [if_neg hop]; exact hO
      · rw [← e1, St.upd_upd, St.upd_self ji]
  · rintro _ _ ⟨rfl, own', hO, hd', rfl⟩
    have oi : own' i = some (.loop L) := by rw [hO]; simp [OwnN, him]
    have om : own' im = some (.dict (namesD (walkN x []))) := by rw [hO]; simp [OwnN]
    have jm := join_own hd' om
    have j3 := join_base (o := own') b3
    refine .inl ⟨join_own hd' oi, ?_⟩
    simp
    refine hK _ _ ?_
    clear hK K
    have jm' : ((join base own').upd i none) im = some (.dict (namesD (walkN x []))) := by rw [St.upd_ne _ _ (show im ≠ i from hmi)]; exact jm
    have hsi : s.sub ((join base own').upd i none) := (bs.trans (join_sub _ _)).upd_of his
    simp [g3, j3, h3i, hi3]
    generalize ((join base own').upd i none) = S at *
    refine (keys_c im S).mono ?_
    rintro _ _ ⟨b2, hb2, rfl, rfl⟩
    simp
    have hlen := namesD_len (walkN x [])
    have hwl := walkN_length x []
    have nm2 : im ≠ b2 := fun e => by subst e; rw [show S im = none from hb2] at jm'; cases jm'
    refine (sorted_c (b := b2) (m := im) (es := namesD (walkN x [])) (St.upd_same _ _ _) (by rw [St.upd_ne _ _ nm2]; exact jm') (by omega) (fun z hz => ?_)).mono ?_
    · obtain ⟨⟨p, y⟩, hy, _, h3⟩ := (namesD_mem _ z.1).1 ⟨z, hz, rfl⟩
      rw [← h3]
      exact (walkN_mem x _ _ hy hG).len.2
    rintro _ _ ⟨rfl, ss, hp, rfl⟩
    simp
    exact ⟨s, hsi.upd_of (hsi.fresh hb2), rfl, ss, hp, rfl⟩
end Go.Pv

/- The reference's names: Has, named. -/
namespace Go.Pv
open Go.Proofs
set_option linter.unusedVariables false
set_option linter.unusedSimpArgs false
set_option maxRecDepth 100000
set_option maxHeartbeats 1000000
@[reducible] def rowS (l : List ByteArray) : List (List PV) := l.map fun b => [.lit (.string b)]
theorem has_c (L : List ByteArray) (b : ByteArray) (hlen : L.length ≤ 2000000) (base s : St) (v : PV) (hO : OwnL 9 1 base (rowS L) v s) :
    PCalls Try.prog 34 [v, .lit (.string b)] s (fun r s' => s' = s ∧ ∃ n : Int, r = .ret (.lit (.int .i64 n)) ∧ (n < 0 ↔ b ∉ L)) := by
  refine PCalls.of Try.func34 rfl (by rfl) (by simp [Try.ntmps34]) ?_
  refine pwC_sound _ _ _ _ ?_
  rcases hO with ⟨h1, rfl, rfl⟩ | ⟨h0, j, hj, rfl, rfl⟩
  · have : L = [] := by simpa using h1
    subst this
    simp [Try.ntmps34]
    refine PW.loop (fun n e s' => e 0 = .vec .nil [] ∧ e 5 = .lit (.int .i64 0) ∧ s' = s) 0 ⟨by simp, by simp, rfl⟩ ?_
    rintro n e s' ⟨e0, e5, rfl⟩
    refine pwC_sound _ _ _ _ ?_
    simp [e0, e5]
  · have hL : L ≠ [] := by simpa using h0
    have hrow : (rowS L).length = L.length := by simp
    simp [Try.ntmps34]
    have c0 : (base.upd j (some (.row 9 1 (rowS L)))) j = some (.row 9 1 (rowS L)) := St.upd_same _ _ _
    generalize base.upd j (some (.row 9 1 (rowS L))) = σ at *
    refine PW.loop (fun n e s' => ∃ k : Nat, k + n = L.length ∧ (∀ i, i < k → L[i]? ≠ some b) ∧ e 0 = .sl j 1 0 L.length ∧ e 1 = .lit (.string b) ∧ e 5 = .lit (.int .i64 k) ∧ s' = σ) L.length ⟨0, by simp, by simp, by simp, by simp, by simp, rfl⟩ ?_
    rintro n e s' ⟨k, hk, hA, e0, e1, e5, rfl⟩
    refine pwC_sound _ _ _ _ ?_
    by_cases hlt : k < L.length
    · have hlt' : (k : Int) < L.length := by omega
      have hg : L[k]? = some L[k] := List.getElem?_eq_getElem hlt
      have w1 : IntKind.i64.wrap ((k : Int) + 1) = ((k + 1 : Nat) : Int) := by rw [wrap_i64 (by omega) (by omega)]; omega
      by_cases hb : L[k] = b
      · simp [e0, e1, e5, hlt, hlt', hg, c0, hb]
        exact ⟨_, sub_refl, rfl, ⟨fun h => by omega, fun h => absurd (List.mem_of_getElem? (by rw [hg, hb])) h⟩⟩
      · simp [e0, e1, e5, hlt, hlt', hg, c0, hb, w1]
        refine ⟨n - 1, by omega, k + 1, by omega, fun i hi => ?_, by omega⟩
        rcases Nat.lt_succ_iff_lt_or_eq.1 hi with hi | rfl
        · exact hA i hi
        · rw [hg]; simpa using hb
    · have hkl : k = L.length := by omega
      subst hkl
      simp [e0, e1, e5]
      refine ⟨_, sub_refl, rfl, ?_⟩
      intro hb
      obtain ⟨i, hi⟩ := List.getElem?_of_mem hb
      exact hA i (List.getElem?_eq_some_iff.1 hi).1 hi
/-- A name more, as the reference gathers them. -/
def hasB (acc : List ByteArray) (b : ByteArray) : Bool := acc.any fun z => decide (z = b)
theorem hasB_iff {acc : List ByteArray} {b : ByteArray} : hasB acc b = true ↔ b ∈ acc := by simp [hasB]
def addN (acc : List ByteArray) (x : Nd) : List ByteArray := if x.op = 50 ∧ hasB acc x.s = false then acc ++ [x.s] else acc
def namedN : Nd → List ByteArray → List ByteArray
  | ⟨op, s, n, fr, to, l⟩, acc => l.attach.foldl (fun a ⟨y, _⟩ => namedN y a) (addN acc ⟨op, s, n, fr, to, l⟩)
theorem namedN_eq (x : Nd) (acc : List ByteArray) : namedN x acc = x.l.foldl (fun a y => namedN y a) (addN acc x) := by
  obtain ⟨op, s, n, fr, to, l⟩ := x
  rw [namedN]
  have h := List.foldl_map (f := Subtype.val) (g := fun a y => namedN y a) (l := l.attach) (init := addN acc ⟨op, s, n, fr, to, l⟩)
  rw [List.attach_map_subtype_val] at h
  exact h.symm
theorem addN_len (acc : List ByteArray) (x : Nd) : (addN acc x).length ≤ acc.length + 1 := by
  unfold addN; split <;> simp
theorem namedF_len (l : List Nd) (h : ∀ y ∈ l, ∀ acc, (namedN y acc).length ≤ acc.length + y.size) : ∀ acc, (l.foldl (fun a y => namedN y a) acc).length ≤ acc.length + (l.map Nd.size).sum := by
  induction l with
  | nil => intro acc; simp
  | cons y l ih =>
    intro acc
    rw [List.foldl_cons]
    have h1 := ih (fun z hz => h z (List.mem_cons_of_mem _ hz)) (namedN y acc)
    have h2 := h y List.mem_cons_self acc
    simp only [List.map_cons, List.sum_cons]
    omega
theorem namedN_len (x : Nd) (acc : List ByteArray) : (namedN x acc).length ≤ acc.length + x.size := by
  rw [namedN_eq, x.size_eq]
  have h1 := namedF_len x.l (fun y hy acc => namedN_len y acc) (addN acc x)
  have h2 := addN_len acc x
  omega
termination_by x.size
decreasing_by exact Nd.mem_lt hy
theorem rowS_snoc (l : List ByteArray) (b : ByteArray) : rowS l ++ [[PV.lit (.string b)]] = rowS (l ++ [b]) := by simp
theorem named_c (x : Nd) (acc : List ByteArray) (base s : St) (v : PV) (hO : OwnL 9 1 base (rowS acc) v s) (hsz : x.size ≤ 1000000) (hacc : acc.length + x.size ≤ 2000000) :
    PCalls Try.prog 22 [encU x, v] s (fun r s' => ∃ v', r = .ret v' ∧ OwnL 9 1 base (rowS (namedN x acc)) v' s') := by
  refine PCalls.of Try.func22 rfl (by rfl) (by simp [Try.ntmps22]) ?_
  have hxs := x.size_eq
  have hxp := x.len_lt
  refine PW.cutR fun R hR hC => ?_
  simp [Try.ntmps22]
  intro i2 h2
  have hb2 : Fresh base i2 := hO.sub.fresh h2
  have hO1 := hO.upd (k := i2) (x := some (.row 24 6 [encC x])) (.inl h2)
  have c2 : (base.upd i2 (some (.row 24 6 [encC x]))) i2 = some (.row 24 6 [encC x]) := St.upd_same _ _ _
  have hs1 : base.sub (base.upd i2 (some (.row 24 6 [encC x]))) := sub_refl.upd_of hb2
  generalize base.upd i2 (some (.row 24 6 [encC x])) = base1 at *
  generalize s.upd i2 (some (.row 24 6 [encC x])) = s1 at *
  have j2 := hO1.at c2
  refine hR _ _ ?_
  clear hR hC R
  refine PW.cutR fun R hR hC => ?_
  have fin : ∀ (E : Env) (v' : PV) (s' : St), E 1 = v' → E 2 = .pt i2 0 0 → OwnL 9 1 base1 (rowS (addN acc x)) v' s' → R E s' := by
    intro E v' s' g1 g2 hO'
    refine hR _ _ ?_
    clear hR hC R
    refine PW.cutR fun R hR hC => ?_
    have j2 := hO'.at c2
    simp [g2, j2]
    refine PW.loop (fun n e s' => ∃ (j : Nat) (v' : PV), j + n = x.l.length ∧ e 1 = v' ∧ e 2 = .pt i2 0 0 ∧ e 5 = .lit (.int .i64 j) ∧ OwnL 9 1 base1 (rowS ((x.l.take j).foldl (fun a y => namedN y a) (addN acc x))) v' s') x.l.length ⟨0, v', by omega, by simp [g1], by simp [g2], by simp, by simpa using hO'⟩ ?_
    clear hO' j2 g1 g2 E v' s'
    rintro n e s' ⟨j, v', hj, e1, e2, e5, hO'⟩
    have j2 := hO'.at c2
    refine pwC_sound _ _ _ _ ?_
    by_cases hlt : j < x.l.length
    · have hlt' : (j : Int) < x.l.length := by omega
      have hg : x.l[j]? = some x.l[j] := List.getElem?_eq_getElem hlt
      have hm := Nd.mem_lt (List.getElem_mem hlt)
      have w1 : IntKind.i64.wrap ((j : Int) + 1) = ((j + 1 : Nat) : Int) := by rw [wrap_i64 (by omega) (by omega)]; omega
      have hss := sum_take_succ (l := x.l.map Nd.size) (k := j) (by simpa using hlt)
      have hsl := sum_take_le (x.l.map Nd.size) (j + 1)
      rw [List.getElem_map] at hss
      have hll := namedF_len (x.l.take j) (fun y _ a => namedN_len y a) (addN acc x)
      rw [List.map_take] at hll
      have hal := addN_len acc x
      simp [e1, e2, e5, j2, hlt, hlt', hg]
      refine (named_c x.l[j] _ base1 s' v' hO' (by omega) (by omega)).mono ?_
      rintro _ s3 ⟨v3, rfl, hO3⟩
      simp [e1, e2, e5, w1]
      refine ⟨n - 1, by omega, j + 1, by omega, by omega, ?_⟩
      rw [List.take_succ_eq_append_getElem hlt, List.foldl_append]
      simpa using hO3
    · have hjl : j = x.l.length := by omega
      subst hjl
      simp [e2, e5, j2]
      refine hR _ _ ?_
      refine pwC_sound _ _ _ _ ?_
      simp [e1]
      obtain ⟨s2, q1, q2⟩ := hO'.shrink hs1
      refine ⟨s2, q1, ?_⟩
      rw [namedN_eq]
      simpa using q2
  by_cases hop : x.op = 50
  · simp [j2, hop]
    refine (has_c acc x.s (by omega) base1 s1 v hO1).mono ?_
    rintro _ s9 ⟨h9, n, rfl, hn⟩
    rw [h9]
    clear h9 s9
    by_cases hin : x.s ∈ acc
    · have hn' : ¬ n < 0 := fun h => hn.1 h hin
      simp [hn']
      refine fin _ v s1 (by simp) (by simp) ?_
      unfold addN; rw [if_neg (by rintro ⟨_, h⟩; rw [hasB_iff.2 hin] at h; cases h)]; exact hO1
    · have hn' : n < 0 := hn.2 hin
      simp [hn', j2, hop]
      refine appOwn (b := 16) (z := .string ⟨#[]⟩) (ys := [[.lit (.string x.s)]]) hO1 (by simp) (by simp) (by simp) (by simp) rfl (by omega) (by simp) (fun s => by simp [elemsOf]) (by simp; omega) (fun v1 s2 hO2 => ?_)
      refine fin _ v1 s2 (by simp) (by simp) ?_
      rw [rowS_snoc] at hO2
      unfold addN; rw [if_pos ⟨hop, by cases hh : hasB acc x.s with | false => rfl | true => exact absurd (hasB_iff.1 hh) hin⟩]; exact hO2
  · simp [j2, hop]
    refine fin _ v s1 (by simp) (by simp) ?_
    unfold addN; rw [if_neg (by simp [hop])]; exact hO1
termination_by x.size
decreasing_by exact Nd.mem_lt (List.getElem_mem _)
end Go.Pv

/- The reference's Sorted: insertion, each text once. -/
namespace Go.Pv
open Go.Proofs
set_option linter.unusedVariables false
set_option linter.unusedSimpArgs false
set_option maxRecDepth 100000
set_option maxHeartbeats 1000000
@[reducible] def ltB (a b : ByteArray) : Prop := a.data.toList < b.data.toList
theorem strLess_iff (a b : ByteArray) : strLess a b = true ↔ ltB a b := by
  unfold strLess ltB
  rw [bytesLess_eq, ByteArray.toList_eq, ByteArray.toList_eq, decide_eq_true_iff]
theorem ltB_tri {a b : ByteArray} (h : ¬ ltB a b) (hn : a ≠ b) : ltB b a := by
  unfold ltB at *
  have h2 : b.data.toList ≤ a.data.toList := by simpa using h
  rcases List.le_iff_lt_or_eq.1 h2 with h3 | h3
  · exact h3
  · exact absurd (Go.WideShapes.bytes_inj h3.symm) hn
theorem ltB_trans {a b c : ByteArray} (h1 : ltB a b) (h2 : ltB b c) : ltB a c := List.lt_trans h1 h2
/-- Rising, each once. -/
def Rise (l : List ByteArray) : Prop := l.Pairwise ltB
theorem rise_ins {A C : List ByteArray} {b : ByteArray} (h : Rise (A ++ C)) (hC : ∀ c ∈ C, ltB b c) (hA : ∀ a ∈ A, ltB a b) : Rise (A ++ b :: C) := by
  rw [Rise, List.pairwise_append] at h ⊢
  obtain ⟨h1, h2, h3⟩ := h
  refine ⟨h1, List.pairwise_cons.2 ⟨hC, h2⟩, fun a ha c hc => ?_⟩
  rcases List.mem_cons.1 hc with rfl | hc
  · exact hA a ha
  · exact h3 a ha c hc
theorem rowS_set (L : List ByteArray) (k : Nat) (b : ByteArray) : (rowS L).set k [.lit (.string b)] = rowS (L.set k b) := by
  rw [rowS, rowS, List.map_set]
structure InvS (s : St) (l : List ByteArray) (n i : Nat) (L : List ByteArray) (v : PV) (e : Env) (s' : St) : Prop where
  hi : i + n = l.length
  len : L.length ≤ i
  rise : Rise L
  mem : ∀ b, b ∈ L ↔ b ∈ l.take i
  e0 : e 0 = .vec .any (l.map fun b => .lit (.string b))
  e3 : e 3 = v
  e4 : e 4 = .lit (.int .i64 i)
  own : OwnL 9 1 s (rowS L) v s'
structure InvB (s : St) (l M : List ByteArray) (i j : Nat) (b : ByteArray) (A C : List ByteArray) (e : Env) (s' : St) : Prop where
  split : A ++ C = M
  above : ∀ c ∈ C, ltB b c
  e0 : e 0 = .vec .any (l.map fun b => .lit (.string b))
  e3 : e 3 = .sl j 1 0 (A ++ b :: C).length
  e4 : e 4 = .lit (.int .i64 i)
  e5 : e 5 = .lit (.int .i64 A.length)
  st : s' = s.upd j (some (.row 9 1 (rowS (A ++ b :: C))))
theorem rsorted_c (l : List ByteArray) (hlen : l.length ≤ 1000000) (s : St) : PCalls Try.prog 21 [.vec .any (l.map fun b => .lit (.string b))] s (fun r s' => s' = s ∧ ∃ L : List ByteArray, Rise L ∧ (∀ b, b ∈ L ↔ b ∈ l) ∧ r = .ret (.vec .any (L.map fun b => .lit (.string b)))) := by
  refine PCalls.conv (R := fun r s' => ∃ v L, r = .ret v ∧ Rise L ∧ (∀ b, b ∈ L ↔ b ∈ l) ∧ OwnL 9 1 s (rowS L) v s') ?_ ?_ ?_
  · refine PCalls.of Try.func21 rfl (by rfl) (by simp [Try.ntmps21]) ?_
    refine pwC_sound _ _ _ _ ?_
    simp [Try.ntmps21]
    refine PW.loop (fun n e s' => ∃ (i : Nat) (L : List ByteArray) (v : PV), InvS s l n i L v e s') l.length
      ⟨0, [], .vec .nil [], ⟨by omega, by simp, .nil, by simp, by simp, by simp, by simp, OwnL.nil _ _ _⟩⟩ ?_
    rintro n e s' ⟨i, L, v, hi, hLi, hR, hM, e0, e3, e4, hO⟩
    refine pwC_sound _ _ _ _ ?_
    by_cases hlt : i < l.length
    · have hlt' : (i : Int) < l.length := by omega
      have hg : l[i]? = some l[i] := List.getElem?_eq_getElem hlt
      have w1 : IntKind.i64.wrap ((i : Int) + 1) = ((i + 1 : Nat) : Int) := by rw [wrap_i64 (by omega) (by omega)]; omega
      have htk : l.take (i + 1) = l.take i ++ [l[i]] := List.take_succ_eq_append_getElem hlt
      obtain ⟨b, hbq⟩ : ∃ b, l[i] = b := ⟨_, rfl⟩
      rw [hbq] at hg htk
      simp [e0, e3, e4, hlt, hlt', hg, hbq]
      refine (has_c L b (by omega) s s' v hO).mono ?_
      rintro _ s9 ⟨h9, q, rfl, hq⟩
      rw [h9]
      clear h9 s9
      by_cases hin : b ∈ L
      · have hq' : ¬ q < 0 := fun h => hq.1 h hin
        have hq2 : 0 ≤ q := by omega
        simp [hq', hq2, e4]
        refine ⟨n - 1, by omega, i + 1, L, v, ⟨by omega, by omega, hR, fun c => ?_, by simp [e0], by simp [e3], by simp [w1], hO⟩⟩
        rw [htk, List.mem_append, hM c]
        constructor
        · exact .inl
        · rintro (h | h)
          · exact h
          · rw [List.mem_singleton.1 h]; exact (hM b).1 hin
      · have hq' : q < 0 := hq.2 hin
        have hq2 : ¬ 0 ≤ q := by omega
        simp [hq', hq2, e0, e3, e4, hlt, hlt', hg, hbq]
        refine appOwn (b := 16) (z := .string ⟨#[]⟩) (ys := [[.lit (.string b)]]) hO (by simp) (by simp) (by simp) (by simp) rfl (by omega) (by simp) (fun s => by simp [elemsOf]) (by simp; omega) (fun v1 s1 hO1 => ?_)
        rw [rowS_snoc] at hO1
        rcases hO1 with ⟨h1, _⟩ | ⟨_, j, hj, rfl, rfl⟩
        · simp at h1
        have w2 : IntKind.i64.wrap (L.length : Int) = (L.length : Nat) := wrap_i64 (by omega) (by omega)
        simp [w2]
        refine PW.loop (fun m e s' => ∃ (A C : List ByteArray), m = A.length ∧ InvB s l L i j b A C e s') L.length
          ⟨L, [], rfl, ⟨by simp, by simp, by simp [e0], by simp, by simp [e4], by simp, by simp⟩⟩ ?_
        clear e0 e3 e4 hO e
        rintro m e s' ⟨A, C, hm, hsp, hab, e0, e3, e4, e5, rfl⟩
        subst hm
        refine pwC_sound _ _ _ _ ?_
        have hlen2 : A.length + C.length = L.length := by rw [← hsp, List.length_append]
        have hfin : ∀ (A C : List ByteArray) (e : Env), A ++ C = L → (∀ c ∈ C, ltB b c) → (∀ a ∈ A, ltB a b) → e 0 = .vec .any (l.map fun b => .lit (.string b)) → e 3 = .sl j 1 0 (A ++ b :: C).length → e 4 = .lit (.int .i64 ((i + 1 : Nat) : Int)) →
            ∃ (i' : Nat) (L' : List ByteArray) (v : PV), InvS s l (n - 1) i' L' v e (s.upd j (some (.row 9 1 (rowS (A ++ b :: C))))) := by
          intro A C e h1 h2 h3 g0 g3 g4
          have hl2 : A.length + C.length = L.length := by rw [← h1, List.length_append]
          refine ⟨i + 1, A ++ b :: C, _, ⟨by omega, by simp; omega, rise_ins (by rw [h1]; exact hR) h2 h3, fun c => ?_, g0, g3, g4, .inr ⟨by simp, j, hj, by simp, rfl⟩⟩⟩
          have hMc := hM c
          rw [← h1] at hMc
          rw [htk]
          simp only [List.mem_append, List.mem_cons, List.mem_singleton, List.not_mem_nil, or_false] at hMc ⊢
          rw [← hMc]
          constructor
          · rintro (h | h | h)
            · exact .inl (.inl h)
            · exact .inr h
            · exact .inl (.inr h)
          · rintro ((h | h) | h)
            · exact .inl h
            · exact .inr (.inr h)
            · exact .inr (.inl h)
        have c0 : (s.upd j (some (.row 9 1 (rowS (A ++ b :: C))))) j = some (.row 9 1 (rowS (A ++ b :: C))) := St.upd_same _ _ _
        by_cases hA0 : A.length = 0
        · have : A = [] := List.length_eq_zero_iff.1 hA0
          subst this
          refine PW.drawn (fun i => 0) [0, 1, 2, 3, 4, 5, 7, 8, 9, 10, 6, 11, 12, 13] mixed_ (fun _ _ _ _ h => h) (by kernel_rfl) ?_
          have key := fun e h0 h3 h4 => hfin [] C e hsp hab (by simp) h0 h3 h4
          simp at key
          simp [e3, e4, e5, w1]
          exact ⟨n - 1, by omega, key _ (by simp [e0]) (by simp [e3]) (by simp)⟩
        · obtain ⟨A', a, rfl⟩ : ∃ A' a, A = A' ++ [a] := by
            rcases List.eq_nil_or_concat A with h | ⟨A', a, h⟩
            · subst h; simp at hA0
            · exact ⟨A', a, by rw [h, List.concat_eq_append]⟩
          have ha : a ∈ L := by rw [← hsp]; simp
          have hne : a ≠ b := fun h => hin (h ▸ ha)
          obtain ⟨k, hk⟩ : ∃ k, A'.length = k := ⟨_, rfl⟩
          have hkl : (A' ++ [a]).length = k + 1 := by simp [hk]
          have w3 : IntKind.i64.wrap (k : Int) = (k : Nat) := wrap_i64 (by omega) (by omega)
          have g1 : (rowS ((A' ++ [a]) ++ b :: C))[k + 1]? = some [.lit (.string b)] := by
            rw [rowS, List.getElem?_map, List.getElem?_append_right (by omega), hkl, Nat.sub_self]; rfl
          have g2 : (rowS ((A' ++ [a]) ++ b :: C))[k]? = some [.lit (.string a)] := by
            rw [rowS, List.getElem?_map, List.getElem?_append_left (by omega), List.getElem?_append_right (by omega), hk, Nat.sub_self]; rfl
          have g3 : ((rowS ((A' ++ [a]) ++ b :: C)).set (k + 1) [.lit (.string a)]).set k [.lit (.string b)] = rowS (A' ++ b :: a :: C) := by
            rw [rowS_set, rowS_set, List.set_append_right _ _ (by omega), hkl, Nat.sub_self, List.append_assoc, List.set_append_right _ _ (by omega), hk, Nat.sub_self]; rfl
          obtain ⟨N, hN⟩ : ∃ N, ((A' ++ [a]) ++ b :: C).length = N := ⟨_, rfl⟩
          have hN2 : (A' ++ b :: a :: C).length = N := by rw [← hN]; simp
          have hkN : k + 1 < N := by rw [← hN, List.length_append, hkl]; simp
          have hkN' : (k : Int) + 1 < N := by omega
          have hkN2 : (k : Int) < N := by omega
          have hkN3 : k < N := by omega
          have hz : (0 : Int) ≤ (k : Int) + 1 := by omega
          have hz2 : (0 : Int) < (k : Int) + 1 := by omega
          have hlt2 : ltB a b → ∀ a' ∈ A' ++ [a], ltB a' b := fun hab2 a' ha' => by
            rw [← hsp] at hR
            rcases List.mem_append.1 ha' with h | h
            · have := List.pairwise_append.1 (List.pairwise_append.1 hR).1
              exact ltB_trans (this.2.2 a' h a (by simp)) hab2
            · rw [List.mem_singleton.1 h]; exact hab2
          rw [hkl] at e5
          rw [hN] at e3
          have key := fun e h0 h3 h4 hx => hfin (A' ++ [a]) C e hsp hab hx h0 h3 h4
          rw [hN] at key
          generalize rowS ((A' ++ [a]) ++ b :: C) = els at *
          have q1 : (els.set (k + 1) [.lit (.string a)])[k]? = some [.lit (.string a)] := by rw [List.getElem?_set_ne (by omega)]; exact g2
          refine PW.drawn (fun i => 0) [0, 1, 2, 3, 4, 5, 7, 8, 9, 10, 6, 11, 12, 13] mixed_ (fun _ _ _ _ h => h) (by kernel_rfl) ?_
          by_cases hba : ltB b a
          · have hs : strBin .lss b a = some (.lit (.bool true)) := by unfold strBin; rw [(strLess_iff b a).2 hba]
            simp [e3, e4, e5, w3, g1, g2, hs, hz, hz2, hkN, hkN', hkN2, hkN3, q1]
            refine ⟨k, by omega, A', hk.symm, a :: C, ⟨by rw [← hsp]; simp, fun c hc => ?_, by simp [e0], by rw [hN2]; simp [e3], by simp [e4], by simp [hk], by rw [g3]⟩⟩
            rcases List.mem_cons.1 hc with rfl | hc
            · exact hba
            · exact hab c hc
          · have hs : strBin .lss b a = some (.lit (.bool false)) := by unfold strBin; cases h : strLess b a with | false => rfl | true => exact absurd ((strLess_iff b a).1 h) hba
            simp [e3, e4, e5, w1, w3, g1, g2, hs, hz, hz2, hkN, hkN', hkN2, hkN3]
            exact ⟨n - 1, by omega, key _ (by simp [e0]) (by simp [e3]) (by simp) (hlt2 (ltB_tri hba hne.symm))⟩
    · have hil : i = l.length := by omega
      subst hil
      simp [e0, e3, e4]
      exact ⟨_, sub_refl, L, hR, by simpa using hM, hO⟩
  · rintro p s' ⟨v, L, hv, hR, hM, hO⟩
    cases hv
    exact ⟨_, _, Conv.own (xs := L.map fun b => .lit (.string b)) hO (by simp) [], rfl, L, hR, hM, rfl⟩
  · rintro c s' ⟨v, L, hv, _⟩
    cases hv
end Go.Pv

/- Both sides' names are one list. -/
namespace Go.Pv
open Go.Proofs
set_option linter.unusedVariables false
set_option linter.unusedSimpArgs false
set_option maxRecDepth 100000
set_option maxHeartbeats 1000000
@[reducible] def strsV (k : VK) (l : List ByteArray) : PV := .vec k (l.map fun b => .lit (.string b))
theorem namedQ_c (x : Nd) (hsz : x.size ≤ 1000000) (s : St) : PCalls Try.prog 22 [encU x, .vec .nil []] s (fun r s' => s' = s ∧ r = .ret (strsV .any (namedN x []))) := by
  refine PCalls.conv (named_c x [] s s _ (OwnL.nil _ _ _) hsz (by simp; omega)) ?_ ?_
  · rintro p s' ⟨v, hv, hO⟩
    cases hv
    exact ⟨_, _, Conv.own (xs := (namedN x []).map fun b => .lit (.string b)) hO (by simp) [], rfl, rfl⟩
  · rintro c s' ⟨v, hv, _⟩
    cases hv
theorem rnames_c (x : Nd) (hsz : x.size ≤ 1000000) (s : St) : PCalls Try.prog 14 [encU x] s (fun r s' => s' = s ∧ ∃ L : List ByteArray, Rise L ∧ (∀ b, b ∈ L ↔ b ∈ namedN x []) ∧ r = .ret (strsV .any L)) := by
  refine PCalls.of Try.func14 rfl (by rfl) (by simp [Try.ntmps14]) ?_
  refine pwC_sound _ _ _ _ ?_
  simp [Try.ntmps14]
  intro i1 h1
  refine (namedQ_c x hsz _).mono ?_
  rintro _ _ ⟨rfl, rfl⟩
  simp
  have hl := namedN_len x []
  simp at hl
  refine (rsorted_c (namedN x []) (by omega) _).mono ?_
  rintro _ _ ⟨rfl, L, h2, h3, rfl⟩
  simp
  exact ⟨s, sub_refl.upd_of h1, rfl, L, h2, h3, rfl⟩
theorem namedF_mem (b : ByteArray) (p : List Int) : ∀ (l : List Nd) (i : Nat) (acc : List ByteArray), (∀ y ∈ l, ∀ (acc : List ByteArray) (p : List Int), b ∈ namedN y acc ↔ b ∈ acc ∨ ∃ z ∈ walkN y p, z.2.op = 50 ∧ z.2.s = b) →
    (b ∈ l.foldl (fun a y => namedN y a) acc ↔ b ∈ acc ∨ ∃ z ∈ walkL p (l.zipIdx i), z.2.op = 50 ∧ z.2.s = b)
  | [], i, acc, h => by simp [walkL]
  | y :: l, i, acc, h => by
    have h1 := h y List.mem_cons_self acc (p ++ [(i : Int)])
    have h2 := namedF_mem b p l (i + 1) (namedN y acc) (fun z hz => h z (List.mem_cons_of_mem _ hz))
    rw [List.foldl_cons, h2, h1, List.zipIdx_cons]
    unfold walkL
    rw [List.flatMap_cons]
    simp only [List.mem_append]
    constructor
    · rintro ((h | ⟨z, h, h'⟩) | ⟨z, h, h'⟩)
      · exact .inl h
      · exact .inr ⟨z, .inl h, h'⟩
      · exact .inr ⟨z, .inr h, h'⟩
    · rintro (h | ⟨z, h | h, h'⟩)
      · exact .inl (.inl h)
      · exact .inl (.inr ⟨z, h, h'⟩)
      · exact .inr ⟨z, h, h'⟩
theorem namedN_mem (b : ByteArray) (x : Nd) (acc : List ByteArray) (p : List Int) : b ∈ namedN x acc ↔ b ∈ acc ∨ ∃ z ∈ walkN x p, z.2.op = 50 ∧ z.2.s = b := by
  rw [namedN_eq, namedF_mem b p x.l 0 _ (fun y hy acc p => namedN_mem b y acc p), walkN_eq]
  have hadd : b ∈ addN acc x ↔ b ∈ acc ∨ (x.op = 50 ∧ x.s = b) := by
    unfold addN
    split
    · rename_i h
      simp only [List.mem_append, List.mem_singleton]
      constructor
      · rintro (h1 | h1)
        · exact .inl h1
        · exact .inr ⟨h.1, h1.symm⟩
      · rintro (h1 | h1)
        · exact .inl h1
        · exact .inr h1.2.symm
    · rename_i h
      constructor
      · exact .inl
      · rintro (h1 | ⟨h1, h2⟩)
        · exact h1
        · subst h2
          refine Classical.byContradiction fun hn => h ⟨h1, ?_⟩
          cases hh : hasB acc x.s with
          | false => rfl
          | true => exact absurd (hasB_iff.1 hh) hn
  rw [hadd]
  simp only [List.mem_cons, exists_eq_or_imp]
  constructor
  · rintro ((h | h) | h)
    · exact .inl h
    · exact .inr (.inl h)
    · exact .inr (.inr h)
  · rintro (h | h | h)
    · exact .inl (.inl h)
    · exact .inl (.inr h)
    · exact .inr h
termination_by x.size
decreasing_by exact Nd.mem_lt hy
theorem dset_keys (es : List (ByteArray × PV)) (k : ByteArray) (v : PV) (h : (es.map (·.1)).Nodup) : ((dset es k v).map (·.1)).Nodup := by
  induction es with
  | nil => simp [dset]
  | cons e es ih =>
    obtain ⟨k', u⟩ := e
    rw [List.map_cons, List.nodup_cons] at h
    unfold dset
    split
    · rename_i hk
      subst hk
      rw [List.map_cons, List.nodup_cons]
      exact h
    · rename_i hk
      rw [List.map_cons, List.nodup_cons]
      refine ⟨fun hm => ?_, ih h.2⟩
      obtain ⟨x, hx, he⟩ := List.mem_map.1 hm
      rcases (dset_mem es k v x.1).1 ⟨x, hx, rfl⟩ with h1 | ⟨y, hy, h1⟩
      · exact hk (by rw [← h1]; exact he)
      · exact h.1 (List.mem_map.2 ⟨y, hy, by rw [h1]; exact he⟩)
theorem namesF_keys : ∀ (l : List (List Int × Nd)) (es : List (ByteArray × PV)), (es.map (·.1)).Nodup → ((l.foldl (fun es q => nameD es q.2) es).map (·.1)).Nodup
  | [], es, h => h
  | (p, x) :: l, es, h => by
    rw [List.foldl_cons]
    refine namesF_keys l _ ?_
    unfold nameD
    split
    · exact dset_keys _ _ _ h
    · exact h
theorem names_same (x : Nd) {ss : List (List UInt8)} {L : List ByteArray} (hp : ss.Perm ((namesD (walkN x [])).map fun x => x.1.data.toList)) (hR : Rise L) (hm : ∀ b, b ∈ L ↔ b ∈ namedN x []) :
    strsB (ss.mergeSort fun x y => decide (x ≤ y)) = strsV .any L := by
  have hM : (L.map fun b => b.data.toList).Pairwise (· < ·) := List.pairwise_map.2 hR
  have hMn : (L.map fun b => b.data.toList).Nodup := hM.imp (fun {a b} h e => by subst e; exact List.lt_irrefl _ h)
  have hkn : ((namesD (walkN x [])).map fun x => x.1.data.toList).Nodup := by
    have h1 : ((namesD (walkN x [])).map (·.1)).Nodup := namesF_keys _ _ (by simp)
    have h2 : ((namesD (walkN x [])).map fun x => x.1.data.toList) = ((namesD (walkN x [])).map (·.1)).map fun b => b.data.toList := by rw [List.map_map]; rfl
    rw [h2]
    exact List.pairwise_map.2 (h1.imp (fun {a b} h e => h (Go.WideShapes.bytes_inj e)))
  have hpm : ss.Perm (L.map fun b => b.data.toList) := by
    refine hp.trans ((List.perm_ext_iff_of_nodup hkn hMn).2 fun t => ?_)
    rw [List.mem_map, List.mem_map]
    constructor
    · rintro ⟨y, hy, rfl⟩
      refine ⟨y.1, (hm _).2 ((namedN_mem _ x [] []).2 (.inr ((namesD_mem _ y.1).1 ⟨y, hy, rfl⟩))), rfl⟩
    · rintro ⟨b, hb, rfl⟩
      rcases (namedN_mem b x [] []).1 ((hm b).1 hb) with h | h
      · simp at h
      · obtain ⟨y, hy, h2⟩ := (namesD_mem _ b).2 h
        exact ⟨y, hy, by rw [h2]⟩
  have hs : (ss.mergeSort fun x y => decide (x ≤ y)) = L.map fun b => b.data.toList := by
    rw [show (ss.mergeSort fun x y => decide (x ≤ y)) = ss.mergeSort leB from rfl, mergeSort_of_perm hpm]
    refine List.mergeSort_of_pairwise (hM.imp (fun {a b} h => ?_))
    simp only [leB, decide_eq_true_eq]
    exact List.le_of_lt h
  rw [hs]
  unfold strsB strsV
  rw [List.map_map]
  rfl
end Go.Pv

/- Size and Levels on both sides. -/
namespace Go.Pv
open Go.Proofs
set_option linter.unusedVariables false
set_option linter.unusedSimpArgs false
set_option maxRecDepth 100000
set_option maxHeartbeats 1000000
theorem rsize_c (x : Nd) (hx : x.size ≤ 1000000) (s : St) : PCalls Try.prog 7 [encU x] s (fun r s' => s' = s ∧ r = .ret (.lit (.int .i64 x.size))) := by
  refine PCalls.of Try.func7 rfl (by rfl) (by simp [Try.ntmps7]) ?_
  refine pwC_sound _ _ _ _ ?_
  simp [Try.ntmps7]
  intro i hi
  have c1 : (s.upd i (some (.row 24 6 [encC x]))) i = some (.row 24 6 [encC x]) := St.upd_same _ _ _
  have hs1 : s.sub (s.upd i (some (.row 24 6 [encC x]))) := sub_refl.upd_of hi
  generalize s.upd i (some (.row 24 6 [encC x])) = σ at *
  refine PW.loop (fun n e s' => ∃ k : Nat, k + n = x.l.length ∧ e 1 = .pt i 0 0 ∧ e 3 = .lit (.int .i64 ((1 + ((x.l.map Nd.size).take k).sum : Nat) : Int)) ∧ e 4 = .lit (.int .i64 k) ∧ s' = σ) x.l.length ⟨0, by simp, by simp, by simp, by simp, rfl⟩ ?_
  rintro n e s' ⟨k, hk, e1, e3, e4, rfl⟩
  refine pwC_sound _ _ _ _ ?_
  have hsz := x.size_eq
  by_cases hlt : k < x.l.length
  · have hlt' : (k : Int) < x.l.length := by omega
    have hget : x.l[k]? = some x.l[k] := List.getElem?_eq_getElem hlt
    have hs := sum_take_succ (l := x.l.map Nd.size) (k := k) (by simpa using hlt)
    have hle := sum_take_le (x.l.map Nd.size) (k + 1)
    rw [List.getElem_map] at hs
    have hmm := Nd.mem_lt (List.getElem_mem hlt)
    have hn := x.len_lt
    simp [e1, e3, e4, hlt, hlt', hget, c1]
    refine (rsize_c x.l[k] (by omega) _).mono ?_
    rintro _ s9 ⟨h9, rfl⟩
    rw [h9]
    clear h9 s9
    simp [e1, e3, e4]
    rw [wrap_i64 (n := (k : Int) + 1) (by omega) (by omega), wrap_i64 (by omega) (by omega)]
    exact ⟨n - 1, by omega, k + 1, by omega, by rw [hs]; push_cast; omega, by omega⟩
  · have hkl : k = x.l.length := by omega
    subst hkl
    simp [e1, e3, e4, c1]
    refine ⟨_, hs1, rfl, ?_⟩
    rw [hsz, List.take_of_length_le (by simp)]; push_cast; rfl
termination_by x.size
decreasing_by exact Nd.mem_lt (List.getElem_mem _)
def maxL : List Nat → Nat
  | [] => 0
  | n :: l => max n (maxL l)
def Nd.lev : Nd → Nat
  | ⟨_, _, _, _, _, l⟩ => maxL (l.attach.map fun ⟨x, _⟩ => x.lev) + 1
theorem Nd.lev_eq (x : Nd) : x.lev = maxL (x.l.map Nd.lev) + 1 := by
  obtain ⟨op, s, n, fr, to, l⟩ := x
  rw [Nd.lev]
  simp only [List.map_attach_eq_pmap, List.pmap_eq_map]
theorem maxL_snoc (l : List Nat) (n : Nat) : maxL (l ++ [n]) = max (maxL l) n := by
  induction l with
  | nil => simp [maxL]
  | cons a l ih => simp only [List.cons_append, maxL, ih]; omega
theorem maxL_take {l : List Nat} {k : Nat} (h : k < l.length) : maxL (l.take (k + 1)) = max (maxL (l.take k)) l[k] := by
  rw [List.take_succ_eq_append_getElem h, maxL_snoc]
theorem maxL_le {l : List Nat} {m : Nat} (h : ∀ n ∈ l, n ≤ m) : maxL l ≤ m := by
  induction l with
  | nil => simp [maxL]
  | cons a l ih =>
    have h1 := h a List.mem_cons_self
    have h2 := ih fun n hn => h n (List.mem_cons_of_mem _ hn)
    simp only [maxL]; omega
theorem Nd.lev_le (x : Nd) : x.lev ≤ x.size := by
  rw [x.lev_eq, x.size_eq]
  have : maxL (x.l.map Nd.lev) ≤ (x.l.map Nd.size).sum := maxL_le fun n hn => by
    obtain ⟨y, hy, rfl⟩ := List.mem_map.1 hn
    exact Nat.le_trans (Nd.lev_le y) (mem_le_sum hy)
  omega
termination_by x.size
decreasing_by exact Nd.mem_lt hy
theorem maxI (a b : Nat) : (if (a : Int) < b then (b : Int) else (a : Int)) = ((max a b : Nat) : Int) := by split <;> omega
theorem rlevels_c (x : Nd) (hx : x.size ≤ 1000000) (s : St) : PCalls Try.prog 17 [encU x] s (fun r s' => s' = s ∧ r = .ret (.lit (.int .i64 x.lev))) := by
  refine PCalls.of Try.func17 rfl (by rfl) (by simp [Try.ntmps17]) ?_
  refine pwC_sound _ _ _ _ ?_
  simp [Try.ntmps17]
  intro i hi
  have c1 : (s.upd i (some (.row 24 6 [encC x]))) i = some (.row 24 6 [encC x]) := St.upd_same _ _ _
  have hs1 : s.sub (s.upd i (some (.row 24 6 [encC x]))) := sub_refl.upd_of hi
  generalize s.upd i (some (.row 24 6 [encC x])) = σ at *
  have hn := x.len_lt
  have hlev := x.lev_eq
  have hll := x.lev_le
  refine PW.loop (fun n e s' => ∃ k m : Nat, k + n = x.l.length ∧ m = maxL ((x.l.map Nd.lev).take k) ∧ e 1 = .pt i 0 0 ∧ e 3 = .lit (.int .i64 m) ∧ e 4 = .lit (.int .i64 k) ∧ s' = σ) x.l.length ⟨0, 0, by simp, by simp [maxL], by simp, by simp, by simp, rfl⟩ ?_
  rintro n e s' ⟨k, m, hk, hm, e1, e3, e4, rfl⟩
  refine pwC_sound _ _ _ _ ?_
  by_cases hlt : k < x.l.length
  · have hlt' : (k : Int) < x.l.length := by omega
    have hget : x.l[k]? = some x.l[k] := List.getElem?_eq_getElem hlt
    have hs := maxL_take (l := x.l.map Nd.lev) (k := k) (by simpa using hlt)
    rw [List.getElem_map] at hs
    have hmm := Nd.mem_lt (List.getElem_mem hlt)
    simp [e1, e3, e4, hlt, hlt', hget, c1]
    refine (rlevels_c x.l[k] (by omega) _).mono ?_
    rintro _ s9 ⟨h9, rfl⟩
    rw [h9]
    clear h9 s9
    simp [e1, e3, e4]
    rw [wrap_i64 (by omega) (by omega)]
    exact ⟨n - 1, by omega, k + 1, by omega, by rw [hs, ← hm]; omega, by omega⟩
  · have hkl : k = x.l.length := by omega
    subst hkl
    rw [List.take_of_length_le (by simp)] at hm
    have w1 : IntKind.i64.wrap ((m : Int) + 1) = (x.lev : Nat) := by rw [wrap_i64 (by omega) (by omega)]; omega
    simp [e1, e3, e4, c1, w1]
    exact hs1
termination_by x.size
decreasing_by exact Nd.mem_lt (List.getElem_mem _)
theorem rLevels_c (x : Nd) (hx : x.size ≤ 1000000) (s : St) : PCalls Try.prog 9 [encU x] s (fun r s' => s' = s ∧ r = .ret (.lit (.int .i64 x.lev))) := by
  refine PCalls.of Try.func9 rfl (by rfl) (by simp [Try.ntmps9]) ?_
  refine pwC_sound _ _ _ _ ?_
  simp [Try.ntmps9]
  intro i hi
  refine (rlevels_c x hx _).mono ?_
  rintro _ _ ⟨rfl, rfl⟩
  simp
  exact sub_refl.upd_of hi
theorem plevels_c (x : Nd) (hx : x.size ≤ 1000000) (s : St) : PCalls Try.prog 8 [encU x] s (fun r s' => s' = s ∧ r = .ret (.lit (.int .i64 x.lev))) := by
  refine PCalls.of Try.func8 rfl (by rfl) (by simp [Try.ntmps8]) ?_
  refine pwC_sound _ _ _ _ ?_
  simp [Try.ntmps8]
  intro i hi
  have hs1 : s.sub (s.upd i (some (.row 24 6 [encC x]))) := sub_refl.upd_of hi
  generalize s.upd i (some (.row 24 6 [encC x])) = σ at *
  have hn := x.len_lt
  have hlev := x.lev_eq
  have hll := x.lev_le
  refine PW.loop (fun n e s' => ∃ k m : Nat, k + n = x.l.length ∧ m = maxL ((x.l.map Nd.lev).take k) ∧ e 3 = .lit (.int .i64 m) ∧ e 7 = .vec .any (x.l.map enc) ∧ e 8 = .lit (.int .i64 x.l.length) ∧ e 9 = .lit (.int .i64 k) ∧ s.sub s') x.l.length ⟨0, 0, by simp, by simp [maxL], by simp, by simp, by simp, by simp, hs1⟩ ?_
  rintro n e s' ⟨k, m, hk, hm, e3, e7, e8, e9, hsub⟩
  refine pwC_sound _ _ _ _ ?_
  by_cases hlt : k < x.l.length
  · have hlt' : (k : Int) < x.l.length := by omega
    have hget : x.l[k]? = some x.l[k] := List.getElem?_eq_getElem hlt
    have hs := maxL_take (l := x.l.map Nd.lev) (k := k) (by simpa using hlt)
    rw [List.getElem_map] at hs
    have hmm := Nd.mem_lt (List.getElem_mem hlt)
    simp [e3, e7, e8, e9, hlt, hlt', hget]
    intro j hj
    refine (plevels_c x.l[k] (by omega) _).mono ?_
    rintro _ _ ⟨rfl, rfl⟩
    simp [e3, e7, e8, e9]
    rw [wrap_i64 (by omega) (by omega)]
    exact ⟨n - 1, by omega, k + 1, by omega, by rw [hs, ← hm]; omega, by omega, hsub.upd_of (hsub.fresh hj)⟩
  · have hkl : k = x.l.length := by omega
    subst hkl
    rw [List.take_of_length_le (by simp)] at hm
    have w1 : IntKind.i64.wrap ((m : Int) + 1) = (x.lev : Nat) := by rw [wrap_i64 (by omega) (by omega)]; omega
    simp [e3, e7, e8, e9, w1]
    exact hsub
termination_by x.size
decreasing_by exact Nd.mem_lt (List.getElem_mem _)
/-- A function's name. -/
def funcOf (f : Nd) : List ByteArray := match f.l[1]? with
  | some g => if f.op = 2 ∧ g.op = 50 then [g.s] else []
  | none => []
theorem funcs_len (l : List Nd) : (l.flatMap funcOf).length ≤ l.length := by
  induction l with
  | nil => simp
  | cons f l ih =>
    rw [List.flatMap_cons, List.length_append, List.length_cons]
    have : (funcOf f).length ≤ 1 := by
      unfold funcOf
      split
      · split <;> simp
      · simp
    omega
theorem funcs_take {l : List Nd} {k : Nat} (h : k < l.length) : (l.take (k + 1)).flatMap funcOf = (l.take k).flatMap funcOf ++ funcOf l[k] := by
  rw [List.take_succ_eq_append_getElem h, List.flatMap_append]; simp
end Go.Pv

/- Funcs on both sides. -/
namespace Go.Pv
open Go.Proofs
set_option linter.unusedVariables false
set_option linter.unusedSimpArgs false
set_option maxRecDepth 100000
set_option maxHeartbeats 1000000
theorem encE (x : Nd) : enc x = encU x := enc_eq x
theorem inc' {i : Nat} (h : i ≤ 1000000000) : IntKind.i64.wrap ((i : Int) + 1) = ((i + 1 : Nat) : Int) := by rw [wrap_i64 (by omega) (by omega)]; omega
@[reducible] def fenv (v : SV) (x : Nd) (i : Nat) : List (Nat × SV) := [(3, v), (7, .av (.pv (.vec .any (x.l.map enc)))), (8, .av (.pv (.lit (.int .i64 ((x.l.map enc).length : Nat))))), (9, .av (.pv (.lit (.int .i64 (i : Nat)))))]
theorem funcs_c (x : Nd) (hx : x.size ≤ 1000000) (s : St) : PCalls Try.prog 11 [encU x] s (fun r s' => s' = s ∧ r = .ret (.vec .any ((x.l.flatMap funcOf).map fun b => .lit (.string b)))) := by
  refine PCalls.funO (D := []) ti_ok Try.func11 rfl (by kernel_rfl) rfl ?_
  have hn := x.len_lt
  refine sw_loop (D := []) ti_ok (by kernel_rfl) (fun n env st b => ∃ (i : Nat) (L : List ByteArray), i + n = x.l.length ∧ L = (x.l.take i).flatMap funcOf ∧ b = s ∧ ((L = [] ∧ env = fenv (.av (.pv (.vec .nil []))) x i ∧ st = []) ∨ (L ≠ [] ∧ env = fenv (.av (.own 0)) x i ∧ st = [some (.lst 9 1 (rowS L))]))) x.l.length ⟨[], [3, 7, 8, 9], rfl, 0, [], by omega, by simp, rfl, .inl ⟨rfl, rfl, rfl⟩⟩ ?_
  rintro n env st b ⟨i, L, hi, hL, rfl, ⟨hL0, rfl, rfl⟩ | ⟨hL0, rfl, rfl⟩⟩
  · rintro (_ | _) ht
    · rw [List.length_map] at ht
      have hle : x.l.length ≤ i := by have := of_decide_eq_false ht; omega
      rw [List.take_of_length_le hle] at hL
      exact ⟨rfl, by rw [← hL, hL0]; rfl⟩
    rw [List.length_map] at ht
    have hlt : i < x.l.length := by have := of_decide_eq_true ht; omega
    have hg := List.getElem?_eq_getElem hlt
    have htk := funcs_take hlt
    have hfl := funcs_len (x.l.take i)
    rw [List.length_take, ← hL] at hfl
    obtain ⟨f, hf⟩ : ∃ f, x.l[i] = f := ⟨_, rfl⟩
    rw [hf] at hg htk
    refine ⟨encU f, ⟨by omega, by rw [Int.toNat_natCast, List.getElem?_map, hg]; exact congrArg some (encE f), rfl⟩, ?_⟩
    rintro (_ | _) h2
    · have h2 := of_decide_eq_false h2
      exact ⟨n - 1, by omega, [], [3, 7, 8, 9], rfl, i + 1, L, by omega, by rw [htk, show funcOf f = [] by unfold funcOf; split <;> simp [h2], List.append_nil, hL], rfl, .inl ⟨hL0, by unfold fenv; rw [← inc' (show i ≤ 1000000000 by omega)]; rfl, rfl⟩⟩
    have h2 := of_decide_eq_true h2
    rintro (_ | _) h1
    · rw [List.length_map] at h1
      have h1 := of_decide_eq_false h1
      exact ⟨n - 1, by omega, [], [3, 7, 8, 9], rfl, i + 1, L, by omega, by rw [htk, show funcOf f = [] by unfold funcOf; rw [List.getElem?_eq_none (by omega)], List.append_nil, hL], rfl, .inl ⟨hL0, by unfold fenv; rw [← inc' (show i ≤ 1000000000 by omega)]; rfl, rfl⟩⟩
    rw [List.length_map] at h1
    have h1 := of_decide_eq_true h1
    obtain ⟨g, hgx⟩ : ∃ g, f.l[1]? = some g := ⟨_, List.getElem?_eq_getElem (by omega)⟩
    refine ⟨encU g, ⟨by omega, by rw [show (1 : Int).toNat = 1 from rfl, List.getElem?_map, hgx]; exact congrArg some (encE g), rfl⟩, ?_⟩
    rintro (_ | _) h5
    · have h5 := of_decide_eq_false h5
      exact ⟨n - 1, by omega, [], [3, 7, 8, 9], rfl, i + 1, L, by omega, by rw [htk, show funcOf f = [] by unfold funcOf; rw [hgx]; simp [h5], List.append_nil, hL], rfl, .inl ⟨hL0, by unfold fenv; rw [← inc' (show i ≤ 1000000000 by omega)]; rfl, rfl⟩⟩
    have h5 := of_decide_eq_true h5
    refine ⟨encU g, ⟨by omega, by rw [show (1 : Int).toNat = 1 from rfl, List.getElem?_map, hgx]; exact congrArg some (encE g), rfl⟩, ?_⟩
    refine ⟨[[.lit (.string g.s)]], rfl, by simp, ?_⟩
    refine ⟨n - 1, by omega, [1], [3, 7, 8, 9], rfl, i + 1, [g.s], by omega, by rw [htk, show funcOf f = [g.s] by simp [funcOf, hgx, h2, h5], ← hL, hL0]; rfl, rfl, .inr ⟨by simp, by unfold fenv; rw [← inc' (show i ≤ 1000000000 by omega)]; rfl, rfl⟩⟩
  · rintro (_ | _) ht
    · rw [List.length_map] at ht
      have hle : x.l.length ≤ i := by have := of_decide_eq_false ht; omega
      rw [List.take_of_length_le hle] at hL
      exact ⟨L.map fun b => .lit (.string b), by rw [List.map_map]; rfl, rfl, by rw [hL]⟩
    rw [List.length_map] at ht
    have hlt : i < x.l.length := by have := of_decide_eq_true ht; omega
    have hg := List.getElem?_eq_getElem hlt
    have htk := funcs_take hlt
    have hfl := funcs_len (x.l.take i)
    rw [List.length_take, ← hL] at hfl
    obtain ⟨f, hf⟩ : ∃ f, x.l[i] = f := ⟨_, rfl⟩
    rw [hf] at hg htk
    refine ⟨encU f, ⟨by omega, by rw [Int.toNat_natCast, List.getElem?_map, hg]; exact congrArg some (encE f), rfl⟩, ?_⟩
    rintro (_ | _) h2
    · have h2 := of_decide_eq_false h2
      exact ⟨n - 1, by omega, [0], [3, 7, 8, 9], rfl, i + 1, L, by omega, by rw [htk, show funcOf f = [] by unfold funcOf; split <;> simp [h2], List.append_nil, hL], rfl, .inr ⟨hL0, by unfold fenv; rw [← inc' (show i ≤ 1000000000 by omega)]; rfl, rfl⟩⟩
    have h2 := of_decide_eq_true h2
    rintro (_ | _) h1
    · rw [List.length_map] at h1
      have h1 := of_decide_eq_false h1
      exact ⟨n - 1, by omega, [0], [3, 7, 8, 9], rfl, i + 1, L, by omega, by rw [htk, show funcOf f = [] by unfold funcOf; rw [List.getElem?_eq_none (by omega)], List.append_nil, hL], rfl, .inr ⟨hL0, by unfold fenv; rw [← inc' (show i ≤ 1000000000 by omega)]; rfl, rfl⟩⟩
    rw [List.length_map] at h1
    have h1 := of_decide_eq_true h1
    obtain ⟨g, hgx⟩ : ∃ g, f.l[1]? = some g := ⟨_, List.getElem?_eq_getElem (by omega)⟩
    refine ⟨encU g, ⟨by omega, by rw [show (1 : Int).toNat = 1 from rfl, List.getElem?_map, hgx]; exact congrArg some (encE g), rfl⟩, ?_⟩
    rintro (_ | _) h5
    · have h5 := of_decide_eq_false h5
      exact ⟨n - 1, by omega, [0], [3, 7, 8, 9], rfl, i + 1, L, by omega, by rw [htk, show funcOf f = [] by unfold funcOf; rw [hgx]; simp [h5], List.append_nil, hL], rfl, .inr ⟨hL0, by unfold fenv; rw [← inc' (show i ≤ 1000000000 by omega)]; rfl, rfl⟩⟩
    have h5 := of_decide_eq_true h5
    refine ⟨encU g, ⟨by omega, by rw [show (1 : Int).toNat = 1 from rfl, List.getElem?_map, hgx]; exact congrArg some (encE g), rfl⟩, ?_⟩
    refine ⟨[[.lit (.string g.s)]], rfl, by simp; omega, ?_⟩
    refine ⟨n - 1, by omega, [2], [3, 7, 8, 9], rfl, i + 1, L ++ [g.s], by omega, by rw [htk, show funcOf f = [g.s] by simp [funcOf, hgx, h2, h5], ← hL], rfl, .inr ⟨by simp, by unfold fenv; rw [← inc' (show i ≤ 1000000000 by omega)]; rfl, by rw [← rowS_snoc]; rfl⟩⟩
@[reducible] def nodeLoc (x : Nd) : Option Loc := some (.cel 24 6 ((encC x).map .pv))
@[reducible] def genv (v : SV) (i : Nat) : List (Nat × SV) := [(1, .av (.cell 0 0)), (3, v), (4, .av (.pv (.lit (.int .i64 (i : Nat)))))]
theorem rfuncs_c (x : Nd) (hx : x.size ≤ 1000000) (s : St) : PCalls Try.prog 12 [encU x] s (fun r s' => s' = s ∧ r = .ret (.vec .any ((x.l.flatMap funcOf).map fun b => .lit (.string b)))) := by
  refine PCalls.funO (D := []) ti_ok Try.func12 rfl (by kernel_rfl) rfl ?_
  have hn := x.len_lt
  refine sw_loop (D := []) ti_ok (by kernel_rfl) (fun n env st b => ∃ (i : Nat) (L : List ByteArray), i + n = x.l.length ∧ L = (x.l.take i).flatMap funcOf ∧ b = s ∧ ((L = [] ∧ env = genv (.av (.pv (.vec .nil []))) i ∧ st = [nodeLoc x]) ∨ (L ≠ [] ∧ env = genv (.av (.own 1)) i ∧ st = [nodeLoc x, some (.lst 9 1 (rowS L))]))) x.l.length ⟨[0], [1, 3, 4], rfl, 0, [], by omega, by simp, rfl, .inl ⟨rfl, rfl, rfl⟩⟩ ?_
  rintro n env st b ⟨i, L, hi, hL, rfl, ⟨hL0, rfl, rfl⟩ | ⟨hL0, rfl, rfl⟩⟩
  · rintro (_ | _) ht
    · rw [List.length_map] at ht
      have hle : x.l.length ≤ i := by have := of_decide_eq_false ht; omega
      rw [List.take_of_length_le hle] at hL
      exact ⟨rfl, by rw [← hL, hL0]; rfl⟩
    rw [List.length_map] at ht
    have hlt : i < x.l.length := by have := of_decide_eq_true ht; omega
    have hg := List.getElem?_eq_getElem hlt
    have htk := funcs_take hlt
    have hfl := funcs_len (x.l.take i)
    rw [List.length_take, ← hL] at hfl
    obtain ⟨f, hf⟩ : ∃ f, x.l[i] = f := ⟨_, rfl⟩
    rw [hf] at hg htk
    refine ⟨encU f, ⟨by omega, by rw [Int.toNat_natCast, List.getElem?_map, hg]; exact congrArg some (encE f), rfl⟩, ?_⟩
    rintro (_ | _) h2
    · have h2 := of_decide_eq_false h2
      exact ⟨n - 1, by omega, [0], [1, 3, 4], rfl, i + 1, L, by omega, by rw [htk, show funcOf f = [] by unfold funcOf; split <;> simp [h2], List.append_nil, hL], rfl, .inl ⟨hL0, by unfold genv; rw [← inc' (show i ≤ 1000000000 by omega)]; rfl, rfl⟩⟩
    have h2 := of_decide_eq_true h2
    rintro (_ | _) h1
    · rw [List.length_map] at h1
      have h1 := of_decide_eq_false h1
      exact ⟨n - 1, by omega, [0], [1, 3, 4], rfl, i + 1, L, by omega, by rw [htk, show funcOf f = [] by unfold funcOf; rw [List.getElem?_eq_none (by omega)], List.append_nil, hL], rfl, .inl ⟨hL0, by unfold genv; rw [← inc' (show i ≤ 1000000000 by omega)]; rfl, rfl⟩⟩
    rw [List.length_map] at h1
    have h1 := of_decide_eq_true h1
    obtain ⟨g, hgx⟩ : ∃ g, f.l[1]? = some g := ⟨_, List.getElem?_eq_getElem (by omega)⟩
    refine ⟨encU g, ⟨by omega, by rw [show (1 : Int).toNat = 1 from rfl, List.getElem?_map, hgx]; exact congrArg some (encE g), rfl⟩, ?_⟩
    rintro (_ | _) h5
    · have h5 := of_decide_eq_false h5
      exact ⟨n - 1, by omega, [0], [1, 3, 4], rfl, i + 1, L, by omega, by rw [htk, show funcOf f = [] by unfold funcOf; rw [hgx]; simp [h5], List.append_nil, hL], rfl, .inl ⟨hL0, by unfold genv; rw [← inc' (show i ≤ 1000000000 by omega)]; rfl, rfl⟩⟩
    have h5 := of_decide_eq_true h5
    refine ⟨encU g, ⟨by omega, by rw [show (1 : Int).toNat = 1 from rfl, List.getElem?_map, hgx]; exact congrArg some (encE g), rfl⟩, ?_⟩
    refine ⟨[[.lit (.string g.s)]], rfl, by simp, ?_⟩
    refine ⟨n - 1, by omega, [0, 2], [1, 3, 4], rfl, i + 1, [g.s], by omega, by rw [htk, show funcOf f = [g.s] by simp [funcOf, hgx, h2, h5], ← hL, hL0]; rfl, rfl, .inr ⟨by simp, by unfold genv; rw [← inc' (show i ≤ 1000000000 by omega)]; rfl, rfl⟩⟩
  · rintro (_ | _) ht
    · rw [List.length_map] at ht
      have hle : x.l.length ≤ i := by have := of_decide_eq_false ht; omega
      rw [List.take_of_length_le hle] at hL
      exact ⟨L.map fun b => .lit (.string b), by rw [List.map_map]; rfl, rfl, by rw [hL]⟩
    rw [List.length_map] at ht
    have hlt : i < x.l.length := by have := of_decide_eq_true ht; omega
    have hg := List.getElem?_eq_getElem hlt
    have htk := funcs_take hlt
    have hfl := funcs_len (x.l.take i)
    rw [List.length_take, ← hL] at hfl
    obtain ⟨f, hf⟩ : ∃ f, x.l[i] = f := ⟨_, rfl⟩
    rw [hf] at hg htk
    refine ⟨encU f, ⟨by omega, by rw [Int.toNat_natCast, List.getElem?_map, hg]; exact congrArg some (encE f), rfl⟩, ?_⟩
    rintro (_ | _) h2
    · have h2 := of_decide_eq_false h2
      exact ⟨n - 1, by omega, [0, 1], [1, 3, 4], rfl, i + 1, L, by omega, by rw [htk, show funcOf f = [] by unfold funcOf; split <;> simp [h2], List.append_nil, hL], rfl, .inr ⟨hL0, by unfold genv; rw [← inc' (show i ≤ 1000000000 by omega)]; rfl, rfl⟩⟩
    have h2 := of_decide_eq_true h2
    rintro (_ | _) h1
    · rw [List.length_map] at h1
      have h1 := of_decide_eq_false h1
      exact ⟨n - 1, by omega, [0, 1], [1, 3, 4], rfl, i + 1, L, by omega, by rw [htk, show funcOf f = [] by unfold funcOf; rw [List.getElem?_eq_none (by omega)], List.append_nil, hL], rfl, .inr ⟨hL0, by unfold genv; rw [← inc' (show i ≤ 1000000000 by omega)]; rfl, rfl⟩⟩
    rw [List.length_map] at h1
    have h1 := of_decide_eq_true h1
    obtain ⟨g, hgx⟩ : ∃ g, f.l[1]? = some g := ⟨_, List.getElem?_eq_getElem (by omega)⟩
    refine ⟨encU g, ⟨by omega, by rw [show (1 : Int).toNat = 1 from rfl, List.getElem?_map, hgx]; exact congrArg some (encE g), rfl⟩, ?_⟩
    rintro (_ | _) h5
    · have h5 := of_decide_eq_false h5
      exact ⟨n - 1, by omega, [0, 1], [1, 3, 4], rfl, i + 1, L, by omega, by rw [htk, show funcOf f = [] by unfold funcOf; rw [hgx]; simp [h5], List.append_nil, hL], rfl, .inr ⟨hL0, by unfold genv; rw [← inc' (show i ≤ 1000000000 by omega)]; rfl, rfl⟩⟩
    have h5 := of_decide_eq_true h5
    refine ⟨encU g, ⟨by omega, by rw [show (1 : Int).toNat = 1 from rfl, List.getElem?_map, hgx]; exact congrArg some (encE g), rfl⟩, ?_⟩
    refine ⟨[[.lit (.string g.s)]], rfl, by simp; omega, ?_⟩
    refine ⟨n - 1, by omega, [0, 3], [1, 3, 4], rfl, i + 1, L ++ [g.s], by omega, by rw [htk, show funcOf f = [g.s] by simp [funcOf, hgx, h2, h5], ← hL], rfl, .inr ⟨by simp, by unfold genv; rw [← inc' (show i ≤ 1000000000 by omega)]; rfl, by rw [← rowS_snoc]; rfl⟩⟩
end Go.Pv

/- The law of counts. -/
namespace Go.Pv
open Go.Proofs
set_option linter.unusedVariables false
set_option linter.unusedSimpArgs false
set_option maxRecDepth 100000
set_option maxHeartbeats 1000000
theorem eqstrs_c (k1 k2 : VK) (l : List ByteArray) (hl : l.length ≤ 1000000) (s : St) : PCalls Try.prog 10 [strsV k1 l, strsV k2 l] s (fun r s' => s' = s ∧ r = .ret (.lit (.bool true))) := by
  refine PCalls.of Try.func10 rfl (by rfl) (by simp [Try.ntmps10]) ?_
  refine pwC_sound _ _ _ _ ?_
  refine pwC_cut fun K hK => ?_
  simp [Try.ntmps10]
  refine hK _ _ ?_
  clear hK K
  refine pwC_cut fun K hK => ?_
  simp
  refine hK _ _ ?_
  clear hK K
  refine pwC_cut fun K hK => ?_
  simp
  refine PW.loop (fun n e s' => ∃ j : Nat, j + n = l.length ∧ e 0 = strsV k1 l ∧ e 1 = strsV k2 l ∧ e 5 = .lit (.int .i64 j) ∧ s' = s) l.length ⟨0, by omega, by simp, by simp, by simp, rfl⟩ ?_
  rintro n e s' ⟨j, hj, e0, e1, e5, rfl⟩
  refine pwC_sound _ _ _ _ ?_
  by_cases hlt : j < l.length
  · have hlt' : (j : Int) < l.length := by omega
    have hg : l[j]? = some l[j] := List.getElem?_eq_getElem hlt
    obtain ⟨x, hx⟩ : ∃ x, l[j] = x := ⟨_, rfl⟩
    rw [hx] at hg
    have w1 : IntKind.i64.wrap ((j : Int) + 1) = ((j + 1 : Nat) : Int) := by rw [wrap_i64 (by omega) (by omega)]; omega
    clear hK
    simp [e0, e1, e5, hlt, hlt']
    refine PW.drawn (fun i => 0) [0, 1, 2, 3, 4, 5, 6, 7, 8] mixed_ (fun _ _ _ _ h => h) (by kernel_rfl) ?_
    simp [e0, e1, e5, hlt, hlt', hg, hx, w1]
    exact ⟨n - 1, by omega, j + 1, by omega, by omega⟩
  · have hlt' : ¬ (j : Int) < l.length := by omega
    simp [e0, e1, e5, hlt, hlt']
    refine hK _ _ ?_
    clear hK K
    simp
/-- The names of a tree, in order. -/
def namesV (x : Nd) : List ByteArray := (((namesD (walkN x [])).map fun x => x.1.data.toList).mergeSort leB).map fun l => ⟨l.toArray⟩
theorem namesV_len (x : Nd) : (namesV x).length ≤ x.size := by
  unfold namesV
  rw [List.length_map, (List.mergeSort_perm _ _).length_eq, List.length_map]
  have := namesD_len (walkN x [])
  rw [walkN_length] at this
  exact this
theorem strsB_V (x : Nd) {ss : List (List UInt8)} (hp : ss.Perm ((namesD (walkN x [])).map fun x => x.1.data.toList)) : strsB (ss.mergeSort fun x y => decide (x ≤ y)) = strsV .any (namesV x) := by
  rw [show (ss.mergeSort fun x y => decide (x ≤ y)) = ss.mergeSort leB from rfl, mergeSort_of_perm hp]
  unfold strsB strsV namesV
  rw [List.map_map]
  rfl
theorem namesQ_c (x : Nd) (hsz : x.size ≤ 1000000) (hG : Gd x) (s : St) : PCalls Try.prog 13 [encU x] s (fun r s' => s' = s ∧ r = .ret (strsV .any (namesV x))) := by
  refine (names_c x hsz hG s).mono ?_
  rintro _ _ ⟨rfl, ss, hp, rfl⟩
  exact ⟨rfl, by rw [strsB_V x hp]⟩
theorem rnamesQ_c (x : Nd) (hsz : x.size ≤ 1000000) (s : St) : PCalls Try.prog 14 [encU x] s (fun r s' => s' = s ∧ r = .ret (strsV .any (namesV x))) := by
  refine (rnames_c x hsz s).mono ?_
  rintro _ _ ⟨rfl, L, h2, h3, rfl⟩
  exact ⟨rfl, by rw [← names_same x (List.Perm.refl _) h2 h3, strsB_V x (List.Perm.refl _)]⟩
theorem q1 {P : Program} {f : FuncId} {σ : Nat → Nat} {st : SS} {ps qs : List PV} {v : PV} (h : ∀ s, PCalls P f ps s fun r s' => s' = s ∧ r = .ret v) (hl : ps.all PV.live = true) (hA : All2 (SVR σ st) (pvs ps) qs) (s : St) : PCalls P f qs s fun r s' => s' = s ∧ r = .ret v := by
  rw [pvs_rel hl hA]; exact h s
theorem treeCounts_c (x : Nd) (hG : Gd x) (s : St) : PCalls Try.prog 3 [encU x] s (fun r s' => s' = s ∧ r = .ret (.lit (.bool true))) := by
  refine PCalls.fun (D := [(3, ([0, 1, 2, 3, 4, 5, 6, 7, 8, 9, 10, 11, 12, 13, 14, 15, 16, 17, 18, 19, 20, 21, 22, 23, 24, 25, 26, 27, 28, 29], [(1, 1), (3, 1), (7, 1), (9, 1), (14, 1), (16, 1), (17, 1), (21, 1), (23, 1), (24, 1), (27, 1)], []))]) ti_ok Try.func3 rfl (by kernel_rfl) ?_
  refine sc_pureR (R := fun v => ∃ b, v = .lit (.bool b) ∧ (b = false → x.size ≤ 3000)) (ps := [.vec .nil [], .vec .nil [], encU x]) (fun s _ => (heavy11_c .nil .nil [] [] (by simp) (by simp) x hG s).mono ?_) rfl rfl ?_
  · rintro _ _ ⟨rfl, b, rfl, hb⟩
    exact ⟨rfl, _, ⟨b, rfl, fun h => (hb h).2.2⟩, rfl⟩
  rintro _ ⟨b, rfl, hb⟩
  cases b with
  | true =>
    refine sc_pure (fun s _ => awake_c s) rfl rfl ?_
    exact ⟨rfl, rfl⟩
  | false =>
    have hx := hb rfl
    have hf : (x.l.flatMap funcOf).length ≤ 1000000 := by have := funcs_len x.l; have := x.len_lt; omega
    have hn := namesV_len x
    refine ⟨by kernel_rfl, ?_⟩
    refine ⟨_, fun σ s qs hR hA => q1 (ps := [encU x]) (fun s => size_c x (by omega) s) rfl hA s, ?_⟩
    refine ⟨_, fun σ s qs hR hA => q1 (ps := [encU x]) (fun s => rsize_c x (by omega) s) rfl hA s, ?_⟩
    rintro (_ | _) h1
    · exact absurd rfl (of_decide_eq_false h1)
    refine ⟨_, fun σ s qs hR hA => q1 (ps := [encU x]) (fun s => plevels_c x (by omega) s) rfl hA s, ?_⟩
    refine ⟨_, fun σ s qs hR hA => q1 (ps := [encU x]) (fun s => rLevels_c x (by omega) s) rfl hA s, ?_⟩
    rintro (_ | _) h2
    · exact absurd rfl (of_decide_eq_false h2)
    refine ⟨_, fun σ s qs hR hA => q1 (ps := [encU x]) (fun s => funcs_c x (by omega) s) rfl hA s, ?_⟩
    refine ⟨_, fun σ s qs hR hA => q1 (ps := [encU x]) (fun s => rfuncs_c x (by omega) s) rfl hA s, ?_⟩
    refine ⟨_, fun σ s qs hR hA => q1 (ps := [strsV .any (x.l.flatMap funcOf), strsV .any (x.l.flatMap funcOf)]) (fun s => eqstrs_c _ _ _ hf s) rfl hA s, ?_⟩
    refine ⟨_, fun σ s qs hR hA => q1 (ps := [encU x]) (fun s => namesQ_c x (by omega) hG s) rfl hA s, ?_⟩
    refine ⟨_, fun σ s qs hR hA => q1 (ps := [encU x]) (fun s => rnamesQ_c x (by omega) s) rfl hA s, ?_⟩
    refine ⟨_, fun σ s qs hR hA => q1 (ps := [strsV .any (namesV x), strsV .any (namesV x)]) (fun s => eqstrs_c _ _ _ (by omega) s) rfl hA s, ?_⟩
    refine ⟨_, fun σ s qs hR hA => q1 (ps := []) (fun s => awake_c s) rfl hA s, ?_⟩
    exact ⟨rfl, rfl⟩
end Go.Pv

/- How trees, tokens and numbers read as plain data. -/
namespace Go.Pv
open Go.Proofs Go.RowKit Go.ChangeShapes Go.WideShapes
set_option linter.unusedVariables false
set_option linter.unusedSimpArgs false
set_option maxRecDepth 100000
def I64 (n : Int) : Prop := -9223372036854775808 ≤ n ∧ n ≤ 9223372036854775807
theorem wf_i64 {n : Int} (h : (Lit.int .i64 n).wf = true) : I64 n := by
  simp only [Lit.wf, Bool.and_eq_true, decide_eq_true_eq] at h
  have h1 : IntKind.i64.min = -9223372036854775808 := by decide
  have h2 : IntKind.i64.max = 9223372036854775807 := by decide
  rw [h1, h2] at h
  exact h
/-- Its own numbers are ints. -/
def Nd.ints (x : Nd) : Prop := I64 x.op ∧ I64 x.n ∧ I64 x.fr ∧ I64 x.to
def Gi (x : Nd) : Prop := ∀ p y, atN x p = some y → y.ints
theorem gd_mk {x : Nd} (h1 : x.l.length ≤ 2 ^ 63 - 1) (h2 : x.s.size ≤ 2 ^ 63 - 1) (h : ∀ y ∈ x.l, Gd y) : Gd x := by
  intro p y hy
  cases p with
  | nil => cases hy; exact ⟨h1, h2⟩
  | cons i p =>
    unfold atN at hy
    split at hy
    · split at hy
      · rename_i z hz; exact h z (List.mem_of_getElem? hz) p y hy
      · cases hy
    · cases hy
theorem gi_mk {x : Nd} (h1 : x.ints) (h : ∀ y ∈ x.l, Gi y) : Gi x := by
  intro p y hy
  cases p with
  | nil => cases hy; exact h1
  | cons i p =>
    unfold atN at hy
    split at hy
    · split at hy
      · rename_i z hz; exact h z (List.mem_of_getElem? hz) p y hy
      · cases hy
    · cases hy
instance : Inhabited Nd := ⟨⟨0, ⟨#[]⟩, 0, 0, 0, []⟩⟩
section
variable {H : Type} {enc' : TypeId × Value → H} {w : World} {base : Nat} {spare : Nat → Bool} {held : Bool}
theorem open_nodeC : ∀ (fuel : Nat) (cs : List Value) (x : DataW H × List MemPlace), DataW.trod enc' Try.prog w base spare held fuel 24 cs = some x → ∃ y : Nd, CRd w (enc y) cs ∧ (Gd y ∧ Gi y) := by
  intro fuel
  induction fuel using Nat.strongRecOn with
  | _ fuel ih =>
  intro cs x h
  obtain ⟨xs, n, rfl, _, hlen, _, hf⟩ := DataW.trod_struct Try.underlying24 h
  have hl6 : cs.length = 6 := hlen.trans (by kernel_rfl)
  match cs, hl6 with
  | [c0, c1, c2, c3, c4, c5], _ =>
    have g0 : DataW.trod enc' Try.prog w base spare held n 3 [c0] = xs[0]? := hf 0 _ rfl
    have g1 : DataW.trod enc' Try.prog w base spare held n 9 [c1] = xs[1]? := hf 1 _ rfl
    have g2 : DataW.trod enc' Try.prog w base spare held n 3 [c2] = xs[2]? := hf 2 _ rfl
    have g3 : DataW.trod enc' Try.prog w base spare held n 3 [c3] = xs[3]? := hf 3 _ rfl
    have g4 : DataW.trod enc' Try.prog w base spare held n 3 [c4] = xs[4]? := hf 4 _ rfl
    have g5 : DataW.trod enc' Try.prog w base spare held n 22 [c5] = xs[5]? := hf 5 _ rfl
    have hx : xs.length = 6 := by assumption
    rw [List.getElem?_eq_getElem (by omega)] at g0 g1 g2 g3 g4 g5
    obtain ⟨a0, e0, v0, w0⟩ := int_cr Try.underlying3 g0
    obtain ⟨a1, e1, v1, w1⟩ := str_cr Try.underlying9 g1
    obtain ⟨a2, e2, v2, w2⟩ := int_cr Try.underlying3 g2
    obtain ⟨a3, e3, v3, w3⟩ := int_cr Try.underlying3 g3
    obtain ⟨a4, e4, v4, w4⟩ := int_cr Try.underlying3 g4
    obtain ⟨u5, l, e5, v5, o5, hlm, hG⟩ := rows_cr (sz := 6) enc (fun y => Gd y ∧ Gi y) (fun x => by simp) Try.underlying22 (by kernel_rfl) (fun m hm => ih m (by omega)) g5
    simp only [List.cons.injEq, and_true] at e0 e1 e2 e3 e4 e5
    subst e0 e1 e2 e3 e4 e5
    refine ⟨⟨a0, a1, a2, a3, a4, l⟩, ?_, gd_mk hlm w1 (fun y hy => (hG y hy).1), gi_mk ⟨wf_i64 w0, wf_i64 w2, wf_i64 w3, wf_i64 w4⟩ (fun y hy => (hG y hy).2)⟩
    rw [enc_eq]
    exact .cons v0 rfl (.cons v1 rfl (.cons v2 rfl (.cons v3 rfl (.cons v4 rfl (.cons v5 o5 .nil)))))
/-- A tree, as a value. -/
theorem open_nodeP {W : World} {v : Value} {d : DataW H} {p : List MemPlace} (hv : Value.okWide Try.prog W .any base 24 v) (h : DataW.Trod enc' Try.prog w 0 spare held 24 v d p) :
    ∃ x : Nd, VR w (g0 w) (encU x) v ∧ Gd x ∧ Gi x := by
  obtain ⟨cs, rfl, _⟩ := okWide_struct Try.underlying24 hv
  obtain ⟨fuel, hf⟩ := h
  obtain ⟨y, hK, hG⟩ := open_nodeC fuel _ _ hf
  rw [enc_eq] at hK
  refine ⟨y, ?_, hG⟩
  have := CRd.agg hK
  simpa [Value.cells] using this
end
end Go.Pv

/- The law of counts, as a row asks it. -/
namespace Go.Pv
open Go.Proofs
set_option linter.unusedVariables false
theorem treeCountsK_c (x : Nd) (hG : Gd x) (hI : Gi x) (s : St) : PCalls Try.prog 3 [encU x] s (fun r s' => s' = s ∧ r = .ret (.lit (.bool true))) := treeCounts_c x hG s
end Go.Pv
