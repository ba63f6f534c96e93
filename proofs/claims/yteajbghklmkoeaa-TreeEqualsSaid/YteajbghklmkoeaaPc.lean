/- Plain facts: trees without parentheses, alike trees, equal trees. -/
import Derived.Test.YteajbghklmkoeaaPb
import Derived.Test.YteajbghklmkoeaaTrf45
import Derived.Test.YteajbghklmkoeaaTrf47
import Derived.Test.YteajbghklmkoeaaTrf16
import Derived.Laws.Strings
namespace Go.Proofs.Yteajbghklmkoeaa.Tr
open Go.RowKit Go.Proofs.YteajbghklmkoeaaW.PrintWords
set_option linter.unusedVariables false
set_option linter.unusedSimpArgs false

def tup (x : S24) : Int × ByteArray × Int × Int × Int × (List S24) := (x.f0, x.f1, x.f2, x.f3, x.f4, x.f5)
def untup (t : Int × ByteArray × Int × Int × Int × (List S24)) : S24 := ⟨t.1, t.2.1, t.2.2.1, t.2.2.2.1, t.2.2.2.2.1, t.2.2.2.2.2⟩
theorem untup_tup (x : S24) : untup (tup x) = x := by cases x; rfl
theorem bytes_eq {a b : ByteArray} : a.toList = b.toList ↔ a = b := by
  constructor
  · intro h
    rw [ByteArray.toList_eq, ByteArray.toList_eq] at h
    have := Array.ext' h
    cases a; cases b
    simp_all
  · rintro rfl; rfl
def LightN (n : Nat) (x : S24) : Prop := GoodN n x ∧ SmallN n x
theorem SmallN.up : ∀ {n : Nat} {x : S24}, GoodN n x → SmallN n x → SmallN (n + 1) x
  | 0, _, h, _ => h.elim
  | n + 1, x, h, k => ⟨k.1, fun y hy => SmallN.up (h.2.2.2.2.2.2 y hy) (k.2 y hy)⟩
theorem LightN.up {n : Nat} {x : S24} (h : LightN n x) : LightN (n + 1) x := ⟨h.1.up, SmallN.up h.1 h.2⟩
theorem LightN.kids {n : Nat} {x : S24} (h : LightN (n + 1) x) : ∀ y ∈ x.f5, LightN n y := fun y hy => ⟨h.1.2.2.2.2.2.2 y hy, h.2.2 y hy⟩
theorem LightN.len {n : Nat} {x : S24} (h : LightN (n + 1) x) : x.f5.length ≤ 3000 := h.2.1

/-! #### bare -/
def bareN : Nat → S24 → S24
  | 0, x => x
  | n + 1, x => if x.f0 = 54 then (if x.f5.length = 1 then bareN n (rd_T24 x.f5 0) else x) else x
theorem rd0_mem {l : List S24} (h : l.length = 1) : rd_T24 l 0 ∈ l := rd_mem (l := l) (i := 0) (by omega)
theorem bareN_light : ∀ {n : Nat} {x : S24}, LightN n x → LightN n (bareN n x)
  | 0, _, h => h
  | n + 1, x, h => by
    unfold bareN
    split
    · split
      · rename_i h1
        exact (bareN_light (h.kids _ (rd0_mem h1))).up
      · exact h
    · exact h
theorem bare_ev : ∀ (n : Nat) (x : S24), GoodN n x → Ev (fun k => tree_bare.l0 k x.f0 x.f1 x.f2 x.f3 x.f4 x.f5) (tup (bareN n x))
  | 0, _, h => h.elim
  | n + 1, x, h => by
    by_cases h0 : x.f0 = 54
    · by_cases h1 : x.f5.length = 1
      · have ih := bare_ev n (rd_T24 x.f5 0) (h.2.2.2.2.2.2 _ (rd0_mem h1))
        have e : bareN (n + 1) x = bareN n (rd_T24 x.f5 0) := by simp only [bareN, if_pos h0, if_pos h1]
        rw [e]
        refine Ev.step (fun k => ?_) ih
        simp only [tree_bare.l0, if_pos h0, if_pos (show (x.f5.length : Int) = 1 by omega), if_pos (show (0 : Int) < (x.f5.length : Int) by omega)]
      · have e : bareN (n + 1) x = x := by simp only [bareN, if_pos h0, if_neg h1]
        rw [e]
        refine Ev.step (f := fun _ => some (tup x)) (fun k => ?_) (Ev.now _)
        simp only [tree_bare.l0, if_pos h0, if_neg (show ¬ (x.f5.length : Int) = 1 by omega)]
        rfl
    · have e : bareN (n + 1) x = x := by simp only [bareN, if_neg h0]
      rw [e]
      refine Ev.step (f := fun _ => some (tup x)) (fun k => ?_) (Ev.now _)
      simp only [tree_bare.l0, if_neg h0]
      rfl
theorem bare_f (n : Nat) (x : S24) (h : GoodN n x) : Ev (fun k => tree_bare.f k x.f0 x.f1 x.f2 x.f3 x.f4 x.f5) (tup (bareN n x)) := bare_ev n x h
/-! #### plain -/
def plainN : Nat → S24 → S24
  | 0, x => x
  | n + 1, x => ⟨(bareN (n + 1) x).f0, (bareN (n + 1) x).f1, (bareN (n + 1) x).f2, 0, 0, (bareN (n + 1) x).f5.map (plainN n)⟩
def mix (P : S24 → S24) (l : List S24) (i : Nat) : List S24 := (l.take i).map P ++ l.drop i
theorem mix_len (P : S24 → S24) (l : List S24) (i : Nat) (h : i ≤ l.length) : (mix P l i).length = l.length := by
  unfold mix
  simp only [List.length_append, List.length_map, List.length_take, List.length_drop]
  omega
theorem mix_get (P : S24 → S24) (l : List S24) (i : Nat) (h : i < l.length) : rd_T24 (mix P l i) (i : Int) = rd_T24 l (i : Int) := by
  unfold rd_T24 mix
  simp only [Int.toNat_natCast, List.getD_eq_getElem?_getD]
  rw [List.getElem?_append_right (by simp; omega)]
  simp only [List.length_map, List.length_take, List.getElem?_drop]
  congr 2
  omega
theorem rd_get {l : List S24} {i : Nat} (h : i < l.length) : rd_T24 l (i : Int) = l[i] := by
  unfold rd_T24
  simp only [Int.toNat_natCast, List.getD_eq_getElem?_getD, List.getElem?_eq_getElem h, Option.getD_some]
theorem mix_set (P : S24 → S24) (l : List S24) (i : Nat) (h : i < l.length) : (mix P l i).set (i : Int).toNat (P (rd_T24 l (i : Int))) = mix P l (i + 1) := by
  rw [rd_get h]
  unfold mix
  simp only [Int.toNat_natCast]
  rw [List.set_append_right _ _ (by simp; omega)]
  have h1 : i - ((l.take i).map P).length = 0 := by simp; omega
  rw [h1, List.drop_eq_getElem_cons h, List.set_cons_zero, List.take_succ_eq_append_getElem h, List.map_append, List.append_assoc]
  rfl
theorem plain_ev : ∀ (n : Nat) (x : S24), LightN n x → Ev (fun k => tree_Plain.f k x.f0 x.f1 x.f2 x.f3 x.f4 x.f5) (tup (plainN n x))
  | 0, _, h => h.1.elim
  | n + 1, x, h => by
    have hb := bareN_light h
    generalize hy : bareN (n + 1) x = b at hb
    have hlen := hb.len
    have e : plainN (n + 1) x = ⟨b.f0, b.f1, b.f2, 0, 0, b.f5.map (plainN n)⟩ := by simp only [plainN, hy]
    rw [e]
    refine Ev.step (f := fun k => (tree_bare.f k x.f0 x.f1 x.f2 x.f3 x.f4 x.f5).bind fun bt => (api_Node_48.f bt.2.2.2.2.2).bind fun t => tree_Plain.l0 k (t.length : Int) 0 bt.1 bt.2.1 bt.2.2.1 0 0 t) (fun k => by simp only [tree_Plain.f]) ?_
    have hbf := bare_f (n + 1) x h.1
    rw [hy] at hbf
    refine Ev.bind hbf ?_
    have hc : api_Node_48.f b.f5 = some b.f5 := by
      unfold api_Node_48.f
      simp only [Option.bind_some, List.length_nil, Nat.zero_add, List.nil_append]
      rw [if_pos (by omega)]
    refine Ev.bind (g := fun _ => api_Node_48.f b.f5) (a := b.f5) ⟨0, fun _ _ => hc⟩ ?_
    have hm : b.f5.length ≤ maxLen := by unfold maxLen; omega
    have := to_loop (g := fun k (s : List S24) i => tree_Plain.l0 k (b.f5.length : Int) i b.f0 b.f1 b.f2 0 0 s) b.f5.length (fun i s => s = mix (plainN n) b.f5 i) (fun i s r => r = tup ⟨b.f0, b.f1, b.f2, 0, 0, b.f5.map (plainN n)⟩)
      (fun s hs => by
        refine To.step (f := fun _ => some (tup ⟨b.f0, b.f1, b.f2, 0, 0, s⟩)) (fun k => by simp only [tree_Plain.l0, if_neg (Int.lt_irrefl _)]; rfl) (To.now _ ?_)
        rw [hs]
        simp [mix])
      (fun s i hi hs hk => by
        have hkid := hb.kids _ (rd_mem hi)
        have ih := plain_ev n _ hkid
        have hsl : s.length = b.f5.length := by rw [hs, mix_len _ _ _ (by omega)]
        have hget : rd_T24 s (i : Int) = rd_T24 b.f5 (i : Int) := by rw [hs, mix_get _ _ _ hi]
        refine To.step (f := fun k => (tree_Plain.f k (rd_T24 b.f5 i).f0 (rd_T24 b.f5 i).f1 (rd_T24 b.f5 i).f2 (rd_T24 b.f5 i).f3 (rd_T24 b.f5 i).f4 (rd_T24 b.f5 i).f5).bind fun bt => tree_Plain.l0 k (b.f5.length : Int) ((i : Int) + 1) b.f0 b.f1 b.f2 0 0 (s.set (i : Int).toNat (untup bt))) (fun k => ?_) (To.bind (To.ev ih) (fun t ht => ?_))
        · simp only [tree_Plain.l0, hsl, if_pos (show (i : Int) < (b.f5.length : Int) by omega), if_pos (show (0 : Int) ≤ (i : Int) by omega), hget, wrap_nat hi hm]
          rfl
        · subst ht
          refine hk _ ?_
          rw [untup_tup, hs, mix_set _ _ _ hi])
      b.f5.length 0 (by omega) (mix (plainN n) b.f5 0) rfl
    have h2 := To.is (by simpa using this)
    have h3 : mix (plainN n) b.f5 0 = b.f5 := by simp [mix]
    rw [h3] at h2
    exact h2
/-! #### equal -/
theorem eq_to : ∀ (n : Nat),
    (∀ x y : S24, GoodN n x → GoodN n y → To (fun k => smockingref00_EqNode.f k x.f0 x.f1 x.f2 x.f3 x.f4 x.f5 y.f0 y.f1 y.f2 y.f3 y.f4 y.f5 true) (fun r => r = true ↔ x = y)) ∧
    (∀ l m : List S24, (∀ y ∈ l, GoodN n y) → (∀ y ∈ m, GoodN n y) → l.length ≤ maxLen → m.length ≤ maxLen → To (fun k => smockingref00_EqNodes.f k l m true) (fun r => r = true ↔ l = m)) := by
  intro n
  induction n with
  | zero =>
    refine ⟨fun x y h => h.elim, fun l m hl hm h1 h2 => ?_⟩
    have e1 : l = [] := by cases l with | nil => rfl | cons x l => exact (hl x List.mem_cons_self).elim
    have e2 : m = [] := by cases m with | nil => rfl | cons x l => exact (hm x List.mem_cons_self).elim
    subst e1 e2
    refine To.step (f := fun k => smockingref00_EqNodes.l0 k [] [] true 0) (fun k => by simp only [smockingref00_EqNodes.f, if_true]) ?_
    exact To.step (f := fun _ => some true) (fun k => by simp [smockingref00_EqNodes.l0]) (To.now _ (by simp))
  | succ n ih =>
    have node : ∀ x y : S24, GoodN (n + 1) x → GoodN (n + 1) y → To (fun k => smockingref00_EqNode.f k x.f0 x.f1 x.f2 x.f3 x.f4 x.f5 y.f0 y.f1 y.f2 y.f3 y.f4 y.f5 true) (fun r => r = true ↔ x = y) := by
      intro x y hx hy
      have hl := ih.2 x.f5 y.f5 hx.2.2.2.2.2.2 hy.2.2.2.2.2.2 hx.2.2.2.2.2.1 hy.2.2.2.2.2.1
      refine To.step (f := fun k => if x.f0 = y.f0 then (if x.f1.toList = y.f1.toList then (if x.f2 = y.f2 then (if x.f3 = y.f3 then (if x.f4 = y.f4 then (smockingref00_EqNodes.f k x.f5 y.f5 true).bind fun t => some t else some false) else some false) else some false) else some false) else some false) (fun k => by simp only [smockingref00_EqNode.f, if_true]) ?_
      refine To.ite (fun h0 => To.ite (fun h1 => To.ite (fun h2 => To.ite (fun h3 => To.ite (fun h4 => To.bind hl (fun t ht => To.now _ ?_)) (fun h4 => To.now _ ?_)) (fun h3 => To.now _ ?_)) (fun h2 => To.now _ ?_)) (fun h1 => To.now _ ?_)) (fun h0 => To.now _ ?_)
      · have h1' := bytes_eq.1 h1
        rw [ht]
        cases x; cases y
        simp_all
      · exact ⟨(fun h => by cases h), fun h => absurd (congrArg S24.f4 h) h4⟩
      · exact ⟨(fun h => by cases h), fun h => absurd (congrArg S24.f3 h) h3⟩
      · exact ⟨(fun h => by cases h), fun h => absurd (congrArg S24.f2 h) h2⟩
      · exact ⟨(fun h => by cases h), fun h => absurd (congrArg (fun z : S24 => z.f1.toList) h) h1⟩
      · exact ⟨(fun h => by cases h), fun h => absurd (congrArg S24.f0 h) h0⟩
    refine ⟨node, fun l m hl hm h1 h2 => ?_⟩
    refine To.step (f := fun k => if (l.length : Int) = (m.length : Int) then smockingref00_EqNodes.l0 k l m true 0 else some false) (fun k => by simp only [smockingref00_EqNodes.f]) (To.ite (fun he => ?_) (fun he => To.now _ ⟨(fun h => by cases h), fun h => absurd (by rw [h]) he⟩))
    have he' : l.length = m.length := by omega
    have := to_loop (g := fun k (_ : Unit) i => smockingref00_EqNodes.l0 k l m true i) l.length (fun _ _ => True) (fun i _ r => r = true ↔ ∀ j : Nat, i ≤ j → j < l.length → rd_T24 l (j : Int) = rd_T24 m (j : Int))
      (fun _ _ => To.step (f := fun _ => some true) (fun k => by simp [smockingref00_EqNodes.l0]) (To.now _ ⟨fun _ j a b => by omega, fun _ => rfl⟩))
      (fun _ i hi _ hk => by
        have hg := node _ _ (good_rd hl hi) (good_rd hm (i := i) (by omega))
        refine To.step (f := fun k => (smockingref00_EqNode.f k (rd_T24 l i).f0 (rd_T24 l i).f1 (rd_T24 l i).f2 (rd_T24 l i).f3 (rd_T24 l i).f4 (rd_T24 l i).f5 (rd_T24 m i).f0 (rd_T24 m i).f1 (rd_T24 m i).f2 (rd_T24 m i).f3 (rd_T24 m i).f4 (rd_T24 m i).f5 true).bind fun t => if t = true then smockingref00_EqNodes.l0 k l m true ((i : Int) + 1) else some false) (fun k => ?_) (To.bind hg (fun t ht => To.ite (fun h => (hk () trivial).mono (fun r hr => ?_)) (fun h => To.now _ ?_)))
        · simp only [smockingref00_EqNodes.l0, if_pos (show (i : Int) < (l.length : Int) by omega), if_pos (show (i : Int) < (m.length : Int) by omega), if_pos (show (0 : Int) ≤ (i : Int) by omega), wrap_nat hi h1]
        · rw [hr]
          refine ⟨fun a j h3 h4 => ?_, fun a j h3 h4 => a j (by omega) h4⟩
          rcases Nat.eq_or_lt_of_le h3 with rfl | h3
          · exact ht.1 h
          · exact a j h3 h4
        · exact ⟨(fun a => by cases a), fun a => absurd (ht.2 (a i (Nat.le_refl _) hi)) h⟩)
      l.length 0 (by omega) () trivial
    refine To.mono this (fun r hr => Iff.trans hr ⟨fun h => List.ext_getElem he' (fun j a b => ?_), fun h j _ a => by rw [h]⟩)
    rw [← rd_get a, ← rd_get b]
    exact h j (Nat.zero_le _) a

/-! #### alike -/
theorem rd_map (P : S24 → S24) {l m : List S24} (he : l.length = m.length) : (∀ j : Nat, j < l.length → P (rd_T24 l (j : Int)) = P (rd_T24 m (j : Int))) ↔ l.map P = m.map P := by
  constructor
  · intro h
    refine List.ext_getElem (by simp [he]) (fun j a b => ?_)
    have hj : j < l.length := by simpa using a
    have := h j hj
    rw [rd_get hj, rd_get (by omega)] at this
    simpa using this
  · intro h j hj
    rw [rd_get hj, rd_get (by omega)]
    have h2 := congrArg (fun z => z[j]?) h
    simp only [List.getElem?_map, List.getElem?_eq_getElem hj, List.getElem?_eq_getElem (show j < m.length by omega), Option.map_some, Option.some.injEq] at h2
    exact h2
theorem alike_to : ∀ (n : Nat) (x y : S24), GoodN n x → GoodN n y → To (fun k => tree_Alike.f k x.f0 x.f1 x.f2 x.f3 x.f4 x.f5 y.f0 y.f1 y.f2 y.f3 y.f4 y.f5) (fun r => r = true ↔ plainN n x = plainN n y)
  | 0, _, _, h, _ => h.elim
  | n + 1, x, y, hx, hy => by
    have good_bare : ∀ {m : Nat} {z : S24}, GoodN m z → GoodN m (bareN m z) := by
      intro m
      induction m with
      | zero => intro z h; exact h
      | succ m ih =>
        intro z h
        unfold bareN
        split
        · split
          · rename_i h1
            exact (ih (h.2.2.2.2.2.2 _ (rd0_mem h1))).up
          · exact h
        · exact h
    have ha := good_bare hx
    have hb := good_bare hy
    have hax := bare_f (n + 1) x hx
    have hby := bare_f (n + 1) y hy
    have ep : (plainN (n + 1) x = plainN (n + 1) y) ↔ ((bareN (n + 1) x).f0 = (bareN (n + 1) y).f0 ∧ (bareN (n + 1) x).f1 = (bareN (n + 1) y).f1 ∧ (bareN (n + 1) x).f2 = (bareN (n + 1) y).f2 ∧ (bareN (n + 1) x).f5.map (plainN n) = (bareN (n + 1) y).f5.map (plainN n)) := by
      simp only [plainN]
      constructor
      · intro h
        injection h with a b c d e f
        exact ⟨a, b, c, f⟩
      · rintro ⟨a, b, c, d⟩
        rw [a, b, c, d]
    generalize bareN (n + 1) x = a at ha hax ep
    generalize bareN (n + 1) y = b at hb hby ep
    rw [ep]
    refine To.step (f := fun k => (tree_bare.f k x.f0 x.f1 x.f2 x.f3 x.f4 x.f5).bind fun bt126 => ((tree_bare.f k y.f0 y.f1 y.f2 y.f3 y.f4 y.f5).bind fun bt134 => (if (bt126.1 == bt134.1 && (bt126.2.2.1 == bt134.2.2.1 && ((bt126.2.2.2.2.2.length : Int) == (bt134.2.2.2.2.2.length : Int) && (bt126.2.1.toList == bt134.2.1.toList)))) = true then ((api_Node_45.f k bt126.2.2.2.2.2 bt134.2.2.2.2.2).bind fun t144 => (some t144)) else (some false)))) (fun k => by simp only [tree_Alike.f]) ?_
    refine To.bind (To.ev hax) (fun p hp => To.bind (To.ev hby) (fun q hq => ?_))
    subst hp hq
    have lists : a.f5.length = b.f5.length → To (fun k => api_Node_45.f k a.f5 b.f5) (fun r => r = true ↔ a.f5.map (plainN n) = b.f5.map (plainN n)) := by
      intro he
      refine To.step (f := fun k => api_Node_45.l0 k b.f5 a.f5 (a.f5.length : Int) 0) (fun k => by simp only [api_Node_45.f, if_pos (show (a.f5.length : Int) = (b.f5.length : Int) by omega)]) ?_
      have := to_loop (g := fun k (_ : Unit) i => api_Node_45.l0 k b.f5 a.f5 (a.f5.length : Int) i) a.f5.length (fun _ _ => True) (fun i _ r => r = true ↔ ∀ j : Nat, i ≤ j → j < a.f5.length → plainN n (rd_T24 a.f5 (j : Int)) = plainN n (rd_T24 b.f5 (j : Int)))
        (fun _ _ => To.step (f := fun _ => some true) (fun k => by simp [api_Node_45.l0]) (To.now _ ⟨fun _ j a b => by omega, fun _ => rfl⟩))
        (fun _ i hi _ hk => by
          have hg := alike_to n _ _ (good_rd ha.2.2.2.2.2.2 hi) (good_rd hb.2.2.2.2.2.2 (i := i) (by omega))
          refine To.step (f := fun k => (tree_Alike.f k (rd_T24 a.f5 i).f0 (rd_T24 a.f5 i).f1 (rd_T24 a.f5 i).f2 (rd_T24 a.f5 i).f3 (rd_T24 a.f5 i).f4 (rd_T24 a.f5 i).f5 (rd_T24 b.f5 i).f0 (rd_T24 b.f5 i).f1 (rd_T24 b.f5 i).f2 (rd_T24 b.f5 i).f3 (rd_T24 b.f5 i).f4 (rd_T24 b.f5 i).f5).bind fun t => if t = true then api_Node_45.l0 k b.f5 a.f5 (a.f5.length : Int) ((i : Int) + 1) else some false) (fun k => ?_) (To.bind hg (fun t ht => To.ite (fun h => (hk () trivial).mono (fun r hr => ?_)) (fun h => To.now _ ?_)))
          · simp only [api_Node_45.l0, if_pos (show (i : Int) < (a.f5.length : Int) by omega), if_pos (show (i : Int) < (b.f5.length : Int) by omega), if_pos (show (0 : Int) ≤ (i : Int) by omega), wrap_nat hi ha.2.2.2.2.2.1]
          · rw [hr]
            refine ⟨fun a j h3 h4 => ?_, fun a j h3 h4 => a j (by omega) h4⟩
            rcases Nat.eq_or_lt_of_le h3 with rfl | h3
            · exact ht.1 h
            · exact a j h3 h4
          · exact ⟨(fun a => by cases a), fun a => absurd (ht.2 (a i (Nat.le_refl _) hi)) h⟩)
        a.f5.length 0 (by omega) () trivial
      refine To.mono this (fun r hr => Iff.trans hr ?_)
      rw [← rd_map (plainN n) he]
      exact ⟨fun h j hj => h j (Nat.zero_le _) hj, fun h j _ hj => h j hj⟩
    refine To.ite (fun hc => ?_) (fun hc => To.now _ ⟨(fun h => by cases h), fun h => absurd ?_ hc⟩)
    · simp only [tup, Bool.and_eq_true, beq_iff_eq] at hc
      obtain ⟨h0, h2, h5, h1⟩ := hc
      have h1' := bytes_eq.1 h1
      refine To.bind (lists (by omega)) (fun t ht => To.now _ ?_)
      rw [ht]
      exact ⟨fun h => ⟨h0, h1', h2, h⟩, fun h => h.2.2.2⟩
    · obtain ⟨h0, h1, h2, h5⟩ := h
      have hl : a.f5.length = b.f5.length := by simpa using congrArg List.length h5
      simp [tup, h0, h1, h2, hl]
theorem good_plain : ∀ (n : Nat) (x : S24), LightN n x → GoodN n (plainN n x)
  | 0, _, h => h.1.elim
  | n + 1, x, h => by
    have hb := bareN_light h
    unfold plainN
    generalize bareN (n + 1) x = b at hb
    refine ⟨hb.1.1, hb.1.2.1, hb.1.2.2.1, (by show (Lit.int .i64 0).wf = true; decide), (by show (Lit.int .i64 0).wf = true; decide), by simpa using hb.1.2.2.2.2.2.1, fun y hy => ?_⟩
    obtain ⟨z, hz, rfl⟩ := List.mem_map.1 hy
    exact good_plain n z (hb.kids z hz)
theorem small_plain : ∀ (n : Nat) (x : S24), LightN n x → SmallN n (plainN n x)
  | 0, _, h => h.1.elim
  | n + 1, x, h => by
    have hb := bareN_light h
    unfold plainN
    generalize bareN (n + 1) x = b at hb
    refine ⟨by simpa using hb.len, fun y hy => ?_⟩
    obtain ⟨z, hz, rfl⟩ := List.mem_map.1 hy
    exact small_plain n z (hb.kids z hz)
theorem light_plain (n : Nat) (x : S24) (h : LightN n x) : LightN n (plainN n x) := ⟨good_plain n x h, small_plain n x h⟩
theorem bare_done : ∀ (n : Nat) (x : S24), GoodN n x → ¬ ((bareN n x).f0 = 54 ∧ (bareN n x).f5.length = 1)
  | 0, _, h => h.elim
  | n + 1, x, h => by
    unfold bareN
    by_cases h0 : x.f0 = 54
    · rw [if_pos h0]
      by_cases h1 : x.f5.length = 1
      · rw [if_pos h1]
        exact bare_done n _ (h.2.2.2.2.2.2 _ (rd0_mem h1))
      · rw [if_neg h1]
        exact fun e => h1 e.2
    · rw [if_neg h0]
      exact fun e => h0 e.1
theorem bare_fix (n : Nat) (x : S24) (h : ¬ (x.f0 = 54 ∧ x.f5.length = 1)) : bareN (n + 1) x = x := by
  unfold bareN
  by_cases h0 : x.f0 = 54
  · rw [if_pos h0, if_neg (fun e => h ⟨h0, e⟩)]
  · rw [if_neg h0]
theorem plain_idem : ∀ (n : Nat) (x : S24), LightN n x → plainN n (plainN n x) = plainN n x
  | 0, _, h => h.1.elim
  | n + 1, x, h => by
    have hb := bareN_light h
    have hd := bare_done (n + 1) x h.1
    have e : plainN (n + 1) x = ⟨(bareN (n + 1) x).f0, (bareN (n + 1) x).f1, (bareN (n + 1) x).f2, 0, 0, (bareN (n + 1) x).f5.map (plainN n)⟩ := by simp only [plainN]
    generalize bareN (n + 1) x = b at hb hd e
    rw [e]
    have hq : bareN (n + 1) (⟨b.f0, b.f1, b.f2, 0, 0, b.f5.map (plainN n)⟩ : S24) = ⟨b.f0, b.f1, b.f2, 0, 0, b.f5.map (plainN n)⟩ := bare_fix n _ (by simpa using hd)
    have e2 : plainN (n + 1) (⟨b.f0, b.f1, b.f2, 0, 0, b.f5.map (plainN n)⟩ : S24) = ⟨b.f0, b.f1, b.f2, 0, 0, (b.f5.map (plainN n)).map (plainN n)⟩ := by
      conv => lhs; unfold plainN
      rw [hq]
    rw [e2, List.map_map]
    congr 1
    exact List.map_congr_left (fun z hz => plain_idem n z (hb.kids z hz))
end Go.Proofs.Yteajbghklmkoeaa.Tr
