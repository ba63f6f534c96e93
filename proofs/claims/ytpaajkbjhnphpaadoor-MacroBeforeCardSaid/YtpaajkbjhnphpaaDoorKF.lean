/- Several texts, one behind the other. -/
import Derived.Test.YtpaajkbjhnphpaaDoorKE
/- Tokens that come in: how large their texts are, off what the row says of the reach. -/
namespace Go.Pv
open Go.Proofs Go.RowKit Go.ChangeShapes Go.WideShapes
set_option linter.unusedVariables false
set_option linter.unusedSimpArgs false
set_option maxRecDepth 100000
theorem weights_mem {H : Type} {P : Program} {e : TypeId} {d : DataW H} : ∀ {l : List (DataW H)}, d ∈ l → ∀ z ∈ d.weights P e, z ∈ DataW.weightsAll P e l
  | x :: r, h, z, hz => by
    simp only [DataW.weightsAll, List.mem_append]
    rcases List.mem_cons.1 h with rfl | h
    · exact .inl hz
    · exact .inr (weights_mem h z hz)
theorem weights_elems {H : Type} {P : Program} {t e : TypeId} {x d : DataW H} (ht : P.underlying t = some (.slice e)) (h : d ∈ elemsD x) : ∀ z ∈ d.weights P e, z ∈ x.weights P t := by
  intro z hz
  cases x with
  | slice elems spare =>
    simp only [DataW.weights, ht]
    have h' : d ∈ elems := by simpa [elemsD] using h
    exact List.mem_cons_of_mem _ (List.mem_append_left _ (weights_mem h' z hz))
  | _ => simp [elemsD] at h
section
variable {H : Type} {enc' : TypeId × Value → H} {w : World} {base : Nat} {spare : Nat → Bool} {held : Bool}
/-- No text longer than the weights let it be. -/
def TxtW {H : Type} (y : Tk) (d : DataW H) : Prop := ∀ N, (∀ z ∈ d.weights Tryd.prog 23, z ≤ N) → y.text.size ≤ N ∧ y.before.size ≤ N
theorem open_tokW {fuel : Nat} {cs : List Value} {x : DataW H × List MemPlace} (h : DataW.trod enc' Tryd.prog w base spare held fuel 23 cs = some x) : ∃ y : Tk, CRd w (encT y) cs ∧ (Tok y ∧ TxtW y x.1) := by
  obtain ⟨xs, n, rfl, rfl, hlen, _, hf⟩ := DataW.trod_struct Tryd.underlying23 h
  have hl6 : cs.length = 4 := hlen.trans (by kernel_rfl)
  match cs, hl6 with
  | [c0, c1, c2, c3], _ =>
    have g0 : DataW.trod enc' Tryd.prog w base spare held n 3 [c0] = xs[0]? := hf 0 _ rfl
    have g1 : DataW.trod enc' Tryd.prog w base spare held n 9 [c1] = xs[1]? := hf 1 _ rfl
    have g2 : DataW.trod enc' Tryd.prog w base spare held n 9 [c2] = xs[2]? := hf 2 _ rfl
    have g3 : DataW.trod enc' Tryd.prog w base spare held n 3 [c3] = xs[3]? := hf 3 _ rfl
    have hx : xs.length = 4 := by assumption
    match xs, hx with
    | [x0, x1, x2, x3], _ =>
      simp at g0 g1 g2 g3
      obtain ⟨a0, e0, v0, w0⟩ := int_cr Tryd.underlying3 g0
      obtain ⟨a1, e1, v1, w1, d1⟩ := str_crD Tryd.underlying9 g1
      obtain ⟨a2, e2, v2, w2, d2⟩ := str_crD Tryd.underlying9 g2
      obtain ⟨a3, e3, v3, w3⟩ := int_cr Tryd.underlying3 g3
      simp only [List.cons.injEq, and_true] at e0 e1 e2 e3
      subst e0 e1 e2 e3
      refine ⟨⟨a0, a1, a2, a3⟩, .cons v0 rfl (.cons v1 rfl (.cons v2 rfl (.cons v3 rfl .nil))), ⟨wf_i64 w0, wf_i64 w3⟩, ?_⟩
      intro N hN
      simp only [List.map_cons, List.map_nil, d1, d2, DataW.weights, Tryd.underlying23] at hN
      have s1 : a1.data.toList.length = a1.size := rfl
      have s2 : a2.data.toList.length = a2.size := rfl
      exact ⟨hN _ (by simp [DataW.weightsEach, DataW.weights]), hN _ (by simp [DataW.weightsEach, DataW.weights])⟩
/-- Tokens. -/
theorem open_tokensW {W : World} {v : Value} {d : DataW H} {p : List MemPlace} (hv : Value.okWide Tryd.prog W .any base 35 v) (h : DataW.Trod enc' Tryd.prog w 0 spare held 35 v d p) :
    ∃ l : List Tk, VR w (g0 w) (toks .any l) v ∧ l.length ≤ 2 ^ 63 - 1 ∧ ∀ N, (∀ z ∈ d.weights Tryd.prog 35, z ≤ N) → ∀ t ∈ l, t.text.size ≤ N ∧ t.before.size ≤ N := by
  obtain ⟨a, len, cap, rfl⟩ := okWide_slice Tryd.underlying35 hv
  obtain ⟨fuel, hf⟩ := h
  obtain ⟨u, l, hcs, hv', _, hl, hll, hG⟩ := rows_crD (sz := 4) encT (fun y d => Tok y ∧ TxtW y d) (fun x => rfl) Tryd.underlying35 (by kernel_rfl) (fun m hm cs x h => open_tokW h) hf
  have he : Value.slice a len cap = u := by simpa [Value.cells] using hcs
  rw [he]
  refine ⟨l, hv', hl, fun N hN t ht => ?_⟩
  obtain ⟨i, hi⟩ := List.getElem?_of_mem ht
  obtain ⟨e, hd, _, hT⟩ := hG i t hi
  exact hT N (fun z hz => hN z (weights_elems Tryd.underlying35 (List.mem_of_getElem? hd) z hz))
end
end Go.Pv

/- All definitions of tokens: both sides. -/
namespace Go.Pv
open Go.Proofs
set_option linter.unusedVariables false
set_option linter.unusedSimpArgs false
set_option maxRecDepth 100000
set_option maxHeartbeats 1000000
theorem wk_def (k : VK) (d : Df) (b : PV) : Wk (.tup [encD k d, b]) (.tup [encD .any d, b]) := by
  refine .tup _ _ rfl fun i c e hc he => ?_
  match i, hc, he with
  | 0, hc, he =>
    cases hc; cases he
    refine .agg _ _ rfl fun i c e hc he => ?_
    match i, hc, he with
    | 0, hc, he => cases hc; cases he; exact .refl _
    | 1, hc, he => cases hc; cases he; exact .refl _
    | 2, hc, he => cases hc; cases he; exact .any _ _
    | 3, hc, he => cases hc; cases he; exact .refl _
    | 4, hc, he => cases hc; cases he; exact .refl _
    | 5, hc, he => cases hc; cases he; exact .refl _
    | n + 6, hc, he => simp at hc
  | 1, hc, he => cases hc; cases he; exact .refl _
  | n + 2, hc, he => simp at hc
theorem wk_res {f : FuncId} {args : List PV} {s : St} {d : Df} {b : PV} (h : PCalls Tryd.prog f args s (fun r s' => s' = s ∧ ∃ k, r = .ret (.tup [encD k d, b]))) : PCalls Tryd.prog f args s (fun r s' => s' = s ∧ r = .ret (.tup [encD .any d, b])) := by
  refine PCalls.conv h ?_ ?_
  · rintro p s' ⟨rfl, k, hr⟩
    cases hr
    exact ⟨_, _, Conv.wk (.cons (wk_def k d b) .nil), rfl, rfl⟩
  · rintro c s' ⟨_, k, hr⟩
    cases hr
theorem pDefineA_c (x : Tk) (hx : x.text.size ≤ 20000) (s : St) (hv : Vars s) : PCalls Tryd.prog 11 [encT x] s (fun r s' => s' = s ∧ r = .ret (.tup [encD .any (defR x).1, .lit (.bool (defR x).2.2)])) := wk_res (pDefine_c x hx s hv)
theorem rDefineA_c (x : Tk) (hx : x.text.size ≤ 20000) (s : St) : PCalls Tryd.prog 12 [encT x] s (fun r s' => s' = s ∧ r = .ret (.tup [encD .any (defR x).1, .lit (.bool (defR x).2.2)])) := wk_res (rDefine_c x hx s)
@[reducible] def atD (d : Df) (i : Int) : Df := ⟨d.name, i, d.params, d.fun_, d.body, d.gone⟩
def defsF : Nat → List Tk → List Df
  | _, [] => []
  | i, x :: r => if (defR x).2.2 = true then atD (defR x).1 i :: defsF (i + 1) r else defsF (i + 1) r
theorem defsF_len : ∀ (l : List Tk) (i : Nat), (defsF i l).length ≤ l.length
  | [], _ => by simp [defsF]
  | x :: r, i => by
    have := defsF_len r (i + 1)
    rw [defsF]
    split <;> simp <;> omega
@[reducible] def defs (k : VK) (l : List Df) : PV := .vec k (l.map (encD .any))
def PDI (k : VK) (l : List Tk) (base : St) (n : Nat) (e : Env) (s' : St) : Prop :=
  ∃ (B : St) (j : Nat) (acc : List Df) (v : PV), j + n = l.length ∧ e 8 = toks k l ∧ e 9 = .lit (.int .i64 (l.length : Nat)) ∧ e 10 = .lit (.int .i64 j) ∧ e 3 = v ∧ acc.length ≤ j ∧ acc ++ defsF j (l.drop j) = defsF 0 l ∧ OwnL 27 6 B (acc.map (encDC .any)) v s' ∧ base.sub B
theorem pDefs_c (k : VK) (l : List Tk) (hl : l.length ≤ 100000) (hs : ∀ x ∈ l, x.text.size ≤ 20000) (s : St) (hv : Vars s) : PCalls Tryd.prog 15 [toks k l] s (fun r s' => s' = s ∧ r = .ret (defs .any (defsF 0 l))) := by
  refine PCalls.conv (R := fun r s' => ∃ s2 : St, s2.sub s' ∧ ∃ v, r = .ret v ∧ OwnL 27 6 s ((defsF 0 l).map (encDC .any)) v s2) ?_ ?_ ?_
  · refine PCalls.of Tryd.func15 rfl (by rfl) (by simp [Tryd.ntmps15]) ?_
    refine pwC_sound _ _ _ _ ?_
    refine pwC_cut fun K hK => ?_
    simp [Tryd.ntmps15]
    refine hK _ _ ?_
    clear hK K
    refine pwC_cut fun K hK => ?_
    simp
    refine hK _ _ ?_
    clear hK K
    refine pwC_cut fun K hK => ?_
    simp
    refine PW.loop (fun n e s' => PDI k l s n e s') l.length ⟨s, 0, [], .vec .nil [], by omega, by simp, by simp, by simp, by simp, by simp, rfl, OwnL.nil _ _ _, sub_refl⟩ ?_
    rintro n e s' ⟨B, j, acc, v, hj, e8, e9, e10, e3, hacc, hgo, hO, hBs⟩
    refine pwC_sound _ _ _ _ ?_
    by_cases hlt : j < l.length
    · have hlt' : (j : Int) < l.length := by omega
      have hg : l[j]? = some l[j] := List.getElem?_eq_getElem hlt
      obtain ⟨x, hx⟩ : ∃ x, l[j] = x := ⟨_, rfl⟩
      have hxs := hs x (hx ▸ List.getElem_mem _)
      rw [List.drop_eq_getElem_cons hlt, hx, defsF] at hgo
      rw [hx] at hg
      have w1 : IntKind.i64.wrap ((j : Int) + 1) = ((j + 1 : Nat) : Int) := by rw [wrap_i64 (by omega) (by omega)]; omega
      clear hK
      refine pwC_cut fun K hK => ?_
      simp [e9, e10, hlt, hlt']
      refine hK _ _ ?_
      clear hK K
      refine pwC_cut fun K hK => ?_
      simp
      refine hK _ _ ?_
      clear hK K
      simp [e3, e8, e10, hg, hx]
      intro i5 h5
      refine (pDefineA_c x hxs _ (hv.sub (hBs.trans (hO.sub.trans (sub_refl.upd_of h5))))).mono ?_
      rintro _ s1 ⟨hs1, rfl⟩
      rw [hs1]
      clear hs1 s1
      simp
      intro i6 h65 h6' h6
      obtain ⟨d, hd⟩ : ∃ d, (defR x).1 = d := ⟨_, rfl⟩
      rw [hd] at hgo ⊢
      by_cases hok : (defR x).2.2 = true
      · rw [if_pos hok] at hgo
        have hO2 := (hO.upd (k := i5) (x := some (.row 23 4 [encTC x])) (.inl h5)).upd (k := i6) (x := some (.row 27 6 [encDC .any (atD d j)])) (.inl (by rw [St.upd_ne _ _ h65]; exact h6))
        simp [hok, e3, e10]
        refine appOwn (b := 80) (z := .agg #[.string ⟨#[]⟩, .int .i64 0, .slice none 0 0, .bool false, .string ⟨#[]⟩, .bool false]) (ys := [encDC .any (atD d j)]) hO2 (by simp) (by simp) (by simp) (by simp) rfl (by omega) (by simp) (fun s => by simp [elemsOf]) (by simp; omega) (fun v1 s1 hO1 => ?_)
        simp [e10, w1]
        refine ⟨n - 1, by omega, _, j + 1, acc ++ [atD d j], v1, by omega, by simp [e8], by simp [e9], by simp, by simp, by simp; omega, by simpa using hgo, by simpa using hO1, (hBs.upd_of (hBs.fresh (hO.sub.fresh h5))).upd_of (hBs.fresh (hO.sub.fresh h6))⟩
      · rw [if_neg hok] at hgo
        have hO2 := (hO.upd (k := i5) (x := some (.row 23 4 [encTC x])) (.inl h5)).upd (k := i6) (x := some (.row 27 6 [encDC .any d])) (.inl (by rw [St.upd_ne _ _ h65]; exact h6))
        simp [hok, e3, e10, w1]
        refine ⟨n - 1, by omega, _, j + 1, acc, v, by omega, by simp [e8], by simp [e9], by simp, by simp [e3], by omega, hgo, hO2, (hBs.upd_of (hBs.fresh (hO.sub.fresh h5))).upd_of (hBs.fresh (hO.sub.fresh h6))⟩
    · have hlt' : ¬ (j : Int) < l.length := by omega
      rw [List.drop_eq_nil_of_le (by omega)] at hgo
      simp [defsF] at hgo
      simp [e8, e9, e10, e3, hlt, hlt']
      refine hK _ _ ?_
      clear hK K
      simp [e3]
      rw [← hgo]
      obtain ⟨s3, q1, q2⟩ := hO.shrink hBs
      exact ⟨_, sub_refl, s3, q1, q2⟩
  · rintro r s' ⟨s2, q1, v, q3, q4⟩
    cases q3
    exact ⟨_, _, (Conv.sub q1 _).trans (Conv.own q4 (xs := (defsF 0 l).map (encD .any)) (by rw [List.map_map]; rfl) []), rfl, rfl⟩
  · rintro c s' ⟨s2, q1, v, q3, _⟩
    cases q3
def RDI (k : VK) (l : List Tk) (base : St) (n : Nat) (e : Env) (s' : St) : Prop :=
  ∃ (B : St) (j : Nat) (acc : List Df) (v : PV), j + n = l.length ∧ e 0 = toks k l ∧ e 4 = .lit (.int .i64 j) ∧ e 3 = v ∧ acc.length ≤ j ∧ acc ++ defsF j (l.drop j) = defsF 0 l ∧ OwnL 30 6 B (acc.map (encDC .any)) v s' ∧ base.sub B
theorem rDefs_c (k : VK) (l : List Tk) (hl : l.length ≤ 100000) (hs : ∀ x ∈ l, x.text.size ≤ 20000) (s : St) : PCalls Tryd.prog 16 [toks k l] s (fun r s' => s' = s ∧ r = .ret (defs .any (defsF 0 l))) := by
  refine PCalls.conv (R := fun r s' => ∃ s2 : St, s2.sub s' ∧ ∃ v, r = .ret v ∧ OwnL 30 6 s ((defsF 0 l).map (encDC .any)) v s2) ?_ ?_ ?_
  · refine PCalls.of Tryd.func16 rfl (by rfl) (by simp [Tryd.ntmps16]) ?_
    refine pwC_sound _ _ _ _ ?_
    refine pwC_cut fun K hK => ?_
    simp [Tryd.ntmps16]
    refine hK _ _ ?_
    clear hK K
    refine pwC_cut fun K hK => ?_
    simp
    refine hK _ _ ?_
    clear hK K
    refine pwC_cut fun K hK => ?_
    simp
    refine PW.loop (fun n e s' => RDI k l s n e s') l.length ⟨s, 0, [], .vec .nil [], by omega, by simp, by simp, by simp, by simp, rfl, OwnL.nil _ _ _, sub_refl⟩ ?_
    rintro n e s' ⟨B, j, acc, v, hj, e0, e4, e3, hacc, hgo, hO, hBs⟩
    refine pwC_sound _ _ _ _ ?_
    by_cases hlt : j < l.length
    · have hlt' : (j : Int) < l.length := by omega
      have hg : l[j]? = some l[j] := List.getElem?_eq_getElem hlt
      obtain ⟨x, hx⟩ : ∃ x, l[j] = x := ⟨_, rfl⟩
      have hxs := hs x (hx ▸ List.getElem_mem _)
      rw [List.drop_eq_getElem_cons hlt, hx, defsF] at hgo
      rw [hx] at hg
      have w1 : IntKind.i64.wrap ((j : Int) + 1) = ((j + 1 : Nat) : Int) := by rw [wrap_i64 (by omega) (by omega)]; omega
      clear hK
      simp [e0, e3, e4, hlt, hlt', hg, hx]
      refine (rDefineA_c x hxs _).mono ?_
      rintro _ s1 ⟨hs1, rfl⟩
      rw [hs1]
      clear hs1 s1
      simp
      intro i5 h5
      obtain ⟨d, hd⟩ : ∃ d, (defR x).1 = d := ⟨_, rfl⟩
      rw [hd] at hgo ⊢
      by_cases hok : (defR x).2.2 = true
      · rw [if_pos hok] at hgo
        have hO2 := hO.upd (k := i5) (x := some (.row 30 6 [encDC .any (atD d j)])) (.inl h5)
        simp [hok, e3, e4]
        refine appOwn (b := 80) (z := .agg #[.string ⟨#[]⟩, .int .i64 0, .slice none 0 0, .bool false, .string ⟨#[]⟩, .bool false]) (ys := [encDC .any (atD d j)]) hO2 (by simp) (by simp) (by simp) (by simp) rfl (by omega) (by simp) (fun s => by simp [elemsOf]) (by simp; omega) (fun v1 s1 hO1 => ?_)
        simp [e4, w1]
        refine ⟨n - 1, by omega, _, j + 1, acc ++ [atD d j], v1, by omega, by simp [e0], by simp, by simp, by simp; omega, by simpa using hgo, by simpa using hO1, hBs.upd_of (hBs.fresh (hO.sub.fresh h5))⟩
      · rw [if_neg hok] at hgo
        have hO2 := hO.upd (k := i5) (x := some (.row 30 6 [encDC .any d])) (.inl h5)
        simp [hok, e3, e4, w1]
        refine ⟨n - 1, by omega, _, j + 1, acc, v, by omega, by simp [e0], by simp, by simp [e3], by omega, hgo, hO2, hBs.upd_of (hBs.fresh (hO.sub.fresh h5))⟩
    · have hlt' : ¬ (j : Int) < l.length := by omega
      rw [List.drop_eq_nil_of_le (by omega)] at hgo
      simp [defsF] at hgo
      simp [e0, e4, e3, hlt, hlt']
      refine hK _ _ ?_
      clear hK K
      simp [e3]
      rw [← hgo]
      obtain ⟨s3, q1, q2⟩ := hO.shrink hBs
      exact ⟨_, sub_refl, s3, q1, q2⟩
  · rintro r s' ⟨s2, q1, v, q3, q4⟩
    cases q3
    exact ⟨_, _, (Conv.sub q1 _).trans (Conv.own q4 (xs := (defsF 0 l).map (encD .any)) (by rw [List.map_map]; rfl) []), rfl, rfl⟩
  · rintro c s' ⟨s2, q1, v, q3, _⟩
    cases q3
end Go.Pv

/- The definition of a name at a place: both sides. -/
namespace Go.Pv
open Go.Proofs
set_option linter.unusedVariables false
set_option linter.unusedSimpArgs false
set_option maxRecDepth 100000
set_option maxHeartbeats 1000000
def okD (name : ByteArray) (a : Int) (d : Df) : Bool := decide (d.at_ < a) && decide (d.name = name)
def endD : Option Df → Df × Bool
  | none => (zeroD, false)
  | some d => if d.gone = true then (zeroD, false) else (d, true)
def findR (l : List Tk) (name : ByteArray) (a : Int) : Df × Bool := endD ((defsF 0 l).filter (okD name a)).getLast?
theorem defsF_at : ∀ (l : List Tk) (i : Nat), ∀ d ∈ defsF i l, (i : Int) ≤ d.at_ ∧ d.at_ < ((i + l.length : Nat) : Int)
  | [], i, d, hd => by simp [defsF] at hd
  | x :: r, i, d, hd => by
    rw [defsF] at hd
    have ih := defsF_at r (i + 1)
    have : (x :: r).length = r.length + 1 := rfl
    split at hd
    · rcases List.mem_cons.1 hd with rfl | hd
      · exact ⟨by show (i : Int) ≤ (i : Int); omega, by show (i : Int) < _; omega⟩
      · have := ih d hd; omega
    · have := ih d hd; omega
theorem defsF_take : ∀ (l : List Tk) (i m : Nat), defsF i (l.take m) = (defsF i l).filter fun d => decide (d.at_ < ((i + m : Nat) : Int))
  | [], i, m => by simp [defsF]
  | x :: r, i, 0 => by
    have : (defsF i (x :: r)).filter (fun d => decide (d.at_ < ((i + 0 : Nat) : Int))) = [] := by
      rw [List.filter_eq_nil_iff]
      intro d hd
      have := (defsF_at _ _ d hd).1
      simp; omega
    rw [this]; rfl
  | x :: r, i, m + 1 => by
    have ih := defsF_take r (i + 1) m
    rw [List.take_succ_cons, defsF, defsF, ih, show i + 1 + m = i + (m + 1) by omega]
    split
    · rw [List.filter_cons_of_pos (by simp; omega)]
    · rfl
theorem defR_name {x : Tk} (h : (defR x).2.2 = true) : (defR x).1.name ≠ ⟨#[]⟩ := by
  have hok := wordsD_ok x
  have key : ∀ d b, defT x = some (d, b) → d.name ≠ ⟨#[]⟩ := by
    intro d b h
    unfold defT defW at h
    split at h
    · cases h
    · generalize wordsD x = w at *
      split at h
      · rename_i w0 w1 body
        have h1 := (hok w1 (by simp)).text
        split at h
        · cases h
        · split at h
          · cases h; exact h1
          · unfold bodyD at h
            split at h
            · cases h; exact h1
            · split at h
              · split at h
                · cases h
                · cases h; exact h1
              · cases h; exact h1
      · cases h
  unfold defR at h ⊢
  split at h
  · cases h
  · rename_i d b hd
    exact key d b hd
theorem defsF_name : ∀ (l : List Tk) (i : Nat), ∀ d ∈ defsF i l, d.name ≠ ⟨#[]⟩
  | [], i, d, hd => by simp [defsF] at hd
  | x :: r, i, d, hd => by
    rw [defsF] at hd
    split at hd
    · rename_i h
      rcases List.mem_cons.1 hd with rfl | hd
      · exact defR_name h
      · exact defsF_name r _ d hd
    · exact defsF_name r _ d hd
def lastD (name : ByteArray) (ds : List Df) : Df := (ds.filter fun d => decide (d.name = name)).getLast?.getD zeroD
theorem lastD_snoc (name : ByteArray) (ds : List Df) (d : Df) : lastD name (ds ++ [d]) = if d.name = name then d else lastD name ds := by
  unfold lastD
  rw [List.filter_append]
  by_cases h : d.name = name
  · simp [h]
  · simp [h]
/-- What the program computes is what is said. -/
theorem find_eq (l : List Tk) (name : ByteArray) (a : Int) (m : Nat) (hm : m = (max 0 (min a (l.length : Int))).toNat) :
    findR l name a = if (lastD name (defsF 0 (l.take m))).gone = true ∨ (lastD name (defsF 0 (l.take m))).name = ⟨#[]⟩ then (zeroD, false) else (lastD name (defsF 0 (l.take m)), true) := by
  have hf : (defsF 0 l).filter (okD name a) = (defsF 0 (l.take m)).filter fun d => decide (d.name = name) := by
    rw [defsF_take, List.filter_filter]
    refine List.filter_congr fun d hd => ?_
    have := defsF_at l 0 d hd
    unfold okD
    have hiff : d.at_ < a ↔ d.at_ < ((0 + m : Nat) : Int) := by omega
    rw [Bool.and_comm, decide_eq_decide.2 hiff]
  unfold findR lastD
  rw [hf]
  cases hg : ((defsF 0 (l.take m)).filter fun d => decide (d.name = name)).getLast? with
  | none => simp [endD]
  | some d =>
    have hd := List.mem_of_getLast? hg
    have hn := defsF_name _ _ d (List.mem_filter.1 hd).1
    simp only [endD, Option.getD_some]
    by_cases h : d.gone = true
    · simp [h]
    · simp [h, hn]
theorem defR_at (x : Tk) : True := trivial
theorem slc_to (k : VK) (L : List Tk) (h : Nat) (h2 : h ≤ L.length) : ∃ k', slc Tryd.prog 35 (toks k L) none (some (.lit (.int .i64 h))) = some (toks k' (L.take h)) := by
  have : 0 ≤ (h : Int) := by omega
  refine ⟨match k with | .nil => .nil | _ => .any, ?_⟩
  cases k <;> simp [slc, bound, this, h2]
def FLI (D : List Df) (name : ByteArray) (i6 i8 : Nat) (base : St) (n : Nat) (e : Env) (s' : St) : Prop :=
  ∃ (j : Nat) (kf : VK), j + n = D.length ∧ e 1 = .lit (.string name) ∧ e 6 = .pt i6 0 0 ∧ e 8 = .pt i8 0 0 ∧ e 18 = defs .any D ∧ e 19 = .lit (.int .i64 (D.length : Nat)) ∧ e 20 = .lit (.int .i64 j) ∧ base.sub s' ∧
    s' i6 = some (.row 27 6 [encDC .nil zeroD]) ∧ s' i8 = some (.row 27 6 [encDC kf (lastD name (D.take j))])
theorem pFind_c (k : VK) (l : List Tk) (name : ByteArray) (a : Int) (hl : l.length ≤ 100000) (ha : -9223372036854775808 ≤ a ∧ a ≤ 9223372036854775807) (hs : ∀ x ∈ l, x.text.size ≤ 20000) (s : St) (hv : Vars s) : PCalls Tryd.prog 17 [toks k l, .lit (.string name), .lit (.int .i64 a)] s (fun r s' => s' = s ∧ ∃ k, r = .ret (.tup [encD k (findR l name a).1, .lit (.bool (findR l name a).2)])) := by
  obtain ⟨F, hF⟩ : ∃ F, findR l name a = F := ⟨_, rfl⟩
  rw [hF]
  refine PCalls.of Tryd.func17 rfl (by rfl) (by simp [Tryd.ntmps17]) ?_
  refine pwC_sound _ _ _ _ ?_
  refine pwC_cut fun K hK => ?_
  simp [Tryd.ntmps17]
  intro i6 h6
  refine hK _ _ ?_
  clear hK K
  refine pwC_cut fun K hK => ?_
  simp
  intro i8 h86 h68 h8
  refine hK _ _ ?_
  clear hK K
  generalize hE : Env.put _ _ _ = E
  have g0 : E 0 = toks k l := by rw [← hE]; simp
  have g1 : E 1 = .lit (.string name) := by rw [← hE]; simp
  have g2 : E 2 = .lit (.int .i64 a) := by rw [← hE]; simp
  have g6 : E 6 = .pt i6 0 0 := by rw [← hE]; simp
  have g8 : E 8 = .pt i8 0 0 := by rw [← hE]; simp
  clear hE
  generalize hσ : St.upd (St.upd _ _ _) _ _ = σ
  have b6 : σ i6 = some (.row 27 6 [encDC .nil zeroD]) := by rw [← hσ, St.upd_ne _ _ h68]; simp
  have b8 : σ i8 = some (.row 27 6 [encDC .nil zeroD]) := by rw [← hσ]; simp
  have hsσ : s.sub σ := by rw [← hσ]; exact (sub_refl.upd_of h6).upd_of h8
  clear hσ
  have hvσ := hv.sub hsσ
  obtain ⟨m, hm⟩ : ∃ m, m = (max 0 (min a (l.length : Int))).toNat := ⟨_, rfl⟩
  have hml : m ≤ l.length := by omega
  have hmi : max 0 (min a (l.length : Int)) = (m : Int) := by omega
  obtain ⟨k2, hsl⟩ := slc_to k l m hml
  refine pwC_cut fun K hK => ?_
  simp [g0, g1, g2, hmi, hsl]
  refine (pDefs_c k2 (l.take m) (by rw [List.length_take]; omega) (fun x hx => hs x (List.mem_of_mem_take hx)) _ hvσ).mono ?_
  rintro _ s1 ⟨hs1, rfl⟩
  rw [hs1]
  clear hs1 s1
  have hDl : (defsF 0 (l.take m)).length ≤ 100000 := by
    have h1 := defsF_len (l.take m) 0
    rw [List.length_take] at h1
    omega
  rw [find_eq l name a m hm] at hF
  generalize defsF 0 (l.take m) = D at *
  simp
  refine PW.loop (fun n e s' => FLI D name i6 i8 s n e s') D.length ⟨0, .nil, by omega, by simp [g1], by simp [g6], by simp [g8], by simp, by simp, by simp, hsσ, b6, b8⟩ ?_
  rintro n e s' ⟨j, kf, hj, e1, e6, e8, e18, e19, e20, hs', c6, c8⟩
  refine pwC_sound _ _ _ _ ?_
  by_cases hlt : j < D.length
  · have hlt' : (j : Int) < D.length := by omega
    have hg : D[j]? = some D[j] := List.getElem?_eq_getElem hlt
    obtain ⟨d, hd⟩ : ∃ d, D[j] = d := ⟨_, rfl⟩
    rw [hd] at hg
    have w1 : IntKind.i64.wrap ((j : Int) + 1) = ((j + 1 : Nat) : Int) := by rw [wrap_i64 (by omega) (by omega)]; omega
    have htk : D.take (j + 1) = D.take j ++ [d] := by rw [List.take_add_one, hg]; rfl
    clear hK
    simp [e18, e19, e20, hlt, hlt', hg, hd]
    intro i10 h10
    have n6 : ¬ i6 = i10 := fun e => by subst e; rw [show s' i6 = none from h10] at c6; cases c6
    have n8 : ¬ i8 = i10 := fun e => by subst e; rw [show s' i8 = none from h10] at c8; cases c8
    have n8' : ¬ i10 = i8 := fun e => n8 e.symm
    by_cases hn : d.name = name
    · simp [e1, e8, e20, hn, w1, n8, n8', c8]
      refine ⟨n - 1, by omega, j + 1, .any, by omega, by simp [e1], by simp [e6], by simp [e8], by simp [e18], by simp [e19], by simp, (hs'.upd_of (hs'.fresh h10)).upd_of h8, by simp [n6, h68, c6], ?_⟩
      rw [htk, lastD_snoc, if_pos hn]
      simp [hn]
    · simp [e1, e8, e20, hn, w1]
      refine ⟨n - 1, by omega, j + 1, kf, by omega, by simp [e1], by simp [e6], by simp [e8], by simp [e18], by simp [e19], by simp, hs'.upd_of (hs'.fresh h10), by simp [n6, c6], ?_⟩
      rw [htk, lastD_snoc, if_neg hn]
      simp [n8, c8]
  · have hlt' : ¬ (j : Int) < D.length := by omega
    rw [List.take_of_length_le (by omega)] at c8
    simp [e18, e19, e20, hlt, hlt']
    refine hK _ _ ?_
    clear hK K
    generalize lastD name D = f at *
    subst hF
    by_cases h1 : f.gone = true
    · simp [e6, e8, c8, c6, h1]
      exact hs'.upd_of h6
    · by_cases h2 : f.name = ⟨#[]⟩
      · simp [e6, e8, c8, c6, h1, h2]
        exact hs'.upd_of h6
      · simp [e6, e8, c8, c6, h1, h2]
        exact hs'.upd_of h6
def RFI (D : List Df) (name : ByteArray) (a : Int) (i6 : Nat) (base : St) (n : Nat) (e : Env) (s' : St) : Prop :=
  ∃ (j : Nat), n = j ∧ j ≤ D.length ∧ e 1 = .lit (.string name) ∧ e 2 = .lit (.int .i64 a) ∧ e 6 = .pt i6 0 0 ∧ e 8 = defs .any D ∧ e 9 = .lit (.int .i64 ((j : Int) - 1)) ∧ ((D.take j).filter (okD name a)).getLast? = (D.filter (okD name a)).getLast? ∧ s' = base
theorem rFind_c (k : VK) (l : List Tk) (name : ByteArray) (a : Int) (hl : l.length ≤ 100000) (ha : -9223372036854775808 ≤ a ∧ a ≤ 9223372036854775807) (hs : ∀ x ∈ l, x.text.size ≤ 20000) (s : St) : PCalls Tryd.prog 18 [toks k l, .lit (.string name), .lit (.int .i64 a)] s (fun r s' => s' = s ∧ ∃ k, r = .ret (.tup [encD k (findR l name a).1, .lit (.bool (findR l name a).2)])) := by
  obtain ⟨F, hF⟩ : ∃ F, findR l name a = F := ⟨_, rfl⟩
  rw [hF]
  unfold findR at hF
  refine PCalls.of Tryd.func18 rfl (by rfl) (by simp [Tryd.ntmps18]) ?_
  refine pwC_sound _ _ _ _ ?_
  refine pwC_cut fun K hK => ?_
  simp [Tryd.ntmps18]
  intro i6 h6
  refine hK _ _ ?_
  clear hK K
  refine pwC_cut fun K hK => ?_
  simp
  refine (rDefs_c k l hl hs _).mono ?_
  rintro _ s1 ⟨hs1, rfl⟩
  rw [hs1]
  clear hs1 s1
  simp
  refine hK _ _ ?_
  clear hK K
  have hDl : (defsF 0 l).length ≤ 100000 := by
    have h1 := defsF_len l 0
    omega
  generalize defsF 0 l = D at *
  generalize hσ : St.upd s i6 _ = σ
  have b6 : σ i6 = some (.row 30 6 [encDC .nil zeroD]) := by rw [← hσ]; simp
  have hsσ : s.sub σ := by rw [← hσ]; exact sub_refl.upd_of h6
  clear hσ
  have w0 : IntKind.i64.wrap ((D.length : Int) - 1) = (D.length : Int) - 1 := wrap_i64 (by omega) (by omega)
  refine pwC_cut fun K hK => ?_
  simp [w0]
  refine PW.loop (fun n e s' => RFI D name a i6 σ n e s') D.length ⟨D.length, rfl, Nat.le_refl _, by simp, by simp, by simp, by simp, by simp, by rw [List.take_length], rfl⟩ ?_
  rintro n e s' ⟨j, rfl, hj, e1, e2, e6, e8, e9, hgo, rfl⟩
  refine pwC_sound _ _ _ _ ?_
  cases n with
  | zero =>
    have h0 : ¬ (0 : Int) ≤ ((0 : Nat) : Int) - 1 := by omega
    have hF' : F = (zeroD, false) := by rw [← hF, ← hgo]; rfl
    simp [e9]
    refine hK _ _ ?_
    clear hK K
    rw [hF']
    simp [e6, b6]
    exact hsσ.upd_of h6
  | succ j =>
    clear hK
    have e9' : e 9 = .lit (.int .i64 j) := by rw [e9]; congr 2; omega
    have hlt : j < D.length := by omega
    have hg : D[j]? = some D[j] := List.getElem?_eq_getElem hlt
    obtain ⟨d, hd⟩ : ∃ d, D[j] = d := ⟨_, rfl⟩
    rw [hd] at hg
    have htk : D.take (j + 1) = D.take j ++ [d] := by rw [List.take_add_one, hg]; rfl
    have w1 : IntKind.i64.wrap ((j : Int) - 1) = (j : Int) - 1 := wrap_i64 (by omega) (by omega)
    rw [htk, List.filter_append] at hgo
    by_cases hat : d.at_ < a
    · by_cases hn : d.name = name
      · have hok : [d].filter (okD name a) = [d] := by simp [okD, hat, hn]
        rw [hok, List.getLast?_concat] at hgo
        rw [← hgo] at hF
        subst hF
        by_cases hgn : d.gone = true
        · simp [e1, e2, e6, e8, e9', hg, hlt, hd, hat, hn, hgn, b6, endD]
          exact hsσ.upd_of h6
        · simp [e1, e2, e6, e8, e9', hg, hlt, hd, hat, hn, hgn, b6, endD]
          exact hsσ.upd_of h6
      · have hok : [d].filter (okD name a) = [] := by simp [okD, hn]
        rw [hok, List.append_nil] at hgo
        simp [e1, e2, e6, e8, e9', hg, hlt, hd, hat, hn, w1]
        exact ⟨j, by omega, j, rfl, by omega, by simp [e1], by simp [e2], by simp [e6], by simp [e8], by simp, hgo, rfl⟩
    · have hok : [d].filter (okD name a) = [] := by simp [okD, hat]
      rw [hok, List.append_nil] at hgo
      simp [e1, e2, e6, e8, e9', hg, hlt, hd, hat, w1]
      exact ⟨j, by omega, j, rfl, by omega, by simp [e1], by simp [e2], by simp [e6], by simp [e8], by simp, hgo, rfl⟩
end Go.Pv

/- What is too much; the law of finding. -/
namespace Go.Pv
open Go.Proofs
set_option linter.unusedVariables false
set_option linter.unusedSimpArgs false
set_option maxRecDepth 100000
set_option maxHeartbeats 1000000
def sumT (l : List Tk) : Nat := (l.map fun x => x.text.size).sum
theorem sumT_take (l : List Tk) (j : Nat) (x : Tk) (h : l[j]? = some x) : sumT (l.take (j + 1)) = sumT (l.take j) + x.text.size := by
  unfold sumT
  rw [List.take_add_one, h]
  simp
theorem sumT_le (M : Nat) : ∀ (l : List Tk), (∀ x ∈ l, x.text.size ≤ M) → sumT l ≤ l.length * M
  | [], _ => by simp [sumT]
  | x :: l, h => by
    have h1 := h x (by simp)
    have h2 := sumT_le M l (fun y hy => h y (by simp [hy]))
    have : sumT (x :: l) = x.text.size + sumT l := by simp [sumT]
    rw [this, List.length_cons, Nat.succ_mul]
    omega
theorem sumT_mem {l : List Tk} {x : Tk} (h : x ∈ l) : x.text.size ≤ sumT l := by
  induction l with
  | nil => cases h
  | cons y l ih =>
    have : sumT (y :: l) = y.text.size + sumT l := by simp [sumT]
    rcases List.mem_cons.1 h with rfl | h
    · omega
    · have := ih h; omega
def heavyB (l : List Tk) (v : Nat) : Bool := decide (600 < l.length) || decide (700 < v) || decide (20000 < sumT l)
def HVI (k : VK) (l : List Tk) (kv : VK) (vs : List Int) (base : St) (n : Nat) (e : Env) (s' : St) : Prop :=
  ∃ (j : Nat) (z : Int), j + n = l.length ∧ e 0 = toks k l ∧ e 1 = ints kv vs ∧ e 5 = .lit (.int .i64 z) ∧ e 6 = .lit (.int .i64 j) ∧ (l.length ≤ 600 → z = (sumT (l.take j) : Nat)) ∧ s' = base
theorem heavy_c (k kv : VK) (l : List Tk) (vs : List Int) (hl : l.length ≤ 9223372036854775807) (hvl : vs.length ≤ 9223372036854775807) (hs : l.length ≤ 600 → ∀ x ∈ l, x.text.size ≤ 140737488351232) (s : St) : PCalls Tryd.prog 14 [toks k l, ints kv vs] s (fun r s' => s' = s ∧ r = .ret (.lit (.bool (heavyB l vs.length)))) := by
  refine PCalls.of Tryd.func14 rfl (by rfl) (by simp [Tryd.ntmps14]) ?_
  refine pwC_sound _ _ _ _ ?_
  refine pwC_cut fun K hK => ?_
  simp [Tryd.ntmps14]
  refine hK _ _ ?_
  clear hK K
  refine pwC_cut fun K hK => ?_
  simp
  refine hK _ _ ?_
  clear hK K
  refine pwC_cut fun K hK => ?_
  simp
  refine PW.loop (fun n e s' => HVI k l kv vs s n e s') l.length ⟨0, 0, by omega, by simp, by simp, by simp, by simp, fun _ => by simp [sumT], rfl⟩ ?_
  rintro n e s' ⟨j, z, hj, e0, e1, e5, e6, hz, rfl⟩
  refine pwC_sound _ _ _ _ ?_
  by_cases hlt : j < l.length
  · have hlt' : (j : Int) < l.length := by omega
    have hg : l[j]? = some l[j] := List.getElem?_eq_getElem hlt
    obtain ⟨x, hx⟩ : ∃ x, l[j] = x := ⟨_, rfl⟩
    rw [hx] at hg
    have w1 : IntKind.i64.wrap ((j : Int) + 1) = ((j + 1 : Nat) : Int) := by rw [wrap_i64 (by omega) (by omega)]; omega
    clear hK
    simp [e0, e1, e5, e6, hlt, hlt', hg, hx, w1]
    refine ⟨n - 1, by omega, j + 1, IntKind.i64.wrap (z + x.text.size), by omega, by simp [e0], by simp [e1], by simp, by simp, fun h6 => ?_, rfl⟩
    have hz' := hz h6
    have hxs := hs h6 x (hx ▸ List.getElem_mem _)
    have hsum := sumT_le 140737488351232 (l.take j) (fun y hy => hs h6 y (List.mem_of_mem_take hy))
    have hlen : (l.take j).length ≤ 600 := by rw [List.length_take]; omega
    have hsum2 : sumT (l.take j) ≤ 600 * 140737488351232 := Nat.le_trans hsum (Nat.mul_le_mul_right _ hlen)
    rw [sumT_take l j x hg, hz', wrap_i64 (by omega) (by omega)]
    omega
  · have hlt' : ¬ (j : Int) < l.length := by omega
    rw [List.take_of_length_le (by omega)] at hz
    simp [e0, e1, e5, e6, hlt, hlt']
    refine hK _ _ ?_
    clear hK K
    by_cases h6 : 600 < l.length
    · have h6' : (600 : Int) < l.length := by omega
      simp [e0, e1, e5, h6, h6', heavyB]
    · have h6' : ¬ (600 : Int) < l.length := by omega
      have hz' := hz (by omega)
      by_cases h7 : 700 < vs.length
      · have h7' : (700 : Int) < vs.length := by omega
        simp [e0, e1, e5, h6, h6', h7, h7', heavyB]
      · have h7' : ¬ (700 : Int) < vs.length := by omega
        by_cases h2 : 20000 < sumT l
        · have h2' : (20000 : Int) < (sumT l : Nat) := by omega
          simp [e0, e1, e5, h6, h6', h7, h7', h2, h2', heavyB, hz']
        · have h2' : ¬ (20000 : Int) < (sumT l : Nat) := by omega
          simp [e0, e1, e5, h6, h6', h7, h7', h2, h2', heavyB, hz']
theorem heavy_no {l : List Tk} {v : Nat} (h : heavyB l v = false) : l.length ≤ 600 ∧ v ≤ 700 ∧ ∀ x ∈ l, x.text.size ≤ 20000 := by
  simp [heavyB] at h
  exact ⟨by omega, by omega, fun x hx => by have := sumT_mem hx; omega⟩
theorem defsF_len1 (l : List Tk) (hs : ∀ x ∈ l, x.text.size ≤ 20000) : ∀ (i : Nat), ∀ d ∈ defsF i l, d.params.length ≤ 1000000 := by
  induction l with
  | nil => intro i d hd; simp [defsF] at hd
  | cons x r ih =>
    intro i d hd
    rw [defsF] at hd
    split at hd
    · rcases List.mem_cons.1 hd with rfl | hd
      · exact defR_len x (hs x (by simp))
      · exact ih (fun y hy => hs y (by simp [hy])) _ d hd
    · exact ih (fun y hy => hs y (by simp [hy])) _ d hd
theorem findR_len (l : List Tk) (hs : ∀ x ∈ l, x.text.size ≤ 20000) (name : ByteArray) (a : Int) : (findR l name a).1.params.length ≤ 1000000 := by
  unfold findR
  cases hg : ((defsF 0 l).filter (okD name a)).getLast? with
  | none => simp [endD]
  | some d =>
    have hd := (List.mem_filter.1 (List.mem_of_getLast? hg)).1
    have := defsF_len1 l hs 0 d hd
    unfold endD
    split
    · simp
    · split
      · simp
      · rename_i h _; cases h; exact this
end Go.Pv

/- The law of finding. -/
namespace Go.Pv
open Go.Proofs
set_option linter.unusedVariables false
set_option linter.unusedSimpArgs false
set_option maxRecDepth 100000
set_option maxHeartbeats 1000000
theorem macroFinds_c (l : List Tk) (name : ByteArray) (a : Int) (hl : l.length ≤ 9223372036854775807) (ha : -9223372036854775808 ≤ a ∧ a ≤ 9223372036854775807) (hs : l.length ≤ 600 → ∀ x ∈ l, x.text.size ≤ 140737488351232) (s : St) (hv : Vars s) : PCalls Tryd.prog 4 [toks .any l, .lit (.string name), .lit (.int .i64 a)] s (fun r s' => s' = s ∧ r = .ret (.lit (.bool true))) := by
  refine PCalls.of Tryd.func4 rfl (by rfl) (by simp [Tryd.ntmps4]) ?_
  refine pwC_sound _ _ _ _ ?_
  refine pwC_cut fun K hK => ?_
  simp [Tryd.ntmps4]
  refine hK _ _ ?_
  clear hK K
  refine pwC_cut fun K hK => ?_
  simp
  refine (heavy_c .any .nil l [] hl (by simp) hs _).mono ?_
  rintro _ s1 ⟨hs1, rfl⟩
  rw [hs1]
  clear hs1 s1
  cases hh : heavyB l ([] : List Int).length with
  | true =>
    clear hK
    simp
    refine (awake_c _ hv).mono ?_
    rintro _ s1 ⟨hs1, rfl⟩
    rw [hs1]
    simp
  | false =>
    obtain ⟨hl6, _, hs2⟩ := heavy_no hh
    simp
    refine hK _ _ ?_
    clear hK K
    refine pwC_cut fun K hK => ?_
    simp
    refine (pDefs_c .any l (by omega) hs2 _ hv).mono ?_
    rintro _ s1 ⟨hs1, rfl⟩
    rw [hs1]
    clear hs1 s1
    simp
    refine hK _ _ ?_
    clear hK K
    refine pwC_cut fun K hK => ?_
    simp
    refine (rDefs_c .any l (by omega) hs2 _).mono ?_
    rintro _ s1 ⟨hs1, rfl⟩
    rw [hs1]
    clear hs1 s1
    simp
    refine hK _ _ ?_
    clear hK K
    have hDl : (defsF 0 l).length ≤ 100000 := by
      have h1 := defsF_len l 0
      omega
    have hDp := defsF_len1 l hs2 0
    generalize defsF 0 l = D at *
    generalize hE : Env.put _ _ _ = E
    have g0 : E 0 = toks .any l := by rw [← hE]; simp
    have g1 : E 1 = .lit (.string name) := by rw [← hE]; simp
    have g2 : E 2 = .lit (.int .i64 a) := by rw [← hE]; simp
    have g7 : E 7 = defs .any D := by rw [← hE]; simp
    have g8 : E 8 = defs .any D := by rw [← hE]; simp
    clear hE
    refine pwC_cut fun K hK => ?_
    simp [g7, g8]
    refine hK _ _ ?_
    clear hK K
    refine pwC_cut fun K hK => ?_
    refine pwC_cut fun K2 hK2 => ?_
    simp
    refine hK2 _ _ ?_
    clear hK2 K2
    refine PW.loop (fun n e s' => ∃ j : Nat, j + n = D.length ∧ e 0 = toks .any l ∧ e 1 = .lit (.string name) ∧ e 2 = .lit (.int .i64 a) ∧ e 7 = defs .any D ∧ e 8 = defs .any D ∧ e 9 = .lit (.int .i64 j) ∧ s' = s) D.length ⟨0, by omega, by simp [g0], by simp [g1], by simp [g2], by simp [g7], by simp [g8], by simp, rfl⟩ ?_
    rintro n e s' ⟨j, hj, e0, e1, e2, e7, e8, e9, rfl⟩
    refine pwC_sound _ _ _ _ ?_
    by_cases hlt : j < D.length
    · have hlt' : (j : Int) < D.length := by omega
      have hg : D[j]? = some D[j] := List.getElem?_eq_getElem hlt
      obtain ⟨d, hd⟩ : ∃ d, D[j] = d := ⟨_, rfl⟩
      have hdp := hDp d (hd ▸ List.getElem_mem _)
      rw [hd] at hg
      have w1 : IntKind.i64.wrap ((j : Int) + 1) = ((j + 1 : Nat) : Int) := by rw [wrap_i64 (by omega) (by omega)]; omega
      clear hK
      simp [e7, e8, e9, hlt, hlt']
      refine PW.drawn (fun i => match i with | 8 => 1 | _ => 0) [0, 1, 2, 3, 4, 5, 6, 7, 8, 9] mixed_ (fun _ _ _ _ h => h) (by kernel_rfl) ?_
      simp [e7, e8, e9, hlt, hlt', hg, hd]
      refine quiet_of (eqDef_c .any .any d hdp _) ?_
      simp [e9, w1]
      exact ⟨n - 1, by omega, j + 1, by omega, by simp [e0], by simp [e1], by simp [e2], by simp [e7], by simp [e8], by simp⟩
    · have hlt' : ¬ (j : Int) < D.length := by omega
      simp [e7, e8, e9, hlt, hlt']
      refine hK _ _ ?_
      clear hK K
      refine pwC_cut fun K hK => ?_
      simp [e0, e1, e2]
      refine (pFind_c .any l name a (by omega) ha hs2 _ hv).mono ?_
      rintro _ s1 ⟨hs1, k1, rfl⟩
      rw [hs1]
      clear hs1 s1
      have hFl := findR_len l hs2 name a
      have hrF := fun s => rFind_c .any l name a (by omega) ha hs2 s
      generalize findR l name a = F at *
      simp
      intro i10 h10
      refine hK _ _ ?_
      clear hK K
      generalize hE : Env.put _ _ _ = E1
      have f0 : E1 0 = toks .any l := by rw [← hE]; simp [e0]
      have f1 : E1 1 = .lit (.string name) := by rw [← hE]; simp [e1]
      have f2 : E1 2 = .lit (.int .i64 a) := by rw [← hE]; simp [e2]
      have f10 : E1 10 = .pt i10 0 0 := by rw [← hE]; simp
      have f11 : E1 11 = .lit (.bool F.2) := by rw [← hE]; simp
      clear hE
      generalize hσ : St.upd s' _ _ = σ
      have c10 : σ i10 = some (.row 27 6 [encDC k1 F.1]) := by rw [← hσ]; simp
      have hsσ : s'.sub σ := by rw [← hσ]; exact sub_refl.upd_of h10
      clear hσ
      refine pwC_cut fun K hK => ?_
      simp [f0, f1, f2]
      refine (hrF _).mono ?_
      rintro _ s1 ⟨hs1, k2, rfl⟩
      rw [hs1]
      clear hs1 s1
      simp
      intro i12 h12
      refine hK _ _ ?_
      clear hK K
      have n10 : ¬ i10 = i12 := fun e => by subst e; rw [show σ i10 = none from h12] at c10; cases c10
      generalize hE : Env.put _ _ _ = E2
      have k10 : E2 10 = .pt i10 0 0 := by rw [← hE]; simp [f10]
      have k11 : E2 11 = .lit (.bool F.2) := by rw [← hE]; simp [f11]
      have k12 : E2 12 = .pt i12 0 0 := by rw [← hE]; simp
      have k13 : E2 13 = .lit (.bool F.2) := by rw [← hE]; simp
      clear hE
      generalize hσ : St.upd σ _ _ = σ2
      have d10 : σ2 i10 = some (.row 27 6 [encDC k1 F.1]) := by rw [← hσ, St.upd_ne _ _ n10]; exact c10
      have d12 : σ2 i12 = some (.row 30 6 [encDC k2 F.1]) := by rw [← hσ]; simp
      have hs2' : s'.sub σ2 := by rw [← hσ]; exact hsσ.upd_of (hsσ.fresh h12)
      clear hσ
      simp [k10, k11, k12, k13, d10, d12]
      refine (eqDef_c k1 k2 F.1 hFl _).mono ?_
      rintro _ s1 ⟨hs1, rfl⟩
      rw [hs1]
      clear hs1 s1
      simp [k10, k11, k12, k13, d10, d12, bin_bb]
      refine (awake_c _ (hv.sub hs2')).mono ?_
      rintro _ s1 ⟨hs1, rfl⟩
      rw [hs1]
      clear hs1 s1
      simp
      exact hs2'
theorem macroFinds_l {A : Prop} (l : List Tk) (hl : l.length ≤ 2 ^ 63 - 1) (hs : ∀ t ∈ l, t.text.size ≤ 140737488351232 ∧ t.before.size ≤ 140737488351232) (name : ByteArray) (_ : A) (a : Int) (ha : -9223372036854775808 ≤ a ∧ a ≤ 9223372036854775807) (s : St) (hv : Vars s) : PCalls Tryd.prog 4 [toks .any l, .lit (.string name), .lit (.int .i64 a)] s (fun r s' => s' = s ∧ r = .ret (.lit (.bool true))) :=
  macroFinds_c l name a (by omega) ha (fun _ x hx => (hs x hx).1) s hv
end Go.Pv
