/- A logic over plain values: blocks told otherwise between two lines. -/
import Derived.Test.YteajbghklmkoeaaPv18
namespace Go.Pv
set_option linter.unusedVariables false
set_option linter.unusedSimpArgs false
section
variable {P : Program} {N : Nat} {e : Env} {Q : Exit → Env → St → Prop} {s s' : St}
theorem PW.convS {c : Code} (h : Conv s [] s' []) (hq : PW P N c e s' Q) : PW P N c e s Q :=
  PW.conv (fun g w hH => by
    obtain ⟨g', hle, hH', _, _⟩ := h g w hH
    exact ⟨g', hle, hH', fun t v hv => hv.le hle.toLEv⟩) hq
theorem Conv.drop0 {p : List PV} (h : Conv s p s' p) : Conv s [] s' [] := fun g w hH => by
  obtain ⟨g', hle, hH', _, _⟩ := h g w hH
  exact ⟨g', hle, hH', rfl, fun i p p' v hp => by simp at hp⟩
/-- What comes behind is closed, as a triple. -/
theorem PW.cut {x y : Code} (h : ∀ K : Env → St → Prop, (∀ e s, PW P N y e s Q → K e s) → pwC P N x e s (thenQ K Q)) : PW P N (.seq x y) e s Q :=
  PW.seq (pwC_sound _ _ _ _ (h (fun e s => PW P N y e s Q) fun _ _ h => h))
/-- .. under one name, which allows that blocks are told otherwise. -/
theorem PW.cutR {x y : Code} (h : ∀ R : Env → St → Prop, (∀ e s, PW P N y e s Q → R e s) → (∀ e s s', Conv s [] s' [] → R e s' → R e s) → pwC P N x e s (thenQ R Q)) : PW P N (.seq x y) e s Q :=
  PW.seq (pwC_sound _ _ _ _ (h (fun e s => PW P N y e s Q) (fun _ _ h => h) fun _ _ _ hc h => PW.convS hc h))
theorem Conv.mid {v x : PV} {pre post : List PV} (h : Conv s (v :: (pre ++ post)) s' (x :: (pre ++ post))) : Conv s (pre ++ v :: post) s' (pre ++ x :: post) := by
  intro g w hH
  obtain ⟨g', hle, hH', _, hr⟩ := h g w hH
  refine ⟨g', hle, hH', by simp, fun i p p' u hp hp' hu => ?_⟩
  rcases Nat.lt_trichotomy i pre.length with hi | hi | hi
  · rw [List.getElem?_append_left hi] at hp hp'
    exact hr (i + 1) p p' u (by rw [List.getElem?_cons_succ, List.getElem?_append_left hi]; exact hp) (by rw [List.getElem?_cons_succ, List.getElem?_append_left hi]; exact hp') hu
  · subst hi
    simp at hp hp'
    subst hp hp'
    exact hr 0 _ _ u rfl rfl hu
  · rw [List.getElem?_append_right (by omega)] at hp hp'
    obtain ⟨d, hd⟩ : ∃ d, i - pre.length = d + 1 := ⟨i - pre.length - 1, by omega⟩
    rw [hd, List.getElem?_cons_succ] at hp hp'
    have hid : i - 1 + 1 = i := by omega
    refine hr (i - 1 + 1) p p' u ?_ ?_ hu
    · rw [List.getElem?_cons_succ, List.getElem?_append_right (by omega), show i - 1 - pre.length = d by omega]; exact hp
    · rw [List.getElem?_cons_succ, List.getElem?_append_right (by omega), show i - 1 - pre.length = d by omega]; exact hp'
/-- A slice that began as an empty literal. -/
def OwnT (ty : TypeId) (sz : Nat) (base : St) (els : List (List PV)) (v : PV) (s : St) : Prop :=
  (els = [] ∧ v = .vec .tight [] ∧ s = base) ∨ (els ≠ [] ∧ ∃ j, Fresh base j ∧ v = .sl j sz 0 els.length ∧ s = base.upd j (some (.row ty sz els)))
theorem OwnT.sub {ty : TypeId} {sz : Nat} {base : St} {els : List (List PV)} {v : PV} (h : OwnT ty sz base els v s) : base.sub s := by
  rcases h with ⟨_, _, rfl⟩ | ⟨_, j, hj, _, rfl⟩
  · exact sub_refl
  · exact sub_refl.upd hj
theorem appT {t t2 b ty sz : Nat} {z : Value} {y : PV} {ys : List (List PV)} {K : PV → St → Prop} (h1 : sliceT P t = some ty) (h2 : tsz P ty = some sz) (h3 : tby P ty = some b) (h4 : tzero P ty = some z) (h5 : z.cells.size = sz) (h6 : b ≠ 0)
    (h7 : ((sliceT P t2).isSome || isStrT P t2) = true) (hy : elemsOf s sz y = some ys) (hl : (2 * ys.length + 1000) * b ≤ 281474976710656) (hK : ∀ v' s', OwnT ty sz s ys v' s' → K v' s') : appW P s t t2 (.vec .tight []) y K := by
  unfold appW
  refine ex_okv h1 (ex_okv h2 (ex_okv h3 (ex_okv h4 (ex_okv hy ⟨h5, h6, h7, fun he => ?_, fun he => ?_⟩))))
  · exact ⟨rfl, hK _ _ (.inl ⟨he, rfl, rfl⟩)⟩
  · refine ex_okv (v := []) rfl ⟨by simp, by simpa using hl, fun i hi => hK _ _ (.inr ⟨he, i, hi, by simp, by simp⟩)⟩
theorem appT2 {t t2 b ty sz : Nat} {z : Value} {base : St} {els : List (List PV)} {v y : PV} {ys : List (List PV)} {K : PV → St → Prop} (h : OwnT ty sz base els v s) (h1 : sliceT P t = some ty) (h2 : tsz P ty = some sz) (h3 : tby P ty = some b) (h4 : tzero P ty = some z) (h5 : z.cells.size = sz) (h6 : b ≠ 0)
    (h7 : ((sliceT P t2).isSome || isStrT P t2) = true) (hy : ∀ s, elemsOf s sz y = some ys) (hne : ys ≠ []) (hl : (2 * (els.length + ys.length) + 1000) * b ≤ 281474976710656) (hK : ∀ v' s', OwnL ty sz base (els ++ ys) v' s' → K v' s') : appW P s t t2 v y K := by
  rcases h with ⟨rfl, rfl, rfl⟩ | ⟨h0, j, hj, rfl, rfl⟩
  · refine appT h1 h2 h3 h4 h5 h6 h7 (hy _) (by simpa using hl) fun v' s' h => hK v' s' ?_
    rcases h with ⟨q, _⟩ | ⟨q, k, hk, rfl, rfl⟩
    · exact absurd q hne
    · exact .inr ⟨by simpa using hne, k, hk, by simp, by simp⟩
  · exact appOwn (.inr ⟨h0, j, hj, rfl, rfl⟩) h1 h2 h3 h4 h5 h6 h7 hy hl hK
/-- Fewer blocks, in a part of the state. -/
theorem OwnL.shrink {ty : TypeId} {sz : Nat} {b b1 : St} {els : List (List PV)} {v : PV} (h : OwnL ty sz b1 els v s) (hb : b.sub b1) : ∃ s2 : St, s2.sub s ∧ OwnL ty sz b els v s2 := by
  rcases h with ⟨h1, h2, rfl⟩ | ⟨h0, j, hj, rfl, rfl⟩
  · exact ⟨b, hb, .inl ⟨h1, h2, rfl⟩⟩
  · refine ⟨b.upd j (some (.row ty sz els)), fun k z hk => ?_, .inr ⟨h0, j, hb.fresh hj, rfl, rfl⟩⟩
    by_cases h : k = j
    · subst h; rw [St.upd_same] at hk ⊢; exact hk
    · rw [St.upd_ne _ _ h] at hk ⊢; exact hb k z hk
/-- Less is known of a block's cells. -/
theorem Conv.wkBlk {b : Nat} {ty : TypeId} {sz : Nat} {els els' : List (List PV)} (hs : s b = some (.row ty sz els)) (hl : els'.length = els.length) (hw : ∀ (j : Nat) (cs : List PV), els[j]? = some cs → ∃ cs', els'[j]? = some cs' ∧ cs'.length = cs.length ∧ ∀ (f : Nat) (c c' : PV), cs[f]? = some c → cs'[f]? = some c' → Wk c c') :
    Conv s [] (s.upd b (some (.row ty sz els'))) [] := by
  intro g w hH
  refine ⟨g, .refl _ _, ?_, rfl, fun i p p' v hp => by simp at hp⟩
  have hne : s b ≠ none := by rw [hs]; simp
  have hold : ∀ k, (s.upd b (some (.row ty sz els'))) k ≠ none → s k ≠ none := fun k hk => by
    by_cases h1 : k = b
    · rw [h1]; exact hne
    · rwa [St.upd_ne _ _ h1] at hk
  refine ⟨fun k hk => ?_, hH.zlt, fun k c hk => ?_, fun k j hk hj => hH.inj k j (hold k hk) (hold j hj), fun k c hk hr => ?_⟩
  · have := hH.fresh k hk
    by_cases h1 : k = b
    · subst h1; exact absurd this hne
    · rw [St.upd_ne _ _ h1]; exact this
  · by_cases h1 : k = b
    · subst h1
      rw [St.upd_same] at hk
      cases hk
      obtain ⟨_, _, _, arr, hz, h2, h3, h4, h5, h6⟩ := hH.blk k _ hs
      have get : ∀ (j : Nat) (cs' : List PV), els'[j]? = some cs' → ∃ cs, els[j]? = some cs ∧ cs'.length = cs.length ∧ ∀ (f : Nat) (c c' : PV), cs[f]? = some c → cs'[f]? = some c' → Wk c c' := fun j cs' hj => by
        have hlt : j < els.length := by rw [← hl]; exact (List.getElem?_eq_some_iff.1 hj).1
        obtain ⟨cs2, q1, q2, q3⟩ := hw j _ (List.getElem?_eq_getElem hlt)
        rw [hj] at q1
        cases q1
        exact ⟨_, List.getElem?_eq_getElem hlt, q2, q3⟩
      refine .row _ _ _ arr hz h2 h3 (by rw [hl]; exact h4) (fun j cs' hj => ?_) (fun j cs' f c' hj hf => ?_)
      · obtain ⟨cs, q1, q2, _⟩ := get j cs' hj
        rw [q2]; exact h5 j cs q1
      · obtain ⟨cs, q1, q2, q3⟩ := get j cs' hj
        have hlt : f < cs.length := by rw [← q2]; exact (List.getElem?_eq_some_iff.1 hf).1
        obtain ⟨v, r1, r2, r3⟩ := h6 j cs f _ q1 (List.getElem?_eq_getElem hlt)
        exact ⟨v, r1, r2, r3.wk (q3 f _ c' (List.getElem?_eq_getElem hlt) hf)⟩
    · rw [St.upd_ne _ _ h1] at hk
      exact hH.blk k c hk
  · by_cases h1 : k = b
    · subst h1
      exact hH.apart k _ hs rfl
    · rw [St.upd_ne _ _ h1] at hk
      exact hH.apart k c hk hr
theorem fz1_off {j : Nat} {xs : List PV} : ∀ {l : List PV}, (∀ i z o n, PV.sl i z o n ∉ l) → l.map (fz1 j xs) = l
  | [], _ => rfl
  | c :: l, h => by
    rw [List.map_cons, fz1_off (fun i z o n hm => h i z o n (List.mem_cons_of_mem _ hm))]
    congr 1
    cases c with
    | sl i z o n => exact absurd List.mem_cons_self (h i z o n)
    | _ => rfl
/-- A slice of one's own, inside a struct, ends as a list. -/
theorem Conv.ownAgg {ty : TypeId} {sz : Nat} {base : St} {els : List (List PV)} {v : PV} (h : OwnL ty sz base els v s) {xs : List PV} (hx : xs.map PV.cells = els) (pre post : List PV) (h1 : ∀ i z o n, PV.sl i z o n ∉ pre) (h2 : ∀ i z o n, PV.sl i z o n ∉ post) :
    Conv s [.agg (pre ++ v :: post)] base [.agg (pre ++ .vec .any xs :: post)] := by
  rcases h with ⟨rfl, rfl, rfl⟩ | ⟨h0, j, hj, rfl, rfl⟩
  · have : xs = [] := by simpa using hx
    subst this
    refine Conv.wk (.cons (Wk.aggs ?_) .nil)
    clear hx h1 h2
    induction pre with
    | nil =>
      refine .cons (.any .nil []) ?_
      induction post with
      | nil => exact .nil
      | cons c r ih => exact .cons (.refl _) ih
    | cons c r ih => exact .cons (.refl _) ih
  · have := Conv.freeze (s := base.upd j (some (.row ty sz els))) (i := j) (St.upd_same _ _ _) hx (.agg (pre ++ PV.sl j sz 0 els.length :: post)) (fun a z o l hp hj => by
      rcases hp with hp | ⟨cs, hp, hm⟩
      · cases hp
      · cases hp
        rcases List.mem_append.1 hm with hm | hm
        · exact absurd hm (h1 _ _ _ _)
        · rcases List.mem_cons.1 hm with hm | hm
          · cases hm; simp
          · exact absurd hm (h2 _ _ _ _)) (fun cs h => by cases h)
    rw [St.upd_upd, St.upd_none hj] at this
    have hl : xs.length = els.length := by rw [← hx]; simp
    have he : fz j xs (.agg (pre ++ PV.sl j sz 0 els.length :: post)) = .agg (pre ++ .vec .any xs :: post) := by
      simp only [fz, List.map_append, List.map_cons, fz1_off h1, fz1_off h2]
      congr 3
      simp [fz1]
      rw [List.take_of_length_le (by omega)]
    rw [he] at this
    exact this
end
end Go.Pv
