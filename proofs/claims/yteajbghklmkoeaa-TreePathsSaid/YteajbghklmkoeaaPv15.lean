/- A logic over plain values: what may be done to values and blocks between the lines. -/
import Derived.Test.YteajbghklmkoeaaPv14
namespace Go.Pv
set_option linter.unusedVariables false
set_option linter.unusedSimpArgs false
/-- In these blocks these values may be taken for those, in those blocks. -/
def Conv (s : St) (ps : List PV) (s' : St) (ps' : List PV) : Prop := ∀ (g : G) (w : World), Holds g s w →
  ∃ g', LE g w g' w ∧ Holds g' s' w ∧ ps'.length = ps.length ∧ ∀ (i : Nat) (p p' : PV) (v : Value), ps[i]? = some p → ps'[i]? = some p' → VR w g p v → VR w g' p' v
theorem Conv.refl (s : St) (ps : List PV) : Conv s ps s ps := fun g w hH => ⟨g, .refl _ _, hH, rfl, fun i p p' v h h' hv => by rw [h] at h'; cases h'; exact hv⟩
theorem Conv.sub {s s' : St} (h : s'.sub s) (ps : List PV) : Conv s ps s' ps := fun g w hH => ⟨g, .refl _ _, hH.sub h, rfl, fun i p p' v h h' hv => by rw [h] at h'; cases h'; exact hv⟩
theorem Conv.trans {s1 s2 s3 : St} {a b c : List PV} (h : Conv s1 a s2 b) (h' : Conv s2 b s3 c) : Conv s1 a s3 c := by
  intro g w hH
  obtain ⟨g1, l1, H1, n1, r1⟩ := h g w hH
  obtain ⟨g2, l2, H2, n2, r2⟩ := h' g1 w H1
  refine ⟨g2, l1.trans l2, H2, n2.trans n1, fun i p p' v hp hp' hv => ?_⟩
  have hlt : i < b.length := by rw [n1]; exact (List.getElem?_eq_some_iff.1 hp).1
  exact r2 i _ p' v (List.getElem?_eq_getElem hlt) hp' (r1 i p _ v hp (List.getElem?_eq_getElem hlt) hv)
section
variable {P : Program} {w : World} {g : G} {s : St} {N : Nat} {e : Env} {a : Act}
theorem PCalls.conv {f : FuncId} {args : List PV} {R R' : Res → St → Prop} (h : PCalls P f args s R) (hr : ∀ p s', R (.ret p) s' → ∃ p' s2, Conv s' [p] s2 [p'] ∧ R' (.ret p') s2) (hp : ∀ c s', R (.pan c) s' → R' (.pan c) s') : PCalls P f args s R' := by
  rcases h with h | h
  · refine .inl ⟨h.1, fun g w vs hH hA => (h.2 g w vs hH hA).mono ?_⟩
    rintro e w' ⟨res, s', g', h1, h2, h3, h4⟩
    cases h3 with
    | ret p v hv =>
      obtain ⟨p', s2, hc, hR⟩ := hr p s' h4
      obtain ⟨g2, l2, H2, _, r2⟩ := hc g' w' h2
      exact ⟨_, s2, g2, h1.trans l2, H2, .ret p' v (r2 0 p p' v rfl rfl hv), hR⟩
    | pan c => exact ⟨_, s', g', h1, h2, .pan c, hp c s' h4⟩
  · refine .inr fun g w vs hH hA => ?_
    obtain ⟨p, v, s', g', w', h1, h2, h3, h4, h5⟩ := h g w vs hH hA
    obtain ⟨p', s2, hc, hR⟩ := hr p s' h5
    obtain ⟨g2, l2, H2, _, r2⟩ := hc g' w' h3
    exact ⟨p', v, s2, g2, w', h1, h2.trans l2, H2, r2 0 p p' v rfl rfl h4, hR⟩
theorem PCalls.args {f : FuncId} {ps ps' : List PV} {s' : St} {R : Res → St → Prop} (hc : Conv s ps s' ps') (h : PCalls P f ps' s' R) : PCalls P f ps s R := by
  have tr : ∀ (g : G) (w : World) (vs : Array Value), Holds g s w → Args w g ps vs → ∃ g1, LE g w g1 w ∧ Holds g1 s' w ∧ Args w g1 ps' vs := by
    intro g w vs hH hA
    obtain ⟨g1, l1, H1, n1, r1⟩ := hc g w hH
    refine ⟨g1, l1, H1, hA.1.trans n1.symm, fun i p v hp hv => ?_⟩
    have hlt : i < ps.length := by rw [← n1]; exact (List.getElem?_eq_some_iff.1 hp).1
    exact r1 i _ p v (List.getElem?_eq_getElem hlt) hp (hA.2 i _ v (List.getElem?_eq_getElem hlt) hv)
  rcases h with h | h
  · refine .inl ⟨h.1, fun g w vs hH hA => ?_⟩
    obtain ⟨g1, l1, H1, A1⟩ := tr g w vs hH hA
    refine (h.2 g1 w vs H1 A1).mono ?_
    rintro e w' ⟨res, s', g', h1, h2, h3, h4⟩
    exact ⟨res, s', g', l1.trans h1, h2, h3, h4⟩
  · refine .inr fun g w vs hH hA => ?_
    obtain ⟨g1, l1, H1, A1⟩ := tr g w vs hH hA
    obtain ⟨p, v, s2, g', w', h1, h2, h3, h4, h5⟩ := h g1 w vs H1 A1
    exact ⟨p, v, s2, g', w', h1, l1.trans h2, h3, h4, h5⟩
/-- Less is known of a value. -/
inductive Wk : PV → PV → Prop where
  | refl (p : PV) : Wk p p
  | any (k : VK) (xs : List PV) : Wk (.vec k xs) (.vec .any xs)
  | nil (k : VK) : Wk (.vec .nil []) (.vec .tight [])
  | agg (cs ds : List PV) (hl : ds.length = cs.length) (h : ∀ (i : Nat) (c d : PV), cs[i]? = some c → ds[i]? = some d → Wk c d) : Wk (.agg cs) (.agg ds)
  | elems (k : VK) (xs ys : List PV) (hl : ys.length = xs.length) (hw : ∀ (i : Nat) (x y : PV), xs[i]? = some x → ys[i]? = some y → y.width = x.width) (h : ∀ (i : Nat) (x y : PV) (j : Nat) (c d : PV), xs[i]? = some x → ys[i]? = some y → x.cells[j]? = some c → y.cells[j]? = some d → Wk c d) : Wk (.vec k xs) (.vec .any ys)
  | tup (cs ds : List PV) (hl : ds.length = cs.length) (h : ∀ (i : Nat) (c d : PV), cs[i]? = some c → ds[i]? = some d → Wk c d) : Wk (.tup cs) (.tup ds)
theorem VR.wk {p q : PV} (h : Wk p q) : ∀ {v : Value}, VR w g p v → VR w g q v := by
  induction h with
  | refl p => exact fun h => h
  | any k xs =>
    intro v hv
    cases hv with
    | vec _ _ A cap sz f hc hk hn h0 hs hm hr => exact .vec .any xs A cap sz f hc (fun h => absurd rfl h) (fun h => by cases h) h0 hs hm hr
  | nil k =>
    intro v hv
    cases hv with
    | vec _ _ A cap sz f hc hk hn h0 hs hm hr => exact .vec .tight [] A cap sz f hc (fun _ => hk (by simp)) (fun h => by cases h) h0 hs hm hr
  | agg cs ds hl h ih =>
    intro v hv
    cases hv with
    | agg _ vs h1 h2 h3 =>
      refine .agg ds vs (by omega) h2 (fun i c v hc hv => ?_)
      have hlt : i < cs.length := by rw [← hl]; exact (List.getElem?_eq_some_iff.1 hc).1
      exact ih i _ c (List.getElem?_eq_getElem hlt) hc (h3 i _ v (List.getElem?_eq_getElem hlt) hv)
  | elems k xs ys hl hw h ih =>
    intro v hv
    cases hv with
    | vec _ _ A cap sz f hc hk hn h0 hs hm hr =>
      have get : ∀ (i : Nat) (y : PV) (j : Nat) (d : PV), ys[i]? = some y → y.cells[j]? = some d → ∃ x c, xs[i]? = some x ∧ x.cells[j]? = some c := by
        intro i y j d hy hd
        have hlt : i < xs.length := by rw [← hl]; exact (List.getElem?_eq_some_iff.1 hy).1
        have hx := List.getElem?_eq_getElem hlt
        have hwj := hw i _ y hx hy
        have hj : j < (xs[i]).cells.length := by
          have := (List.getElem?_eq_some_iff.1 hd).1
          unfold PV.width at hwj; omega
        exact ⟨_, _, hx, List.getElem?_eq_getElem hj⟩
      rw [← hl]
      refine .vec .any ys A cap sz f (by omega) (fun h => absurd rfl h) (fun h => by cases h) h0 (fun i y hy => ?_) (fun i y j d hy hd => ?_) (fun i y j d hy hd => ?_)
      · have hlt : i < xs.length := by rw [← hl]; exact (List.getElem?_eq_some_iff.1 hy).1
        have hx := List.getElem?_eq_getElem hlt
        rw [hw i _ y hx hy]; exact hs i _ hx
      · obtain ⟨x, c, hx, hcx⟩ := get i y j d hy hd
        exact hm i x j c hx hcx
      · obtain ⟨x, c, hx, hcx⟩ := get i y j d hy hd
        exact ih i x y j c d hx hy hcx hd (hr i x j c hx hcx)
  | tup cs ds hl h ih =>
    intro v hv
    cases hv with
    | tup _ vs h1 h3 =>
      refine .tup ds vs (by omega) (fun i c v hc hv => ?_)
      have hlt : i < cs.length := by rw [← hl]; exact (List.getElem?_eq_some_iff.1 hc).1
      exact ih i _ c (List.getElem?_eq_getElem hlt) hc (h3 i _ v (List.getElem?_eq_getElem hlt) hv)
inductive Wks : List PV → List PV → Prop where
  | nil : Wks [] []
  | cons {p q : PV} {ps qs : List PV} (h : Wk p q) (t : Wks ps qs) : Wks (p :: ps) (q :: qs)
theorem Wks.length_eq {cs ds : List PV} (h : Wks cs ds) : cs.length = ds.length := by
  induction h with
  | nil => rfl
  | cons _ _ ih => simp [ih]
theorem Wk.aggs {cs ds : List PV} (h : Wks cs ds) : Wk (.agg cs) (.agg ds) := by
  refine .agg cs ds h.length_eq.symm ?_
  induction h with
  | nil => intro i c d hc; simp at hc
  | cons h _ ih =>
    intro i c d hc hd
    cases i with
    | zero => cases hc; cases hd; exact h
    | succ i => exact ih i c d hc hd
theorem Wk.cells {x y : PV} (h : Wk x y) : y.width = x.width ∧ ∀ (j : Nat) (c d : PV), x.cells[j]? = some c → y.cells[j]? = some d → Wk c d := by
  have one : ∀ {x y : PV}, Wk x y → x.cells = [x] → y.cells = [y] → y.width = x.width ∧ ∀ (j : Nat) (c d : PV), x.cells[j]? = some c → y.cells[j]? = some d → Wk c d := by
    intro x y h hx hy
    refine ⟨by simp [PV.width, hx, hy], fun j c d hc hd => ?_⟩
    rw [hx] at hc; rw [hy] at hd
    cases j with
    | zero => cases hc; cases hd; exact h
    | succ j => simp at hc
  cases h with
  | refl p => exact ⟨rfl, fun j c d hc hd => by rw [hc] at hd; cases hd; exact .refl _⟩
  | agg cs ds hl h => exact ⟨hl, h⟩
  | any k xs => exact one (.any k xs) rfl rfl
  | nil k => exact one (.nil k) rfl rfl
  | elems k xs ys a b c => exact one (.elems k xs ys a b c) rfl rfl
  | tup cs ds hl h => exact one (.tup cs ds hl h) rfl rfl
theorem Wk.elemsL {k : VK} {xs ys : List PV} (h : Wks xs ys) : Wk (.vec k xs) (.vec .any ys) := by
  have key : ∀ (i : Nat) (x y : PV), xs[i]? = some x → ys[i]? = some y → Wk x y := by
    induction h with
    | nil => intro i x y hx; simp at hx
    | cons h _ ih =>
      intro i x y hx hy
      cases i with
      | zero => cases hx; cases hy; exact h
      | succ i => exact ih i x y hx hy
  exact .elems k xs ys h.length_eq.symm (fun i x y hx hy => (key i x y hx hy).cells.1) (fun i x y j c d hx hy hc hd => (key i x y hx hy).cells.2 j c d hc hd)
theorem Conv.wk {ps ps' : List PV} (h : Wks ps ps') : Conv s ps s ps' := by
  refine fun g w hH => ⟨g, .refl _ _, hH, h.length_eq.symm, ?_⟩
  clear hH
  induction h with
  | nil => intro i p p' v hp; simp at hp
  | cons h _ ih =>
    intro i p p' v hp hp' hv
    cases i with
    | zero => cases hp; cases hp'; exact hv.wk h
    | succ i => exact ih i p p' v hp hp' hv
theorem PCalls.wk {f : FuncId} {ps ps' : List PV} {R : Res → St → Prop} (h : PCalls P f ps' s R) (hw : Wks ps ps') : PCalls P f ps s R := PCalls.args (Conv.wk hw) h
/-- Slices into block i, as lists. -/
def fz1 (i : Nat) (xs : List PV) : PV → PV
  | .sl j sz off len => if j = i then .vec .any ((xs.drop off).take len) else .sl j sz off len
  | p => p
def fz (i : Nat) (xs : List PV) : PV → PV
  | .agg cs => .agg (cs.map (fz1 i xs))
  | .tup cs => .tup (cs.map fun c => match c with | .agg ds => .agg (ds.map (fz1 i xs)) | c => fz1 i xs c)
  | p => fz1 i xs p
/-- A block is never written again: its slices are lists. -/
theorem fz1_vr {g' : G} {i : Nat} {ty : TypeId} {sz : Nat} {els : List (List PV)} {xs : List PV} (hH : Holds g s w) (hs : s i = some (.row ty sz els)) (hx : xs.map PV.cells = els) (hle : LEv g w g' w) (hZ : g'.Z (g.mu i).blk) :
    ∀ {p : PV} {v : Value}, (∀ j z off len, p = .sl j z off len → j = i → off + len ≤ els.length) → VR w g p v → VR w g' (fz1 i xs p) v := by
  intro p v hb hv
  unfold fz1
  split
  · rename_i j z off len
    split
    · rename_i hji
      subst hji
      have hbd := hb _ _ _ _ rfl rfl
      cases hv with
      | sl _ _ _ _ cap hi hc hz hbb =>
        obtain ⟨_, _, _, arr, hz2, hblk, hsz, hl, he, h5⟩ := hH.blk j _ hs
        have hxl : xs.length = els.length := by rw [← hx]; simp
        have hzz : z = sz := by rw [← hz, hz2]
        subst hzz
        have hlen : ((xs.drop off).take len).length = len := by simp; omega
        have hget : ∀ (k : Nat) (x : PV), ((xs.drop off).take len)[k]? = some x → els[off + k]? = some x.cells ∧ k < len := by
          intro k x hk
          rw [List.getElem?_take] at hk
          split at hk
          · rw [List.getElem?_drop] at hk
            rw [← hx, List.getElem?_map, hk]
            exact ⟨rfl, ‹_›⟩
          · cases hk
        have key : ∀ (k : Nat) (x : PV) (f : Nat) (c : PV), ((xs.drop off).take len)[k]? = some x → x.cells[f]? = some c → arr[(off + k) * z + f]? = some (arr.getD ((off + k) * z + f) undef) ∧ Value.oneCell' (arr.getD ((off + k) * z + f) undef) = true ∧ VR w g c (arr.getD ((off + k) * z + f) undef) := by
          intro k x f c hk hf
          obtain ⟨u, q1, q2, q3⟩ := h5 _ _ f c (hget k x hk).1 hf
          have : arr.getD ((off + k) * z + f) undef = u := by rw [Array.getD_eq_getD_getElem?, q1]; rfl
          rw [this]; exact ⟨q1, q2, q3⟩
        have := VR.vec (w := w) (g := g') .any ((xs.drop off).take len) (some ⟨(g.mu j).blk, off * z, none⟩) cap z (fun k f => arr.getD ((off + k) * z + f) undef) (by omega) (fun h => absurd rfl h) (fun h => by cases h) (fun h => by cases h) (fun k x hk => by
            have := he _ _ (hget k x hk).1
            exact this) (fun k x f c hk hf => ⟨_, rfl, hZ, by
              obtain ⟨q1, q2, q3⟩ := key k x f c hk hf
              rw [Pv.add_plain]
              simp only [World.cell?, hblk]
              rw [← q1, Nat.add_mul, Nat.add_assoc]
              rfl, (key k x f c hk hf).2.1⟩) (fun k x f c hk hf => ((key k x f c hk hf).2.2).le hle)
        rw [hlen] at this
        exact this
    · exact hv.le hle
  · exact hv.le hle
theorem Conv.freeze {i : Nat} {ty : TypeId} {sz : Nat} {els : List (List PV)} {xs : List PV} (hs : s i = some (.row ty sz els)) (hx : xs.map PV.cells = els) (p : PV)
    (hb : ∀ j z off len, (p = .sl j z off len ∨ ∃ cs, p = .agg cs ∧ .sl j z off len ∈ cs) → j = i → off + len ≤ els.length) (ht : ∀ cs, p ≠ .tup cs) : Conv s [p] (s.upd i none) [fz i xs p] := by
  intro g w hH
  have hne : s i ≠ none := by rw [hs]; simp
  have hsub : (s.upd i none).sub s := by
    intro k b hk
    by_cases h : k = i
    · subst h; rw [St.upd_same] at hk; cases hk
    · rwa [St.upd_ne _ _ h] at hk
  have hlt := (hH.blk i _ hs).lt
  refine ⟨g.freeze (g.mu i).blk, LE.freeze _, (hH.sub hsub).freeze hlt (fun k hk hb => ?_), rfl, ?_⟩
  · by_cases h : k = i
    · subst h; rw [St.upd_same] at hk; exact hk rfl
    · rw [St.upd_ne _ _ h] at hk; exact h (hH.inj k i hk hne hb)
  · intro k q q' v hq hq' hv
    cases k with
    | succ k => simp at hq
    | zero =>
      cases hq; cases hq'
      have hle := LEv.freeze (g := g) (w := w) (g.mu i).blk
      have hZ : (g.freeze (g.mu i).blk).Z (g.mu i).blk := .inr rfl
      unfold fz
      split
      · rename_i cs
        cases hv with
        | agg _ vs h1 h2 h3 =>
          refine .agg _ vs (by simpa using h1) h2 (fun j c u hc hu => ?_)
          rw [List.getElem?_map] at hc
          cases hcj : cs[j]? with
          | none => rw [hcj] at hc; cases hc
          | some c0 =>
            rw [hcj] at hc
            cases hc
            exact fz1_vr hH hs hx hle hZ (fun a b c d he hji => hb a b c d (.inr ⟨cs, rfl, by rw [← he]; exact List.mem_of_getElem? hcj⟩) hji) (h3 j c0 u hcj hu)
      · exact absurd rfl (ht _)
      · exact fz1_vr hH hs hx hle hZ (fun a b c d he hji => hb a b c d (.inl he) hji) hv
theorem PW.drawn {ops : List Oper} {id : Nat} {Q : Exit → Env → St → Prop} (kd : Nat → Nat) (p : List Nat) (hm : P.follows .mixedOrders = true) (hQ : ∀ c e e' s, Q (.panic c) e s → Q (.panic c) e' s) (hc : chk ops.toArray kd p (ancs ops.toArray) = true)
    (h : match fcp (dsts ops) (pickL ops kd p) with
      | some (ds, L) => pwP P St.empty ds N L e s (Q .normal) (fun c e s => Q (.panic c) e s)
      | none => False) : PW P N (.region id ops.toArray true) e s Q := PW.draw hm hQ hc (fun _ _ h => by cases h) (pwD_of p h)
/-- What lies in A stays as it is: loads of it may come behind what writes elsewhere. -/
theorem PW.drawnA {ops : List Oper} {id : Nat} {Q : Exit → Env → St → Prop} (A : St) (kd : Nat → Nat) (p : List Nat) (hm : P.follows .mixedOrders = true) (hQ : ∀ c e e' s, Q (.panic c) e s → Q (.panic c) e' s) (hc : chk ops.toArray kd p (ancs ops.toArray) = true) (hA : A.sub s)
    (h : match fcp (dsts ops) (pickL ops kd p) with
      | some (ds, L) => pwP P A ds N L e s (Q .normal) (fun c e s => Q (.panic c) e s)
      | none => False) : PW P N (.region id ops.toArray true) e s Q := PW.draw hm hQ hc hA (pwD_of p h)
/-- What comes behind is closed while a piece is told. -/
theorem pwC_cut {x y : Code} {Q : Exit → Env → St → Prop} (h : ∀ K : Env → St → Prop, (∀ e s, pwC P N y e s Q → K e s) → pwC P N x e s (thenQ K Q)) : pwC P N (.seq x y) e s Q :=
  h (fun e s => pwC P N y e s Q) fun _ _ h => h
/-- Between two lines of a function, too. -/
theorem PW.conv {c : Code} {Q : Exit → Env → St → Prop} {e' : Env} {s' : St} (h : ∀ (g : G) (w : World), Holds g s w → ∃ g', LE g w g' w ∧ Holds g' s' w ∧ ∀ t v, VR w g (e t) v → VR w g' (e' t) v) (hq : PW P N c e' s' Q) : PW P N c e s Q := by
  intro r B g a w hr hH hE hd
  obtain ⟨g', hle, hH', hv⟩ := h g w hH
  exact wpIn_mono (hq r B g' a w hr hH' ⟨hE.size, fun t => hv t _ (hE.vr t)⟩ (hd.le hle)) fun _ _ _ => PQ.trans hle
end
end Go.Pv
