/- A logic over plain values: every operation. -/
import Derived.Test.YteajbghklmkoeaaPv6
namespace Go.Pv
set_option linter.unusedVariables false
set_option linter.unusedSimpArgs false
section
variable {P : Program} {w : World} {g : G} {s : St} {N : Nat} {e : Env} {a : Act}
theorem append_sound (hH : Holds g s w) {t t2 ty : TypeId} {x y : PV} {u v : Value} (hx : VR w g x u) (hy : VR w g y v) {K : PV → St → Prop} (h : appW P s t t2 x y K) :
    ∃ q r s' g' w', (Builtin.append_ #[t, t2] ty #[u, v]).run P w = .ok q w' ∧ LE g w g' w' ∧ Holds g' s' w' ∧ VR w' g' r q ∧ K r s' := by
  obtain ⟨el, n, b, z, hel, hn, hb, hz, hzn, hb0, h2, ys, hys, hnil, hcons⟩ := appW_iff.1 h
  obtain ⟨y1, y2, new, y3, y4, y5, y6⟩ := elemsOf_sound (P := P) hH hy hys
  by_cases hy0 : ys = []
  · subst hy0
    obtain ⟨his, hK⟩ := hnil rfl
    have hn0 : new = #[] := Array.eq_empty_of_size_eq_zero (by simpa using y4)
    subst hn0
    have hrun : ∀ base len cap, u = .slice base len cap → len ≤ cap → (Builtin.append_ #[t, t2] ty #[u, v]).run P w = .ok u w := by
      rintro base len cap rfl hc
      exact run_append_room (m := 0) (w' := w) hel hn h2 (y2 w rfl) (y3 w rfl) (by omega) (fun a _ => rfl) (fun _ => rfl)
    have hsl : ∃ base len cap, u = .slice base len cap ∧ len ≤ cap := by
      cases hx with
      | vec k xs A cap sz f hc => exact ⟨_, _, _, rfl, hc⟩
      | sl i sz off len cap hi hc => exact ⟨_, _, _, rfl, hc⟩
      | _ => cases his
    obtain ⟨base, len, cap, hu, hc⟩ := hsl
    exact ⟨u, x, s, g, w, hrun base len cap hu hc, .refl _ _, hH, hx, hK⟩
  · have hK := hcons hy0
    have hpos : 0 < ys.length := List.length_pos_iff.2 hy0
    cases hx with
    | vec k xs A cap sz f hc hk hnn h0 hs hm hr =>
      obtain ⟨xe, hxe, hka, hbd, hK⟩ := hK
      have hxv : VR w g (.vec k xs) (.slice A xs.length cap) := .vec k xs A cap sz f hc hk hnn h0 hs hm hr
      have hcap := hk hka
      obtain ⟨x1, x2, old, x3, x4, x5, x6⟩ := elemsOf_sound (P := P) hH hxv hxe
      have hxl : xe.length = xs.length := by
        unfold elemsOf at hxe
        split at hxe
        · split at hxe
          · cases hxe; simp_all
          · cases hxe
        all_goals simp_all
      obtain ⟨c, w0, hrun, hle, hw0, ho, ht, hou⟩ := run_append_moves (P := P) (ty := ty) (base := A) (len := xs.length) (cap := cap) (m := ys.length) (y := v) (old := old) (new := new) hel hn hb hz hb0 h2 y2 y3 (by rw [hxl] at x3; exact x3) (by omega) hbd
      have hH0 := hH.heap hw0
      obtain ⟨r1, r2⟩ := grown_rows (rest := Builtin.zeroCells z.cells (c - (xs.length + ys.length))) (w := w) (g := g) x1 y1 x4 y4 x6 y6
      have hsz : (old ++ new ++ Builtin.zeroCells z.cells (c - (xs.length + ys.length))).size = c * n := by
        simp only [Array.size_append, x4, y4, zeroCells_size, hzn, hxl, ← Nat.add_mul]
        congr 1
        omega
      have hnew := Holds.new hH0 (old ++ new ++ Builtin.zeroCells z.cells (c - (xs.length + ys.length))) el n (xe ++ ys) (by rw [hsz, List.length_append, hxl]; exact Nat.mul_le_mul_right _ hle) r1 (fun j cs f c hj hf => by
        obtain ⟨q, q1, q2, q3⟩ := r2 j cs f c hj hf
        exact ⟨q, q1, q2, q3.le (LEv.same hw0)⟩)
      have hw0s : w0.heap.size = w.heap.size := by rw [hw0]
      refine ⟨_, _, _, _, _, hrun, ?_, hnew, ?_, hK g.n (hH.fresh _ (Nat.le_refl _))⟩
      · refine LE.trans (g2 := g) (w2 := w0) ⟨LEv.same hw0, ho, ht, hou, by rw [hw0]; exact Nat.le_refl _⟩ ?_
        exact LE.more hH0 _ _
      · have := VR.sl (w := pushed w0 (.cells (old ++ new ++ Builtin.zeroCells z.cells (c - (xs.length + ys.length))) el (0, 0))) (g := g.more ⟨w0.heap.size, (old ++ new ++ Builtin.zeroCells z.cells (c - (xs.length + ys.length))).size, n⟩) g.n n 0 (xs.length + ys.length) c (by simp [G.more]) hle (by simp [G.more]) (by simp only [G.more, if_true]; rw [hsz, Nat.zero_add]; exact Nat.le_refl _)
        have hmu : (g.more ⟨w0.heap.size, (old ++ new ++ Builtin.zeroCells z.cells (c - (xs.length + ys.length))).size, n⟩).mu g.n = ⟨w0.heap.size, (old ++ new ++ Builtin.zeroCells z.cells (c - (xs.length + ys.length))).size, n⟩ := by simp [G.more]
        rw [hmu] at this
        simp only [Nat.zero_mul, hw0s] at this
        rw [hw0s]
        exact this
    | sl i sz off len cap hi hc hz' hbk =>
      obtain ⟨els, hs, rfl, hel', rfl, hbd, hK⟩ := hK
      obtain ⟨_, _, _, arr, hz2, hblk, hasz, hl, he, h5⟩ := hH.blk i _ hs
      have hne : s i ≠ none := by rw [hs]; simp
      have hxv : VR w g (.sl i sz 0 len) (.slice (some ⟨(g.mu i).blk, 0 * sz, none⟩) len cap) := .sl i sz 0 len cap hi hc hz' hbk
      rw [Nat.zero_add] at hbk
      by_cases hroom : len + ys.length ≤ cap
      · -- in place
        have hfit : len * sz + new.size ≤ arr.size := by
          rw [y4, ← Nat.add_mul, hasz]
          exact Nat.le_trans (Nat.mul_le_mul_right _ hroom) hbk
        have hst := run_storeCells (P := P) (g.mu i).blk el new.toList w arr (len * sz) 0 hblk (by simpa using hfit) y5
        have hrun := run_append_room (ty := ty) (base := some ⟨(g.mu i).blk, 0 * sz, none⟩) (len := len) (cap := cap) (m := ys.length) hel hn h2 (y2 w rfl) (y3 w rfl) hroom (w' := withCells w (g.mu i).blk (spliceA arr (len * sz) new.toList) el) (fun a ha => by
          cases ha
          rw [add_plain, Nat.zero_mul, Nat.zero_add]
          exact hst) (fun h => by cases h)
        have hget := spliceA_get new.toList arr (len * sz) (by simpa using hfit)
        have hW := Holds.write (els' := els ++ ys) hH hs (spliceA arr (len * sz) new.toList) (by rw [spliceA_size]; exact hasz) (by rw [spliceA_size, List.length_append, hel', hasz]; exact Nat.le_trans (Nat.mul_le_mul_right _ hroom) hbk) (fun j cs hj => by
          rcases List.mem_append.1 (List.mem_of_getElem? hj) with h | h
          · obtain ⟨k, hk⟩ := List.getElem?_of_mem h
            exact he k cs hk
          · exact y1 _ h) (fun j cs f c hj hf => by
          by_cases hjl : j < els.length
          · rw [List.getElem?_append_left hjl] at hj
            obtain ⟨q, q1, q2, q3⟩ := h5 j cs f c hj hf
            have hfl : f < sz := by rw [← he j cs hj]; exact (List.getElem?_eq_some_iff.1 hf).1
            have := mul_lt_of (f' := 0) (show j < len by omega) hfl
            exact ⟨q, by rw [hget, if_neg (by omega)]; exact q1, q2, q3⟩
          · rw [List.getElem?_append_right (by omega)] at hj
            obtain ⟨q, q1, q2, q3⟩ := y6 _ cs f c hj hf
            have hlt := (Array.getElem?_eq_some_iff.1 q1).1
            have e1 : j * sz + f = len * sz + ((j - els.length) * sz + f) := by
              rw [hel', Nat.sub_mul]
              have := Nat.mul_le_mul_right sz (show len ≤ j by omega)
              omega
            refine ⟨q, ?_, q2, q3⟩
            rw [hget, e1, if_pos (by simp; omega), Array.getElem?_toList, ← q1]
            congr 1
            omega)
        obtain ⟨hle2, hR⟩ := hW.rename (i := i) (by rw [St.upd_same])
        have hle1 := LE.write hH hs rfl (spliceA arr (len * sz) new.toList) el
        refine ⟨_, .sl g.n sz 0 (len + ys.length), _, _, _, hrun, hle1.trans hle2, hR, ?_, ?_⟩
        · have hmu : (g.more (g.mu i)).mu g.n = g.mu i := by simp [G.more]
          have := VR.sl (w := withCells w (g.mu i).blk (spliceA arr (len * sz) new.toList) el) (g := g.more (g.mu i)) g.n sz 0 (len + ys.length) cap (by simp [G.more]) hroom (by rw [hmu]; exact hz') (by rw [hmu, Nat.zero_add]; exact hbk)
          rw [hmu] at this
          exact this
        · rw [St.upd_upd]
          exact hK g.n (hH.fresh _ (Nat.le_refl _))
      · -- moved
        have hxe : elemsOf s sz (.sl i sz 0 len) = some els := by
          simp only [elemsOf, hs, Nat.zero_add]
          rw [if_pos ⟨trivial, by omega⟩, List.drop_zero, List.take_of_length_le (by omega)]
        obtain ⟨x1, x2, old, x3, x4, x5, x6⟩ := elemsOf_sound (P := P) hH hxv hxe
        obtain ⟨c, w0, hrun, hle, hw0, ho, ht, hou⟩ := run_append_moves (P := P) (ty := ty) (base := some ⟨(g.mu i).blk, 0 * sz, none⟩) (len := len) (cap := cap) (m := ys.length) (y := v) (old := old) (new := new) hel hn hb hz hb0 h2 y2 y3 (by rw [hel'] at x3; exact x3) (by omega) hbd
        have hH0 := hH.heap hw0
        obtain ⟨r1, r2⟩ := grown_rows (rest := Builtin.zeroCells z.cells (c - (len + ys.length))) (w := w) (g := g) x1 y1 x4 y4 x6 y6
        have hsz : (old ++ new ++ Builtin.zeroCells z.cells (c - (len + ys.length))).size = c * sz := by
          simp only [Array.size_append, x4, y4, zeroCells_size, hzn, hel', ← Nat.add_mul]
          congr 1
          omega
        have hw0s : w0.heap.size = w.heap.size := by rw [hw0]
        have hnew := Holds.new hH0 (old ++ new ++ Builtin.zeroCells z.cells (c - (len + ys.length))) el sz (els ++ ys) (by rw [hsz, List.length_append, hel']; exact Nat.mul_le_mul_right _ hle) r1 (fun j cs f c hj hf => by
          obtain ⟨q, q1, q2, q3⟩ := r2 j cs f c hj hf
          exact ⟨q, q1, q2, q3.le (LEv.same hw0)⟩)
        have hsub : ((s.upd i none).upd g.n (some (.row el sz (els ++ ys)))).sub (s.upd g.n (some (.row el sz (els ++ ys)))) := by
          intro k b hk
          by_cases h1 : k = g.n
          · subst h1; rw [St.upd_same] at hk ⊢; exact hk
          · rw [St.upd_ne _ _ h1] at hk ⊢
            by_cases h2 : k = i
            · subst h2; rw [St.upd_same] at hk; cases hk
            · rwa [St.upd_ne _ _ h2] at hk
        refine ⟨_, .sl g.n sz 0 (len + ys.length), _, _, _, hrun, ?_, hnew.sub hsub, ?_, hK g.n (hH.fresh _ (Nat.le_refl _))⟩
        · refine LE.trans (g2 := g) (w2 := w0) ⟨LEv.same hw0, ho, ht, hou, by rw [hw0]; exact Nat.le_refl _⟩ ?_
          exact LE.more hH0 _ _
        · have := VR.sl (w := pushed w0 (.cells (old ++ new ++ Builtin.zeroCells z.cells (c - (len + ys.length))) el (0, 0))) (g := g.more ⟨w0.heap.size, (old ++ new ++ Builtin.zeroCells z.cells (c - (len + ys.length))).size, sz⟩) g.n sz 0 (len + ys.length) c (by simp [G.more]) hle (by simp [G.more]) (by simp only [G.more, if_true]; rw [hsz, Nat.zero_add]; exact Nat.le_refl _)
          have hmu : (g.more ⟨w0.heap.size, (old ++ new ++ Builtin.zeroCells z.cells (c - (len + ys.length))).size, sz⟩).mu g.n = ⟨w0.heap.size, (old ++ new ++ Builtin.zeroCells z.cells (c - (len + ys.length))).size, sz⟩ := by simp [G.more]
          rw [hmu] at this
          simp only [Nat.zero_mul, hw0s] at this
          rw [hw0s]
          exact this
    | _ => exact hK.elim
end
end Go.Pv
