/- A logic over plain values: values built of parts. -/
import Derived.Test.YteajbghklmkoeaaPv7
import Derived.Laws.Tables
namespace Go.Pv
set_option linter.unusedVariables false
set_option linter.unusedSimpArgs false
def placesP (P : Program) (t : TypeId) : Option (List (Nat × Nat)) := match P.underlying t with
  | some (.struct fs) => fs.toList.mapM fun f => (P.info? f.type).map fun i => (f.offset, i.size)
  | _ => none
def fillP (pl : Nat → Option (Nat × Nat)) (cs : List PV) : List (Nat × PV) → Option (List PV)
  | [] => some cs
  | (i, x) :: r => match pl i with
    | some (o, n) => if x.width = n ∧ x.solid = true ∧ o + n ≤ cs.length then fillP pl (spl cs o x.cells) r else none
    | none => none
def CR (w : World) (g : G) (cs : List PV) (arr : Array Value) : Prop := arr.size = cs.length ∧ ∀ (j : Nat) (c : PV), cs[j]? = some c → ∃ u, arr[j]? = some u ∧ Value.oneCell' u = true ∧ VR w g c u
theorem fold_splice (off : Nat) : ∀ (l : List Value) (k : Nat) (arr : Array Value), (l.zipIdx k).foldl (fun cs (p : Value × Nat) => cs.setIfInBounds (off + p.2) p.1) arr = spliceA arr (off + k) l
  | [], _, _ => rfl
  | v :: l, k, arr => by
    simp only [List.zipIdx_cons, List.foldl_cons, spliceA]
    rw [fold_splice off l (k + 1)]
    simp [Nat.add_assoc]
section
variable {P : Program} {w : World} {g : G} {s : St} {N : Nat} {e : Env} {a : Act}
theorem CR.splice {cs : List PV} {arr : Array Value} (h : CR w g cs arr) {p : PV} {v : Value} (hv : VR w g p v) (hso : p.solid = true) {o : Nat} (ho : o + p.width ≤ cs.length) : CR w g (spl cs o p.cells) (spliceA arr o v.cells.toList) := by
  obtain ⟨h1, h2⟩ := h
  obtain ⟨c1, c2, c3⟩ := hv.cells hso
  have hw : p.width = p.cells.length := rfl
  refine ⟨by rw [spliceA_size, spl_length (by omega)]; exact h1, fun j c hj => ?_⟩
  rw [spl_get (by omega)] at hj
  rw [spliceA_get _ _ _ (by simp; omega)]
  simp only [Array.length_toList, c1]
  split at hj
  · rename_i hr
    rw [if_pos hr, Array.getElem?_toList]
    exact c3 _ c hj
  · rename_i hr
    rw [if_neg hr]
    exact h2 j c hj
theorem fillP_sound {pl : Nat → Option (Nat × Nat)} : ∀ (parts : List (Nat × Operand)) (cs r : List PV) (arr : Array Value), ER w g N e a → CR w g cs arr → fillP pl cs (parts.map fun p => (p.1, e.ev p.2)) = some r →
    ∃ arr', Instr.fill pl arr (parts.map fun p => (p.1, a.eval p.2)) = some arr' ∧ CR w g r arr'
  | [], cs, r, arr, hE, hC, h => by cases h; exact ⟨arr, rfl, hC⟩
  | (i, x) :: ps, cs, r, arr, hE, hC, h => by
    simp only [List.map_cons, fillP] at h
    split at h
    · rename_i o n hp
      split at h
      · rename_i hc
        obtain ⟨rfl, hso, ho⟩ := hc
        have hv := hE.ev x
        obtain ⟨c1, c2, c3⟩ := hv.cells hso
        have hw : (e.ev x).width = (e.ev x).cells.length := rfl
        obtain ⟨arr', h1, h2⟩ := fillP_sound ps _ r _ hE (hC.splice hv hso ho) h
        refine ⟨arr', ?_, h2⟩
        simp only [List.map_cons, Instr.fill, hp]
        have : ¬ ((a.eval x).cells.size ≠ (e.ev x).width || decide (o + (a.eval x).cells.size > arr.size)) = true := by
          rw [hC.1, c1, hw]
          simp
          omega
        rw [if_neg (by simpa using this)]
        rw [← h1]
        congr 1
        have := fold_splice o (a.eval x).cells.toList 0 arr
        rw [Nat.add_zero] at this
        rw [← this, ← Array.foldl_toList, Array.toList_zipIdx]
      · cases h
    · cases h
/-- What is built of parts. -/
def bld (P : Program) (e : Env) (t : TypeId) (parts : List (Nat × Operand)) : Option PV := match tzero P t with
  | some (.agg z) => match ofVal (.agg z) with
    | .agg zc => match placesP P t with
      | some pl => (fillP (fun i => pl[i]?) zc (parts.map fun p => (p.1, e.ev p.2))).map .agg
      | none => match arrT P t with
        | some (_, el) => match tsz P el with
          | some n => (fillP (fun i => some (i * n, n)) zc (parts.map fun p => (p.1, e.ev p.2))).map .agg
          | none => none
        | none => none
    | _ => none
  | _ => none
theorem bld_sound (hE : ER w g N e a) {t : TypeId} {parts : Array (Nat × Operand)} {r : PV} (h : bld P e t parts.toList = some r) : ∃ u, (Instr.build t (parts.map fun (i, x) => (i, a.eval x))).run P w = .ok u w ∧ VR w g r u := by
  unfold bld at h
  split at h
  · rename_i z hz
    split at h
    · rename_i zc hzc
      have hzv := VR.ofVal w g (.agg z)
      rw [hzc] at hzv
      obtain ⟨c1, c2, c3⟩ := hzv.cells rfl
      have hC : CR w g zc z := ⟨c1, c3⟩
      split at h
      · rename_i pl hpl
        cases hf : fillP (fun i => pl[i]?) zc (parts.toList.map fun p => (p.1, e.ev p.2)) with
        | none => rw [hf] at h; cases h
        | some cs =>
          rw [hf] at h
          cases h
          obtain ⟨arr, h1, h2⟩ := fillP_sound (a := a) parts.toList zc cs z hE hC hf
          unfold placesP at hpl
          split at hpl
          · rename_i fs hu
            refine ⟨.agg arr, ?_, .agg _ _ h2.1 (fun i v hv => ?_) (fun i c v hc hv => ?_)⟩
            · have h' : Instr.fill (fun i => pl[i]?) z ((parts.map fun (i, x) => (i, a.eval x)).toList) = some arr := by
                rw [Array.toList_map]; exact h1
              have h'' : Instr.fill (fun i => pl.toArray[i]?) z ((parts.map fun (i, x) => (i, a.eval x)).toList) = some arr := by
                rw [← h']; congr 1; funext i; simp
              simp only [Instr.build, Sem.run_bind, run_zeroValue hz, Result.andThen_ok, run_underlying hu, Value.cells]
              simp [Array.mapM_eq_mapM_toList, run_places w _ _ hpl]
              simp at h''
              simp [h'']
            · have hlt : i < cs.length := by rw [← h2.1]; exact (Array.getElem?_eq_some_iff.1 hv).1
              obtain ⟨u, q1, q2, _⟩ := h2.2 i _ (List.getElem?_eq_getElem hlt)
              rw [hv] at q1; cases q1; exact q2
            · obtain ⟨u, q1, _, q3⟩ := h2.2 i c hc
              rw [hv] at q1; cases q1; exact q3
          · cases hpl
      · split at h
        · rename_i m el ha
          split at h
          · rename_i n hn
            cases hf : fillP (fun i => some (i * n, n)) zc (parts.toList.map fun p => (p.1, e.ev p.2)) with
            | none => rw [hf] at h; cases h
            | some cs =>
              rw [hf] at h
              cases h
              obtain ⟨arr, h1, h2⟩ := fillP_sound (a := a) parts.toList zc cs z hE hC hf
              refine ⟨.agg arr, ?_, .agg _ _ h2.1 (fun i v hv => ?_) (fun i c v hc hv => ?_)⟩
              · have h' : Instr.fill (fun i => some (i * n, n)) z ((parts.map fun (i, x) => (i, a.eval x)).toList) = some arr := by
                  rw [Array.toList_map]; exact h1
                simp only [Instr.build, Sem.run_bind, run_zeroValue hz, Result.andThen_ok, arrT_run ha, Value.cells, run_sizeOf hn]
                rw [h']
                rfl
              · have hlt : i < cs.length := by rw [← h2.1]; exact (Array.getElem?_eq_some_iff.1 hv).1
                obtain ⟨u, q1, q2, _⟩ := h2.2 i _ (List.getElem?_eq_getElem hlt)
                rw [hv] at q1; cases q1; exact q2
              · obtain ⟨u, q1, _, q3⟩ := h2.2 i c hc
                rw [hv] at q1; cases q1; exact q3
          · cases h
        · cases h
    · cases h
  · cases h
theorem fill_seq (n : Nat) : ∀ (vs : List Value) (k : Nat) (arr : Array Value), (∀ v ∈ vs, v.cells.size = n) → (k + vs.length) * n ≤ arr.size →
    ∃ arr', Instr.fill (fun i => some (i * n, n)) arr ((vs.zipIdx k).map fun p => (p.2, p.1)) = some arr' ∧ arr'.size = arr.size ∧ (∀ i, i < k * n → arr'[i]? = arr[i]?) ∧
      ∀ (j : Nat) (v : Value) (f : Nat), vs[j]? = some v → f < n → arr'[(k + j) * n + f]? = v.cells[f]?
  | [], k, arr, _, _ => ⟨arr, rfl, rfl, fun _ _ => rfl, fun j v f h => by simp at h⟩
  | v :: vs, k, arr, hv, hl => by
    simp only [List.length_cons] at hl
    have hvn := hv v List.mem_cons_self
    have hmul : k * n + n ≤ (k + (vs.length + 1)) * n := by
      rw [← Nat.succ_mul]; exact Nat.mul_le_mul_right _ (by omega)
    have hfit : k * n + v.cells.toList.length ≤ arr.size := by simp [hvn]; omega
    obtain ⟨arr', h1, h2, h3, h4⟩ := fill_seq n vs (k + 1) (spliceA arr (k * n) v.cells.toList) (fun u hu => hv u (List.mem_cons_of_mem _ hu)) (by rw [spliceA_size, show k + 1 + vs.length = k + (vs.length + 1) by omega]; exact hl)
    have hget := spliceA_get v.cells.toList arr (k * n) hfit
    simp only [Array.length_toList, hvn] at hget
    refine ⟨arr', ?_, by rw [h2, spliceA_size], fun i hi => ?_, fun j u f hj hf => ?_⟩
    · simp only [List.zipIdx_cons, List.map_cons, Instr.fill]
      have : ¬ (v.cells.size ≠ n || decide (k * n + v.cells.size > arr.size)) = true := by simp [hvn]; omega
      rw [if_neg (by simpa using this), ← h1]
      congr 1
      have := fold_splice (k * n) v.cells.toList 0 arr
      rw [Nat.add_zero] at this
      rw [← this, ← Array.foldl_toList, Array.toList_zipIdx]
    · rw [h3 i (by rw [Nat.succ_mul]; omega), hget, if_neg (by omega)]
    · cases j with
      | zero =>
        cases hj
        rw [Nat.add_zero, h3 _ (by rw [Nat.succ_mul]; omega), hget, if_pos (by omega), Array.getElem?_toList]
        congr 1
        omega
      | succ j =>
        rw [show k + (j + 1) = k + 1 + j by omega]
        exact h4 j u f hj hf
theorem zip_range {α : Type} (l : List (Nat × α)) (k : Nat) (h : l.map Prod.fst = List.range' k l.length) : l = ((l.map Prod.snd).zipIdx k).map fun p => (p.2, p.1) := by
  induction l generalizing k with
  | nil => rfl
  | cons x l ih =>
    simp only [List.map_cons, List.length_cons, List.range'_succ, List.cons.injEq] at h
    simp only [List.map_cons, List.zipIdx_cons, List.cons.injEq]
    exact ⟨by rw [← h.1], ih (k + 1) h.2⟩
/-- The places one behind the other. -/
def idxOk : Nat → List (Nat × Operand) → Bool
  | _, [] => true
  | n, (i, _) :: l => i == n && idxOk (n + 1) l
theorem idxOk_range : ∀ (l : List (Nat × Operand)) (k : Nat), idxOk k l = true → l.map Prod.fst = List.range' k l.length
  | [], k, _ => rfl
  | (i, x) :: l, k, h => by
    simp only [idxOk, Bool.and_eq_true, beq_iff_eq] at h
    obtain ⟨rfl, h⟩ := h
    simp only [List.map_cons, List.length_cons, List.range'_succ, idxOk_range l _ h]
/-- A slice written out. -/
def mkSlice (P : Program) (e : Env) (t : TypeId) (len : Nat) (parts : List (Nat × Operand)) : Option PV := (sliceT P t).bind fun el => (tsz P el).bind fun n => (tzero P el).bind fun _ =>
  if idxOk 0 parts = true ∧ parts.length = len ∧ (parts.map fun p => e.ev p.2).all (fun x => x.width == n && x.solid) = true ∧ len * n ≤ 16777216 then some (.vec .tight (parts.map fun p => e.ev p.2)) else none
theorem mkSlice_sound (hH : Holds g s w) (hE : ER w g N e a) {t : TypeId} {len : Nat} {parts : Array (Nat × Operand)} {r : PV} (h : mkSlice P e t len parts.toList = some r) :
    ∃ u g' w', (Instr.buildSlice t len (parts.map fun (i, x) => (i, a.eval x))).run P w = .ok u w' ∧ LE g w g' w' ∧ Holds g' s w' ∧ VR w' g' r u := by
  unfold mkSlice at h
  replace h := Option.bind_eq_some_iff.1 h; obtain ⟨el, hel, h⟩ := h
  replace h := Option.bind_eq_some_iff.1 h; obtain ⟨n, hn, h⟩ := h
  replace h := Option.bind_eq_some_iff.1 h; obtain ⟨z, hz, h⟩ := h
  split at h
  · rename_i hc
    obtain ⟨hr0, hrl, hall, hlim⟩ := hc
    have hr : parts.toList.map Prod.fst = List.range len := by rw [idxOk_range _ _ hr0, hrl, List.range_eq_range']
    cases h
    let ps := parts.toList
    let vs := ps.map fun p => a.eval p.2
    have hpl : ps.length = len := by
      have := congrArg List.length hr
      rw [List.length_map, List.length_range] at this
      exact this
    have hvl : vs.length = len := by simp [vs, hpl]
    have hpv : ∀ (j : Nat) (x : PV) (v : Value), (ps.map fun p => e.ev p.2)[j]? = some x → vs[j]? = some v → VR w g x v ∧ x.width = n ∧ x.solid = true := by
      intro j x v hx hv
      rw [List.getElem?_map] at hx hv
      cases hp : ps[j]? with
      | none => rw [hp] at hx; cases hx
      | some p =>
        rw [hp] at hx hv
        cases hx; cases hv
        rw [List.all_eq_true] at hall
        have := hall (e.ev p.2) (List.mem_map.2 ⟨p, List.mem_of_getElem? hp, rfl⟩)
        simp only [Bool.and_eq_true, beq_iff_eq] at this
        exact ⟨hE.ev p.2, this.1, this.2⟩
    have hsz : ∀ v ∈ vs, v.cells.size = n := by
      intro v hv
      obtain ⟨j, hj⟩ := List.getElem?_of_mem hv
      have hjl := (List.getElem?_eq_some_iff.1 hj).1
      have hjx : (ps.map fun p => e.ev p.2)[j]? = some _ := List.getElem?_eq_getElem (by simp [vs] at hjl; simpa using hjl)
      obtain ⟨h1, h2, h3⟩ := hpv j _ v hjx hj
      rw [(h1.cells h3).1]; exact h2
    have hparts : (parts.map fun (i, x) => (i, a.eval x)).toList = (vs.zipIdx 0).map fun p => (p.2, p.1) := by
      have h1 : (ps.map fun p => (p.1, a.eval p.2)).map Prod.fst = List.range' 0 (ps.map fun p => (p.1, a.eval p.2)).length := by
        rw [List.map_map, List.length_map, hpl, ← List.range_eq_range']
        exact hr
      have h2 := zip_range _ 0 h1
      rw [Array.toList_map]
      refine Eq.trans ?_ (h2.trans ?_)
      · rfl
      · rw [List.map_map]; rfl
    have hinit : ∀ init : Array Value, init.size = len * n → ∃ arr, Instr.fill (fun i => some (i * n, n)) init (parts.map fun (i, x) => (i, a.eval x)).toList = some arr ∧ arr.size = len * n ∧ ∀ (j : Nat) (v : Value) (f : Nat), vs[j]? = some v → f < n → arr[j * n + f]? = v.cells[f]? := by
      intro init hi
      obtain ⟨arr, h1, h2, _, h4⟩ := fill_seq n vs 0 init hsz (by rw [Nat.zero_add, hvl, hi]; exact Nat.le_refl _)
      exact ⟨arr, by rw [hparts]; exact h1, by rw [h2, hi], fun j v f hj hf => by have := h4 j v f hj hf; rwa [Nat.zero_add] at this⟩
    have fin : ∀ arr : Array Value, arr.size = len * n → (∀ (j : Nat) (v : Value) (f : Nat), vs[j]? = some v → f < n → arr[j * n + f]? = v.cells[f]?) →
        LE g w (g.freeze w.heap.size) (pushed w (.cells arr el (0, 0))) ∧ Holds (g.freeze w.heap.size) s (pushed w (.cells arr el (0, 0))) ∧ VR (pushed w (.cells arr el (0, 0))) (g.freeze w.heap.size) (.vec .tight (ps.map fun p => e.ev p.2)) (.slice (some ⟨w.heap.size, 0, none⟩) len len) := by
      intro arr ha1 ha2
      obtain ⟨hP, hle1⟩ := Holds.pushed hH (.cells arr el (0, 0))
      have hle := hle1.trans (LE.freeze (g := g) (w := pushed w (.cells arr el (0, 0))) w.heap.size)
      have hF := hP.freeze (k := w.heap.size) (by rw [pushed_size]; omega) (fun i hi hb => by
        obtain ⟨b, hb'⟩ := Option.ne_none_iff_exists'.1 hi
        have := (hH.blk i b hb').lt
        omega)
      refine ⟨hle, hF, ?_⟩
      have hlen : (ps.map fun p => e.ev p.2).length = len := by simp [hpl]
      have key : ∀ (i : Nat) (x : PV) (j : Nat) (c : PV), (ps.map fun p => e.ev p.2)[i]? = some x → x.cells[j]? = some c → ∃ u, arr[i * n + j]? = some u ∧ Value.oneCell' u = true ∧ VR w g c u := by
        intro i x j c hx hj
        have hil := (List.getElem?_eq_some_iff.1 hx).1
        have hvi : vs[i]? = some _ := List.getElem?_eq_getElem (by rw [hvl]; omega)
        obtain ⟨h1, h2, h3⟩ := hpv i x _ hx hvi
        obtain ⟨u, q1, q2, q3⟩ := (h1.cells h3).2.2 j c hj
        exact ⟨u, by rw [ha2 i _ j hvi (by rw [← h2]; exact (List.getElem?_eq_some_iff.1 hj).1)]; exact q1, q2, q3⟩
      have hgd : ∀ (i : Nat) (x : PV) (j : Nat) (c : PV), (ps.map fun p => e.ev p.2)[i]? = some x → x.cells[j]? = some c → arr[i * n + j]? = some (arr.getD (i * n + j) undef) ∧ Value.oneCell' (arr.getD (i * n + j) undef) = true ∧ VR w g c (arr.getD (i * n + j) undef) := by
        intro i x j c hx hj
        obtain ⟨u, q1, q2, q3⟩ := key i x j c hx hj
        have : arr.getD (i * n + j) undef = u := by rw [Array.getD_eq_getD_getElem?, q1]; rfl
        rw [this]; exact ⟨q1, q2, q3⟩
      have := VR.vec (w := pushed w (.cells arr el (0, 0))) (g := g.freeze w.heap.size) .tight (ps.map fun p => e.ev p.2) (some ⟨w.heap.size, 0, none⟩) len n (fun i j => arr.getD (i * n + j) undef) (by omega) (fun _ => hlen.symm) (fun h => by cases h) (fun h => by cases h) (fun i x hx => by
          have hil := (List.getElem?_eq_some_iff.1 hx).1
          exact (hpv i x _ hx (List.getElem?_eq_getElem (by rw [hvl]; omega))).2.1) (fun i x j c hx hj => ⟨_, rfl, .inr rfl, by
            rw [add_plain, Nat.zero_add]
            show (pushed w (.cells arr el (0, 0))).cell? _ = _
            simp only [World.cell?, pushed_new]
            exact (hgd i x j c hx hj).1, (hgd i x j c hx hj).2.1⟩) (fun i x j c hx hj => ((hgd i x j c hx hj).2.2).le hle.toLEv)
      rw [hlen] at this
      exact this
    by_cases h0 : len * n = 0
    · obtain ⟨arr, h1, h2, h3⟩ := hinit #[] (by simp [h0])
      obtain ⟨f1, f2, f3⟩ := fin arr h2 h3
      refine ⟨_, _, _, ?_, f1, f2, f3⟩
      have hlim' : ¬ (0 : Nat) > 2 ^ 24 := by decide
      simp only [Instr.buildSlice, Sem.run_bind, sliceT_run hel, Result.andThen_ok, run_sizeOf hn, h0, if_neg hlim', if_true, Sem.run_pure, Array.range_zero', Array.map_empty]
      rw [h1]
      rfl
    · obtain ⟨arr, h1, h2, h3⟩ := hinit ((Array.range (len * n)).map fun i => z.cells[i % z.cells.size]!) (by simp)
      obtain ⟨f1, f2, f3⟩ := fin arr h2 h3
      refine ⟨_, _, _, ?_, f1, f2, f3⟩
      have hlim' : ¬ len * n > 2 ^ 24 := by omega
      simp only [Instr.buildSlice, Sem.run_bind, sliceT_run hel, Result.andThen_ok, run_sizeOf hn, if_neg h0, if_neg hlim', run_zeroValue hz, Sem.run_pure]
      rw [h1]
      rfl
  · cases h
end
end Go.Pv
