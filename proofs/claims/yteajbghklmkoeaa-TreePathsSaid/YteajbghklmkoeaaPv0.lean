/- Values without memory, and how they read in a world: the ground of a logic over plain values. -/
import Derived.Tactics
import Derived.Below
import Derived.Deep.LoopGhost
import Derived.KernelRfl
namespace Go.Pv
set_option linter.unusedVariables false
set_option linter.unusedSimpArgs false

/-- How much is known of a list's room: nothing; none (a cap of its length); the nil slice. -/
inductive VK where
  | any | tight | nil
  deriving DecidableEq
/-- Values without memory. vec: a slice whose cells are never written again; sl, pt: a slice of, a pointer into an abstract block; ep: a pointer to cells that are never written again. -/
inductive PV where
  | junk
  | lit (v : Value)
  | agg (cs : List PV)
  | tup (vs : List PV)
  | vec (k : VK) (xs : List PV)
  | sl (i sz off len : Nat)
  | pt (i j f : Nat)
  | ep (cs : List PV)
  | fn (f : FuncId) (first caps : List PV)
  | mp (i : Nat)
  | yld (i : Nat)
instance : Inhabited PV := ⟨.junk⟩
def PV.cells : PV → List PV
  | .agg cs => cs
  | v => [v]
def PV.width (x : PV) : Nat := x.cells.length
/-- A value of one cell that leads nowhere. -/
def scal : Value → Bool
  | .bool _ | .int _ _ | .float _ _ | .complex _ _ _ | .string _ | .pointer none | .map none | .nilFunc | .nilIface => true
  | _ => false
theorem scal_one {v : Value} (h : scal v = true) : v.oneCell' = true := by cases v <;> simp_all [scal, Value.oneCell']
theorem scal_cells {v : Value} (h : scal v = true) : v.cells = #[v] := by cases v <;> simp_all [scal, Value.cells]
/-- Which block an abstract one is, how many cells it has, and how many of them an element has. -/
structure Mu where
  blk : Nat
  cap : Nat
  sz : Nat
/-- What stands behind the plain values: the zone of blocks that are never written again; which blocks the abstract ones are; how many abstract ones there have been; the first 64 are the blocks of these very numbers (the program's variables). -/
structure G where
  Z : Nat → Prop
  mu : Nat → Mu
  n : Nat
  gl : ∀ k, k < 64 → k < n ∧ (mu k).blk = k
inductive VR (w : World) (g : G) : PV → Value → Prop where
  | junk (v : Value) : VR w g .junk v
  | lit (v : Value) (h : scal v = true) : VR w g (.lit v) v
  | agg (cs : List PV) (vs : Array Value) (hl : vs.size = cs.length) (h1 : ∀ (i : Nat) (v : Value), vs[i]? = some v → Value.oneCell' v = true)
      (h : ∀ (i : Nat) (c : PV) (v : Value), cs[i]? = some c → vs[i]? = some v → VR w g c v) : VR w g (.agg cs) (.agg vs)
  | tup (cs : List PV) (vs : Array Value) (hl : vs.size = cs.length) (h : ∀ (i : Nat) (c : PV) (v : Value), cs[i]? = some c → vs[i]? = some v → VR w g c v) : VR w g (.tup cs) (.tuple vs)
  | vec (k : VK) (xs : List PV) (A : Option Addr) (cap sz : Nat) (f : Nat → Nat → Value) (hc : xs.length ≤ cap) (hk : k ≠ .any → cap = xs.length) (hn : k = .nil → A = none ∧ xs = [])
      (h0 : A = none → cap = 0) (hs : ∀ (i : Nat) (x : PV), xs[i]? = some x → PV.width x = sz)
      (hm : ∀ (i : Nat) (x : PV) (j : Nat) (c : PV), xs[i]? = some x → (PV.cells x)[j]? = some c → ∃ a, A = some a ∧ g.Z a.block ∧ w.cell? (a.add (i * sz + j)) = some (f i j) ∧ Value.oneCell' (f i j) = true)
      (h : ∀ (i : Nat) (x : PV) (j : Nat) (c : PV), xs[i]? = some x → (PV.cells x)[j]? = some c → VR w g c (f i j)) : VR w g (.vec k xs) (.slice A xs.length cap)
  | sl (i sz off len cap : Nat) (hi : i < g.n) (hc : len ≤ cap) (hz : (g.mu i).sz = sz) (hb : (off + cap) * sz ≤ (g.mu i).cap) : VR w g (.sl i sz off len) (.slice (some ⟨(g.mu i).blk, off * sz, none⟩) len cap)
  | pt (i j f : Nat) (hi : i < g.n) : VR w g (.pt i j f) (.pointer (some ⟨(g.mu i).blk, j * (g.mu i).sz + f, none⟩))
  | ep (cs : List PV) (a : Addr) (f : Nat → Value)
      (hm : ∀ (j : Nat) (c : PV), cs[j]? = some c → g.Z a.block ∧ w.cell? (a.add j) = some (f j) ∧ Value.oneCell' (f j) = true)
      (h : ∀ (j : Nat) (c : PV), cs[j]? = some c → VR w g c (f j)) : VR w g (.ep cs) (.pointer (some a))
  | fn (f : FuncId) (fs cs : List PV) (fv cv : Array Value) (h1 : fv.size = fs.length) (h2 : cv.size = cs.length)
      (h3 : ∀ (i : Nat) (c : PV) (v : Value), fs[i]? = some c → fv[i]? = some v → VR w g c v) (h4 : ∀ (i : Nat) (c : PV) (v : Value), cs[i]? = some c → cv[i]? = some v → VR w g c v) : VR w g (.fn f fs cs) (.func (.func f) fv cv)
  | mp (i : Nat) (hi : i < g.n) : VR w g (.mp i) (.map (some (g.mu i).blk))
  | yld (i : Nat) (hi : i < g.n) : VR w g (.yld i) (.func (.yield (g.mu i).blk) #[] #[])
/-- What VR needs of a later world: what is frozen stays, what was known stays known. -/
structure LEv (g : G) (w : World) (g' : G) (w' : World) : Prop where
  n : g.n ≤ g'.n
  mu : ∀ i, i < g.n → g'.mu i = g.mu i
  Z : ∀ k, g.Z k → g'.Z k
  block : ∀ k, g.Z k → w'.heap[k]? = w.heap[k]?
/-- What may happen between two worlds: .. and the streams stay, and no block goes. -/
structure LE (g : G) (w : World) (g' : G) (w' : World) : Prop extends LEv g w g' w' where
  os : w'.os = w.os
  tape : w'.tape = w.tape
  output : w'.output = w.output
  size : w.heap.size ≤ w'.heap.size
theorem LEv.refl (g : G) (w : World) : LEv g w g w := ⟨Nat.le_refl _, fun _ _ => rfl, fun _ h => h, fun _ _ => rfl⟩
theorem LEv.trans {g1 g2 g3 : G} {w1 w2 w3 : World} (a : LEv g1 w1 g2 w2) (b : LEv g2 w2 g3 w3) : LEv g1 w1 g3 w3 :=
  ⟨Nat.le_trans a.n b.n, fun i h => (b.mu i (Nat.lt_of_lt_of_le h a.n)).trans (a.mu i h), fun k h => b.Z k (a.Z k h), fun k h => (b.block k (a.Z k h)).trans (a.block k h)⟩
theorem LE.refl (g : G) (w : World) : LE g w g w := ⟨.refl g w, rfl, rfl, rfl, Nat.le_refl _⟩
theorem LE.trans {g1 g2 g3 : G} {w1 w2 w3 : World} (a : LE g1 w1 g2 w2) (b : LE g2 w2 g3 w3) : LE g1 w1 g3 w3 :=
  ⟨a.toLEv.trans b.toLEv, b.os.trans a.os, b.tape.trans a.tape, b.output.trans a.output, Nat.le_trans a.size b.size⟩
theorem VR.le {g g' : G} {w w' : World} (hle : LEv g w g' w') {p : PV} {v : Value} (h : VR w g p v) : VR w' g' p v := by
  induction h with
  | junk v => exact .junk v
  | lit v h => exact .lit v h
  | agg cs vs hl h1 h ih => exact .agg cs vs hl h1 ih
  | tup cs vs hl h ih => exact .tup cs vs hl ih
  | vec k xs A cap sz f hc hk hn h0 hs hm h ih =>
    refine .vec k xs A cap sz f hc hk hn h0 hs (fun i x j c hx hj => ?_) ih
    obtain ⟨a, ha, hz, hcell, h1⟩ := hm i x j c hx hj
    refine ⟨a, ha, hle.Z _ hz, ?_, h1⟩
    have hb : (a.add (i * sz + j)).block = a.block := by unfold Addr.add; split <;> rfl
    rw [World.cell?_of_block (w := w) (by rw [hb]; exact hle.block _ hz)]
    exact hcell
  | sl i sz off len cap hi hc hz hb =>
    rw [← hle.mu i hi] at hz hb ⊢
    exact .sl i sz off len cap (Nat.lt_of_lt_of_le hi hle.n) hc hz hb
  | pt i j f hi =>
    rw [← hle.mu i hi]
    exact .pt i j f (Nat.lt_of_lt_of_le hi hle.n)
  | ep cs a f hm h ih =>
    refine .ep cs a f (fun j c hj => ?_) ih
    obtain ⟨hz, hcell, h1⟩ := hm j c hj
    refine ⟨hle.Z _ hz, ?_, h1⟩
    have hb : (a.add j).block = a.block := by unfold Addr.add; split <;> rfl
    rw [World.cell?_of_block (w := w) (by rw [hb]; exact hle.block _ hz)]
    exact hcell
  | fn f fs cs fv cv h1 h2 h3 h4 i3 i4 => exact .fn f fs cs fv cv h1 h2 i3 i4
  | mp i hi =>
    rw [← hle.mu i hi]
    exact .mp i (Nat.lt_of_lt_of_le hi hle.n)
  | yld i hi =>
    rw [← hle.mu i hi]
    exact .yld i (Nat.lt_of_lt_of_le hi hle.n)
/-- Frames. -/
def Env := Nat → PV
/-- How far a loop over a function is. -/
inductive LSt where
  | ready | busy
  | done (c : Code)
  | over (p : Option Code)
def LSt.state : LSt → LoopState
  | .ready => .ready
  | .busy => .busy
  | .done _ => .done
  | .over _ => .exhausted
def LSt.pend : LSt → Option Code
  | .done c => some c
  | .over p => p
  | _ => none
/-- The record of a loop over a function: its frame, what a round is given in, what a round does. -/
structure LoopR where
  st : LSt
  N : Nat
  e : Env
  ps : Array Tmp
  asg : Code
  body : Code
/-- The abstract blocks: elements of type ty, sz cells each; a map from texts; a variable that is only read; a loop over a function. -/
inductive Blk where
  | row (ty : TypeId) (sz : Nat) (els : List (List PV))
  | dict (es : List (ByteArray × PV))
  | ro (cs : List PV)
  | loop (L : LoopR)
/-- A block that is only read: a variable of the program, in the frozen zone. -/
def Blk.isRo : Blk → Bool
  | .ro _ => true
  | _ => false
def St := Nat → Option Blk
/-- No block at all. -/
def St.empty : St := fun _ => none
def St.upd (s : St) (i : Nat) (b : Option Blk) : St := fun j => if j = i then b else s j
@[simp] theorem St.upd_same (s : St) (i : Nat) (b : Option Blk) : s.upd i b i = b := by simp [St.upd]
theorem St.upd_ne (s : St) {i j : Nat} (b : Option Blk) (h : j ≠ i) : s.upd i b j = s j := by simp [St.upd, h]
@[simp] theorem St.upd_upd (s : St) (i : Nat) (b c : Option Blk) : (s.upd i b).upd i c = s.upd i c := by funext j; simp only [St.upd]; split <;> rfl
theorem St.upd_none {s : St} {i : Nat} (h : s i = none) : s.upd i none = s := by funext j; simp only [St.upd]; split <;> simp_all
theorem St.upd_self {s : St} {i : Nat} {b : Option Blk} (h : s i = b) : s.upd i b = s := by funext j; simp only [St.upd]; split <;> simp_all
theorem St.upd_comm (s : St) {i j : Nat} (b c : Option Blk) (h : i ≠ j) : (s.upd i b).upd j c = (s.upd j c).upd i b := by
  funext k; simp only [St.upd]; split <;> split <;> simp_all
/-- What is known of the abstract block i in a world. -/
inductive BR (w : World) (g : G) (i : Nat) : Blk → Prop where
  | row (ty : TypeId) (sz : Nat) (els : List (List PV)) (arr : Array Value) (hz : (g.mu i).sz = sz) (hb : w.heap[(g.mu i).blk]? = some (.cells arr ty (0, 0))) (hs : arr.size = (g.mu i).cap) (hl : els.length * sz ≤ arr.size)
      (he : ∀ (j : Nat) (cs : List PV), els[j]? = some cs → cs.length = sz)
      (h : ∀ (j : Nat) (cs : List PV) (f : Nat) (c : PV), els[j]? = some cs → cs[f]? = some c → ∃ v, arr[j * sz + f]? = some v ∧ Value.oneCell' v = true ∧ VR w g c v) : BR w g i (.row ty sz els)
  | dict (es : List (ByteArray × PV)) (ents : Array MapEntry) (clock : Nat) (hb : w.heap[(g.mu i).blk]? = some (.map ents clock)) (hl : ents.size = es.length)
      (h : ∀ (j : Nat) (k : ByteArray) (p : PV) (m : MapEntry), es[j]? = some (k, p) → ents[j]? = some m → m.key = .string k ∧ VR w g p m.val) : BR w g i (.dict es)
  | ro (cs : List PV) (arr : Array Value) (ty : TypeId) (fr : Nat × Nat) (hz : g.Z (g.mu i).blk) (hb : w.heap[(g.mu i).blk]? = some (.cells arr ty fr)) (h : ∀ (f : Nat) (c : PV), cs[f]? = some c → ∃ v, w.cell? ⟨(g.mu i).blk, f, none⟩ = some v ∧ Value.oneCell' v = true ∧ VR w g c v) : BR w g i (.ro cs)
  | loop (L : LoopR) (rec : Loop) (hb : w.heap[(g.mu i).blk]? = some (.loop rec)) (h1 : rec.state = L.st.state) (h2 : rec.pending = L.st.pend) (h3 : rec.params = L.ps) (h4 : rec.assign = L.asg) (h5 : rec.body = L.body) (h6 : rec.tmps.size = L.N)
      (h : ∀ t, VR w g (L.e t) (rec.tmps.getD t undef)) : BR w g i (.loop L)
theorem BR.le {g g' : G} {w w' : World} {i : Nat} {b : Blk} (hle : LEv g w g' w') (hi : i < g.n) (hb : w'.heap[(g.mu i).blk]? = w.heap[(g.mu i).blk]?) (h : BR w g i b) : BR w' g' i b := by
  cases h with
  | row ty sz els arr hz h1 h2 h3 h4 h5 =>
    refine .row ty sz els arr (by rw [hle.mu i hi]; exact hz) (by rw [hle.mu i hi, hb]; exact h1) (by rw [hle.mu i hi]; exact h2) h3 h4 (fun j cs f c hj hf => ?_)
    obtain ⟨v, hv, h1, hr⟩ := h5 j cs f c hj hf
    exact ⟨v, hv, h1, hr.le hle⟩
  | dict es ents clock h1 h2 h3 => exact .dict es ents clock (by rw [hle.mu i hi, hb]; exact h1) h2 (fun j k p m hj hm => ⟨(h3 j k p m hj hm).1, (h3 j k p m hj hm).2.le hle⟩)
  | loop L rec h1 h2 h3 h4 h5 h6 h7 h8 => exact .loop L rec (by rw [hle.mu i hi, hb]; exact h1) h2 h3 h4 h5 h6 h7 (fun t => (h8 t).le hle)
  | ro cs arr ty fr hz h1 h2 =>
    refine .ro cs arr ty fr (by rw [hle.mu i hi]; exact hle.Z _ hz) (by rw [hle.mu i hi, hb]; exact h1) (fun f c hf => ?_)
    obtain ⟨v, hv, h3, hr⟩ := h2 f c hf
    refine ⟨v, ?_, h3, hr.le hle⟩
    rw [hle.mu i hi, World.cell?_of_block (w := w) (by exact hb)]
    exact hv
structure Holds (g : G) (s : St) (w : World) : Prop where
  fresh : ∀ i, g.n ≤ i → s i = none
  zlt : ∀ k, g.Z k → k < w.heap.size
  blk : ∀ i b, s i = some b → BR w g i b
  inj : ∀ i j, s i ≠ none → s j ≠ none → (g.mu i).blk = (g.mu j).blk → i = j
  apart : ∀ i b, s i = some b → b.isRo = false → ¬ g.Z (g.mu i).blk
theorem BR.lt {w : World} {g : G} {i : Nat} {b : Blk} (h : BR w g i b) : (g.mu i).blk < w.heap.size := by
  have key : ∀ o, w.heap[(g.mu i).blk]? = some o → (g.mu i).blk < w.heap.size := fun o ho => by
    rcases Nat.lt_or_ge (g.mu i).blk w.heap.size with h | h
    · exact h
    · rw [Array.getElem?_eq_none h] at ho; cases ho
  cases h with
  | row ty sz els arr _ h1 => exact key _ h1
  | dict es ents clock h1 => exact key _ h1
  | ro cs arr ty fr _ h1 => exact key _ h1
  | loop L rec h1 => exact key _ h1
theorem Holds.lt {g : G} {s : St} {w : World} (h : Holds g s w) {i : Nat} (hi : s i ≠ none) : i < g.n := by
  rcases Nat.lt_or_ge i g.n with h' | h'
  · exact h'
  · exact absurd (h.fresh i h') hi
/-- Fewer blocks may be known. -/
def St.sub (s t : St) : Prop := ∀ i b, s i = some b → t i = some b
theorem Holds.sub {g : G} {s t : St} {w : World} (h : Holds g t w) (hs : s.sub t) : Holds g s w := by
  have h1 : ∀ i, s i ≠ none → t i ≠ none := fun i hi => by
    cases e : s i with
    | none => exact absurd e hi
    | some b => rw [hs i b e]; simp
  exact ⟨fun i hi => (by
    cases e : s i with
    | none => rfl
    | some b => (have := h.fresh i hi; rw [hs i b e] at this; cases this)), h.zlt, fun i b hb => h.blk i b (hs i b hb), fun i j hi hj => h.inj i j (h1 i hi) (h1 j hj), fun i b hi => h.apart i b (hs i b hi)⟩
def Env.put (e : Env) (d : Option Tmp) (v : PV) : Env := match d with
  | some d => fun t => if t = d then v else e t
  | none => e
def Env.start (args : List PV) : Env := fun t => args.getD t .junk
/-- A constant, as a plain value. -/
def ofCell : Value → PV
  | .slice none l c => if l = 0 ∧ c = 0 then .vec .nil [] else .junk
  | v => if scal v then .lit v else .junk
def ofVal : Value → PV
  | .agg cs => if cs.toList.all Value.oneCell' then .agg (cs.toList.map ofCell) else .junk
  | v => ofCell v
def Env.ev (e : Env) : Operand → PV
  | .tmp t => e t
  | .const v => ofVal v
  | .global k => if k < 64 then .pt k 0 0 else .junk
  | .func f => .fn f [] []
structure ER (w : World) (g : G) (N : Nat) (e : Env) (a : Act) : Prop where
  size : a.tmps.size = N
  vr : ∀ t, VR w g (e t) (a.tmps.getD t undef)
theorem ER.le {g g' : G} {w w' : World} {N : Nat} {e : Env} {a : Act} (h : ER w g N e a) (hle : LEv g w g' w') : ER w' g' N e a := ⟨h.size, fun t => (h.vr t).le hle⟩
theorem ER.put {g : G} {w : World} {N : Nat} {e : Env} {a : Act} (h : ER w g N e a) {d : Option Tmp} (hd : ∀ t, d = some t → t < N) {p : PV} {v : Value} (hv : VR w g p v) : ER w g N (e.put d p) (a.put d v) := by
  cases d with
  | none => exact h
  | some d =>
    have hd := hd d rfl
    refine ⟨by simp [Act.put, h.size], fun t => ?_⟩
    by_cases ht : t = d
    · subst ht
      simp only [Env.put, Act.put, if_true]
      rw [Array.getD_eq_getD_getElem?, Array.getElem?_setIfInBounds]
      simp [h.size, hd, hv]
    · simp only [Env.put, Act.put, if_neg ht]
      rw [Array.getD_eq_getD_getElem?, Array.getElem?_setIfInBounds, if_neg (Ne.symm ht), ← Array.getD_eq_getD_getElem?]
      exact h.vr t
theorem VR.ofCell (w : World) (g : G) (v : Value) : VR w g (ofCell v) v := by
  unfold Pv.ofCell
  split
  · split
    · rename_i h
      obtain ⟨rfl, rfl⟩ := h
      exact .vec .nil [] none 0 0 (fun _ _ => undef) (Nat.le_refl _) (fun _ => rfl) (fun _ => ⟨rfl, rfl⟩) (fun _ => rfl) (by simp) (by simp) (by simp)
    · exact .junk _
  · split
    · exact .lit _ ‹_›
    · exact .junk _
theorem VR.ofVal (w : World) (g : G) (v : Value) : VR w g (ofVal v) v := by
  unfold Pv.ofVal
  split
  · rename_i cs
    split
    · rename_i h
      simp only [List.all_eq_true] at h
      refine .agg _ cs (by simp) (fun i v hv => h v ?_) (fun i c v hc hv => ?_)
      · exact Array.mem_toList_iff.2 (Array.mem_of_getElem? hv)
      · rw [List.getElem?_map, Array.getElem?_toList, hv] at hc
        cases hc
        exact VR.ofCell w g v
    · exact .junk _
  · exact VR.ofCell w g _
theorem ER.ev {g : G} {w : World} {N : Nat} {e : Env} {a : Act} (h : ER w g N e a) (x : Operand) : VR w g (e.ev x) (a.eval x) := by
  cases x with
  | tmp t => exact h.vr t
  | const v => exact VR.ofVal w g v
  | global k =>
    simp only [Env.ev]
    split
    · rename_i hk
      have := VR.pt (w := w) (g := g) k 0 0 (g.gl k hk).1
      rw [(g.gl k hk).2] at this
      simp only [Nat.zero_mul, Nat.add_zero] at this
      exact this
    · exact .junk _
  | func f => exact .fn f [] [] #[] #[] rfl rfl (by simp) (by simp)
end Go.Pv
