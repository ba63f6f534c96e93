/- Several texts, one behind the other. -/
import Derived.Tactics
import Derived.Below
import Derived.Deep.LoopGhost
import Derived.KernelRfl
import Derived.MapKept
import Derived.RangeFuncRecord
import Derived.OrdersIn
import Derived.Laws.StructEq
import Derived.Lib.Strings
import Derived.Lib.UnsafeStr
import Derived.Lib.Builder
import Derived.Laws.Tables
import Derived.Laws.MakeOwn
import Derived.Orders
namespace Go.Pv
set_option linter.unusedVariables false
set_option linter.unusedSimpArgs false

inductive VK where
 | any | tight | nil
 deriving DecidableEq
inductive PV where
 | junk
 | lit (v : Value)
 | agg (cs : List PV)
 | tup (vs : List PV)
 | vec (k : VK) (xs : List PV)
 | sl (i sz off len : Nat)
 | pt (i j f : Nat)
 | ep (cs : List PV)
 | fn (f : FuncId) (first caps : List PV)
 | mp (i : Nat)
 | yld (i : Nat)
instance : Inhabited PV := ⟨.junk⟩
def PV.cells : PV → List PV
 | .agg cs => cs
 | v => [v]
def PV.width (x : PV) : Nat := x.cells.length
def scal : Value → Bool
 | .bool _ | .int _ _ | .float _ _ | .complex _ _ _ | .string _ | .pointer none | .map none | .nilFunc | .nilIface => true
 | _ => false
theorem scal_one {v : Value} (h : scal v = true) : v.oneCell' = true := by cases v <;> simp_all [scal, Value.oneCell']
theorem scal_cells {v : Value} (h : scal v = true) : v.cells = #[v] := by cases v <;> simp_all [scal, Value.cells]
structure Mu where
 blk : Nat
 cap : Nat
 sz : Nat
structure G where
 Z : Nat → Prop
 mu : Nat → Mu
 n : Nat
 gl : ∀ k, k < 64 → k < n ∧ (mu k).blk = k
inductive VR (w : World) (g : G) : PV → Value → Prop where
 | junk (v : Value) : VR w g .junk v
 | lit (v : Value) (h : scal v = true) : VR w g (.lit v) v
 | agg (cs : List PV) (vs : Array Value) (hl : vs.size = cs.length) (h1 : ∀ (i : Nat) (v : Value), vs[i]? = some v → Value.oneCell' v = true)
   (h : ∀ (i : Nat) (c : PV) (v : Value), cs[i]? = some c → vs[i]? = some v → VR w g c v) : VR w g (.agg cs) (.agg vs)
 | tup (cs : List PV) (vs : Array Value) (hl : vs.size = cs.length) (h : ∀ (i : Nat) (c : PV) (v : Value), cs[i]? = some c → vs[i]? = some v → VR w g c v) : VR w g (.tup cs) (.tuple vs)
 | vec (k : VK) (xs : List PV) (A : Option Addr) (cap sz : Nat) (f : Nat → Nat → Value) (hc : xs.length ≤ cap) (hk : k ≠ .any → cap = xs.length) (hn : k = .nil → A = none ∧ xs = [])
   (h0 : A = none → cap = 0) (hs : ∀ (i : Nat) (x : PV), xs[i]? = some x → PV.width x = sz)
   (hm : ∀ (i : Nat) (x : PV) (j : Nat) (c : PV), xs[i]? = some x → (PV.cells x)[j]? = some c → ∃ a, A = some a ∧ g.Z a.block ∧ w.cell? (a.add (i * sz + j)) = some (f i j) ∧ Value.oneCell' (f i j) = true)
   (h : ∀ (i : Nat) (x : PV) (j : Nat) (c : PV), xs[i]? = some x → (PV.cells x)[j]? = some c → VR w g c (f i j)) : VR w g (.vec k xs) (.slice A xs.length cap)
 | sl (i sz off len cap : Nat) (hi : i < g.n) (hc : len ≤ cap) (hz : (g.mu i).sz = sz) (hb : (off + cap) * sz ≤ (g.mu i).cap) : VR w g (.sl i sz off len) (.slice (some ⟨(g.mu i).blk, off * sz, none⟩) len cap)
 | pt (i j f : Nat) (hi : i < g.n) : VR w g (.pt i j f) (.pointer (some ⟨(g.mu i).blk, j * (g.mu i).sz + f, none⟩))
 | ep (cs : List PV) (a : Addr) (f : Nat → Value)
   (hm : ∀ (j : Nat) (c : PV), cs[j]? = some c → g.Z a.block ∧ w.cell? (a.add j) = some (f j) ∧ Value.oneCell' (f j) = true)
   (h : ∀ (j : Nat) (c : PV), cs[j]? = some c → VR w g c (f j)) : VR w g (.ep cs) (.pointer (some a))
 | fn (f : FuncId) (fs cs : List PV) (fv cv : Array Value) (h1 : fv.size = fs.length) (h2 : cv.size = cs.length)
   (h3 : ∀ (i : Nat) (c : PV) (v : Value), fs[i]? = some c → fv[i]? = some v → VR w g c v) (h4 : ∀ (i : Nat) (c : PV) (v : Value), cs[i]? = some c → cv[i]? = some v → VR w g c v) : VR w g (.fn f fs cs) (.func (.func f) fv cv)
 | mp (i : Nat) (hi : i < g.n) : VR w g (.mp i) (.map (some (g.mu i).blk))
 | yld (i : Nat) (hi : i < g.n) : VR w g (.yld i) (.func (.yield (g.mu i).blk) #[] #[])
structure LEv (g : G) (w : World) (g' : G) (w' : World) : Prop where
 n : g.n ≤ g'.n
 mu : ∀ i, i < g.n → g'.mu i = g.mu i
 Z : ∀ k, g.Z k → g'.Z k
 block : ∀ k, g.Z k → w'.heap[k]? = w.heap[k]?
structure LE (g : G) (w : World) (g' : G) (w' : World) : Prop extends LEv g w g' w' where
 os : w'.os = w.os
 tape : w'.tape = w.tape
 output : w'.output = w.output
 size : w.heap.size ≤ w'.heap.size
theorem LEv.refl (g : G) (w : World) : LEv g w g w := ⟨Nat.le_refl _, fun _ _ => rfl, fun _ h => h, fun _ _ => rfl⟩
theorem LEv.trans {g1 g2 g3 : G} {w1 w2 w3 : World} (a : LEv g1 w1 g2 w2) (b : LEv g2 w2 g3 w3) : LEv g1 w1 g3 w3 :=
 ⟨Nat.le_trans a.n b.n, fun i h => (b.mu i (Nat.lt_of_lt_of_le h a.n)).trans (a.mu i h), fun k h => b.Z k (a.Z k h), fun k h => (b.block k (a.Z k h)).trans (a.block k h)⟩
theorem LE.refl (g : G) (w : World) : LE g w g w := ⟨.refl g w, rfl, rfl, rfl, Nat.le_refl _⟩
theorem LE.trans {g1 g2 g3 : G} {w1 w2 w3 : World} (a : LE g1 w1 g2 w2) (b : LE g2 w2 g3 w3) : LE g1 w1 g3 w3 :=
 ⟨a.toLEv.trans b.toLEv, b.os.trans a.os, b.tape.trans a.tape, b.output.trans a.output, Nat.le_trans a.size b.size⟩
theorem VR.le {g g' : G} {w w' : World} (hle : LEv g w g' w') {p : PV} {v : Value} (h : VR w g p v) : VR w' g' p v := by
 induction h with
 | junk v => exact .junk v
 | lit v h => exact .lit v h
 | agg cs vs hl h1 h ih => exact .agg cs vs hl h1 ih
 | tup cs vs hl h ih => exact .tup cs vs hl ih
 | vec k xs A cap sz f hc hk hn h0 hs hm h ih =>
  refine .vec k xs A cap sz f hc hk hn h0 hs (fun i x j c hx hj => ?_) ih
  obtain ⟨a, ha, hz, hcell, h1⟩ := hm i x j c hx hj
  refine ⟨a, ha, hle.Z _ hz, ?_, h1⟩
  have hb : (a.add (i * sz + j)).block = a.block := by unfold Addr.add; split <;> rfl
  rw [World.cell?_of_block (w := w) (by rw [hb]; exact hle.block _ hz)]
  exact hcell
 | sl i sz off len cap hi hc hz hb =>
  rw [← hle.mu i hi] at hz hb ⊢
  exact .sl i sz off len cap (Nat.lt_of_lt_of_le hi hle.n) hc hz hb
 | pt i j f hi =>
  rw [← hle.mu i hi]
  exact .pt i j f (Nat.lt_of_lt_of_le hi hle.n)
 | ep cs a f hm h ih =>
  refine .ep cs a f (fun j c hj => ?_) ih
  obtain ⟨hz, hcell, h1⟩ := hm j c hj
  refine ⟨hle.Z _ hz, ?_, h1⟩
  have hb : (a.add j).block = a.block := by unfold Addr.add; split <;> rfl
  rw [World.cell?_of_block (w := w) (by rw [hb]; exact hle.block _ hz)]
  exact hcell
 | fn f fs cs fv cv h1 h2 h3 h4 i3 i4 => exact .fn f fs cs fv cv h1 h2 i3 i4
 | mp i hi =>
  rw [← hle.mu i hi]
  exact .mp i (Nat.lt_of_lt_of_le hi hle.n)
 | yld i hi =>
  rw [← hle.mu i hi]
  exact .yld i (Nat.lt_of_lt_of_le hi hle.n)
def Env := Nat → PV
inductive LSt where
 | ready | busy
 | done (c : Code)
 | over (p : Option Code)
def LSt.state : LSt → LoopState
 | .ready => .ready
 | .busy => .busy
 | .done _ => .done
 | .over _ => .exhausted
def LSt.pend : LSt → Option Code
 | .done c => some c
 | .over p => p
 | _ => none
structure LoopR where
 st : LSt
 N : Nat
 e : Env
 ps : Array Tmp
 asg : Code
 body : Code
inductive Blk where
 | row (ty : TypeId) (sz : Nat) (els : List (List PV))
 | dict (es : List (ByteArray × PV))
 | ro (cs : List PV)
 | loop (L : LoopR)
 | idict (k : IntKind) (es : List (Int × PV))
def Blk.isRo : Blk → Bool
 | .ro _ => true
 | _ => false
def St := Nat → Option Blk
def St.empty : St := fun _ => none
def St.upd (s : St) (i : Nat) (b : Option Blk) : St := fun j => if j = i then b else s j
@[simp] theorem St.upd_same (s : St) (i : Nat) (b : Option Blk) : s.upd i b i = b := by simp [St.upd]
theorem St.upd_ne (s : St) {i j : Nat} (b : Option Blk) (h : j ≠ i) : s.upd i b j = s j := by simp [St.upd, h]
@[simp] theorem St.upd_upd (s : St) (i : Nat) (b c : Option Blk) : (s.upd i b).upd i c = s.upd i c := by funext j; simp only [St.upd]; split <;> rfl
theorem St.upd_none {s : St} {i : Nat} (h : s i = none) : s.upd i none = s := by funext j; simp only [St.upd]; split <;> simp_all
theorem St.upd_self {s : St} {i : Nat} {b : Option Blk} (h : s i = b) : s.upd i b = s := by funext j; simp only [St.upd]; split <;> simp_all
theorem St.upd_comm (s : St) {i j : Nat} (b c : Option Blk) (h : i ≠ j) : (s.upd i b).upd j c = (s.upd j c).upd i b := by
 funext k; simp only [St.upd]; split <;> split <;> simp_all
inductive BR (w : World) (g : G) (i : Nat) : Blk → Prop where
 | row (ty : TypeId) (sz : Nat) (els : List (List PV)) (arr : Array Value) (hz : (g.mu i).sz = sz) (hb : w.heap[(g.mu i).blk]? = some (.cells arr ty (0, 0))) (hs : arr.size = (g.mu i).cap) (hl : els.length * sz ≤ arr.size)
   (he : ∀ (j : Nat) (cs : List PV), els[j]? = some cs → cs.length = sz)
   (h : ∀ (j : Nat) (cs : List PV) (f : Nat) (c : PV), els[j]? = some cs → cs[f]? = some c → ∃ v, arr[j * sz + f]? = some v ∧ Value.oneCell' v = true ∧ VR w g c v) : BR w g i (.row ty sz els)
 | dict (es : List (ByteArray × PV)) (ents : Array MapEntry) (clock : Nat) (hb : w.heap[(g.mu i).blk]? = some (.map ents clock)) (hl : ents.size = es.length)
   (h : ∀ (j : Nat) (k : ByteArray) (p : PV) (m : MapEntry), es[j]? = some (k, p) → ents[j]? = some m → m.key = .string k ∧ VR w g p m.val) (hst : Go.MapKept.Stamped ents clock) : BR w g i (.dict es)
 | ro (cs : List PV) (arr : Array Value) (ty : TypeId) (fr : Nat × Nat) (hz : g.Z (g.mu i).blk) (hb : w.heap[(g.mu i).blk]? = some (.cells arr ty fr)) (hs : arr.size = cs.length) (h : ∀ (f : Nat) (c : PV), cs[f]? = some c → ∃ v, w.cell? ⟨(g.mu i).blk, f, none⟩ = some v ∧ Value.oneCell' v = true ∧ VR w g c v) : BR w g i (.ro cs)
 | loop (L : LoopR) (rec : Loop) (hb : w.heap[(g.mu i).blk]? = some (.loop rec)) (h1 : rec.state = L.st.state) (h2 : rec.pending = L.st.pend) (h3 : rec.params = L.ps) (h4 : rec.assign = L.asg) (h5 : rec.body = L.body) (h6 : rec.tmps.size = L.N)
   (h : ∀ t, VR w g (L.e t) (rec.tmps.getD t undef)) : BR w g i (.loop L)
 | idict (kd : IntKind) (es : List (Int × PV)) (ents : Array MapEntry) (clock : Nat) (hb : w.heap[(g.mu i).blk]? = some (.map ents clock)) (hl : ents.size = es.length)
   (h : ∀ (j : Nat) (k : Int) (p : PV) (m : MapEntry), es[j]? = some (k, p) → ents[j]? = some m → m.key = .int kd k ∧ VR w g p m.val) : BR w g i (.idict kd es)
theorem BR.le {g g' : G} {w w' : World} {i : Nat} {b : Blk} (hle : LEv g w g' w') (hi : i < g.n) (hb : w'.heap[(g.mu i).blk]? = w.heap[(g.mu i).blk]?) (h : BR w g i b) : BR w' g' i b := by
 cases h with
 | row ty sz els arr hz h1 h2 h3 h4 h5 =>
  refine .row ty sz els arr (by rw [hle.mu i hi]; exact hz) (by rw [hle.mu i hi, hb]; exact h1) (by rw [hle.mu i hi]; exact h2) h3 h4 (fun j cs f c hj hf => ?_)
  obtain ⟨v, hv, h1, hr⟩ := h5 j cs f c hj hf
  exact ⟨v, hv, h1, hr.le hle⟩
 | dict es ents clock h1 h2 h3 h4 => exact .dict es ents clock (by rw [hle.mu i hi, hb]; exact h1) h2 (fun j k p m hj hm => ⟨(h3 j k p m hj hm).1, (h3 j k p m hj hm).2.le hle⟩) h4
 | idict kd es ents clock h1 h2 h3 => exact .idict kd es ents clock (by rw [hle.mu i hi, hb]; exact h1) h2 (fun j k p m hj hm => ⟨(h3 j k p m hj hm).1, (h3 j k p m hj hm).2.le hle⟩)
 | loop L rec h1 h2 h3 h4 h5 h6 h7 h8 => exact .loop L rec (by rw [hle.mu i hi, hb]; exact h1) h2 h3 h4 h5 h6 h7 (fun t => (h8 t).le hle)
 | ro cs arr ty fr hz h1 h0 h2 =>
  refine .ro cs arr ty fr (by rw [hle.mu i hi]; exact hle.Z _ hz) (by rw [hle.mu i hi, hb]; exact h1) h0 (fun f c hf => ?_)
  obtain ⟨v, hv, h3, hr⟩ := h2 f c hf
  refine ⟨v, ?_, h3, hr.le hle⟩
  rw [hle.mu i hi, World.cell?_of_block (w := w) (by exact hb)]
  exact hv
structure Holds (g : G) (s : St) (w : World) : Prop where
 fresh : ∀ i, g.n ≤ i → s i = none
 zlt : ∀ k, g.Z k → k < w.heap.size
 blk : ∀ i b, s i = some b → BR w g i b
 inj : ∀ i j, s i ≠ none → s j ≠ none → (g.mu i).blk = (g.mu j).blk → i = j
 apart : ∀ i b, s i = some b → b.isRo = false → ¬ g.Z (g.mu i).blk
theorem BR.lt {w : World} {g : G} {i : Nat} {b : Blk} (h : BR w g i b) : (g.mu i).blk < w.heap.size := by
 have key : ∀ o, w.heap[(g.mu i).blk]? = some o → (g.mu i).blk < w.heap.size := fun o ho => by
  rcases Nat.lt_or_ge (g.mu i).blk w.heap.size with h | h
  ·exact h
  ·rw [Array.getElem?_eq_none h] at ho; cases ho
 cases h with
 | row ty sz els arr _ h1 => exact key _ h1
 | dict es ents clock h1 => exact key _ h1
 | idict kd es ents clock h1 => exact key _ h1
 | ro cs arr ty fr _ h1 => exact key _ h1
 | loop L rec h1 => exact key _ h1
theorem Holds.lt {g : G} {s : St} {w : World} (h : Holds g s w) {i : Nat} (hi : s i ≠ none) : i < g.n := by
 rcases Nat.lt_or_ge i g.n with h' | h'
 ·exact h'
 ·exact absurd (h.fresh i h') hi
def St.sub (s t : St) : Prop := ∀ i b, s i = some b → t i = some b
theorem Holds.sub {g : G} {s t : St} {w : World} (h : Holds g t w) (hs : s.sub t) : Holds g s w := by
 have h1 : ∀ i, s i ≠ none → t i ≠ none := fun i hi => by
  cases e : s i with
  | none => exact absurd e hi
  | some b => rw [hs i b e]; simp
 exact ⟨fun i hi => (by
  cases e : s i with
  | none => rfl
  | some b => (have := h.fresh i hi; rw [hs i b e] at this; cases this)), h.zlt, fun i b hb => h.blk i b (hs i b hb), fun i j hi hj => h.inj i j (h1 i hi) (h1 j hj), fun i b hi => h.apart i b (hs i b hi)⟩
def Env.put (e : Env) (d : Option Tmp) (v : PV) : Env := match d with
 | some d => fun t => if t = d then v else e t
 | none => e
def Env.start (args : List PV) : Env := fun t => args.getD t .junk
def ofCell : Value → PV
 | .slice none l c => if l = 0 ∧ c = 0 then .vec .nil [] else .junk
 | v => if scal v then .lit v else .junk
def ofVal : Value → PV
 | .agg cs => if cs.toList.all Value.oneCell' then .agg (cs.toList.map ofCell) else .junk
 | v => ofCell v
def Env.ev (e : Env) : Operand → PV
 | .tmp t => e t
 | .const v => ofVal v
 | .global k => if k < 64 then .pt k 0 0 else .junk
 | .func f => .fn f [] []
structure ER (w : World) (g : G) (N : Nat) (e : Env) (a : Act) : Prop where
 size : a.tmps.size = N
 vr : ∀ t, VR w g (e t) (a.tmps.getD t undef)
theorem ER.le {g g' : G} {w w' : World} {N : Nat} {e : Env} {a : Act} (h : ER w g N e a) (hle : LEv g w g' w') : ER w' g' N e a := ⟨h.size, fun t => (h.vr t).le hle⟩
theorem ER.put {g : G} {w : World} {N : Nat} {e : Env} {a : Act} (h : ER w g N e a) {d : Option Tmp} (hd : ∀ t, d = some t → t < N) {p : PV} {v : Value} (hv : VR w g p v) : ER w g N (e.put d p) (a.put d v) := by
 cases d with
 | none => exact h
 | some d =>
  have hd := hd d rfl
  refine ⟨by simp [Act.put, h.size], fun t => ?_⟩
  by_cases ht : t = d
  ·subst ht
   simp only [Env.put, Act.put, if_true]
   rw [Array.getD_eq_getD_getElem?, Array.getElem?_setIfInBounds]
   simp [h.size, hd, hv]
  ·simp only [Env.put, Act.put, if_neg ht]
   rw [Array.getD_eq_getD_getElem?, Array.getElem?_setIfInBounds, if_neg (Ne.symm ht), ← Array.getD_eq_getD_getElem?]
   exact h.vr t
theorem VR.ofCell (w : World) (g : G) (v : Value) : VR w g (ofCell v) v := by
 unfold Pv.ofCell
 split
 ·split
  ·rename_i h
   obtain ⟨rfl, rfl⟩ := h
   exact .vec .nil [] none 0 0 (fun _ _ => undef) (Nat.le_refl _) (fun _ => rfl) (fun _ => ⟨rfl, rfl⟩) (fun _ => rfl) (by simp) (by simp) (by simp)
  ·exact .junk _
 ·split
  ·exact .lit _ ‹_›
  ·exact .junk _
theorem VR.ofVal (w : World) (g : G) (v : Value) : VR w g (ofVal v) v := by
 unfold Pv.ofVal
 split
 ·rename_i cs
  split
  ·rename_i h
   simp only [List.all_eq_true] at h
   refine .agg _ cs (by simp) (fun i v hv => h v ?_) (fun i c v hc hv => ?_)
   ·exact Array.mem_toList_iff.2 (Array.mem_of_getElem? hv)
   ·rw [List.getElem?_map, Array.getElem?_toList, hv] at hc
    cases hc
    exact VR.ofCell w g v
  ·exact .junk _
 ·exact VR.ofCell w g _
theorem ER.ev {g : G} {w : World} {N : Nat} {e : Env} {a : Act} (h : ER w g N e a) (x : Operand) : VR w g (e.ev x) (a.eval x) := by
 cases x with
 | tmp t => exact h.vr t
 | const v => exact VR.ofVal w g v
 | global k =>
  simp only [Env.ev]
  split
  ·rename_i hk
   have := VR.pt (w := w) (g := g) k 0 0 (g.gl k hk).1
   rw [(g.gl k hk).2] at this
   simp only [Nat.zero_mul, Nat.add_zero] at this
   exact this
  ·exact .junk _
 | func f => exact .fn f [] [] #[] #[] rfl rfl (by simp) (by simp)
end Go.Pv

namespace Go.Pv
set_option linter.unusedVariables false
set_option linter.unusedSimpArgs false
@[reducible] def fen (r : Option Nat) : Fence := { fn := fun _ => True, depth := none, alive := false, round := r }
theorem calls_fen {P : Program} {r : Option Nat} {n : Nat} {f : FuncId} {args : Array Value} {w : World} {R : Ending → World → Prop} (h : Calls P f args w R) : CallsIn (fen r) n P f args w R :=
 show CallsIn Fence.wide n P f args w R from callsIn_wide.2 h
def flat : Code → Bool
 | .rangeFunc _ _ _ _ => false
 | .seq x y => flat x && flat y
 | .cond _ x y => flat x && flat y
 | .block _ c => flat c
 | .loop c => flat c
 | .scope c => flat c
 | _ => true
def okR (c : Code) (r : Option Nat) : Prop := flat c = true ∨ r = none
section
variable {P : Program} {ops : Array Oper} {Q : Exit → Act → World → Prop} {a : Act} {w : World} {r : Option Nat}
theorem okR.left {x y : Code} {c : Code} (h : okR c r) (hc : flat c = (flat x && flat y)) : okR x r := h.imp (fun h => by rw [hc, Bool.and_eq_true] at h; exact h.1) id
theorem okR.right {x y : Code} {c : Code} (h : okR c r) (hc : flat c = (flat x && flat y)) : okR y r := h.imp (fun h => by rw [hc, Bool.and_eq_true] at h; exact h.2) id
theorem okR.of {x : Code} {c : Code} (h : okR c r) (hc : flat c = flat x) : okR x r := h.imp (fun h => by rw [← hc]; exact h) id
def wpR (P : Program) (o : Oper) (a : Act) (w : World) (next : Act → World → Prop) (Q : Exit → Act → World → Prop) : Prop :=
 (∀ c, o.op ≠ .defer c) ∧ o.uponIn (fen none) 0 P a next Q ((execOp a.eval o).run P w)
theorem upon_fen {o : Oper} {next : Act → World → Prop} (res : Result Next) (h : o.uponIn (fen none) 0 P a next Q res) : o.uponIn (fen r) 0 P a next Q res := by
 cases res with
 | ok x w' => cases x <;> exact h
 | halt x w' => cases x <;> exact h
theorem wpR.wpIn {o : Oper} {next : Act → World → Prop} (h : wpR P o a w next Q) : o.wpIn (fen r) 0 P a w next Q := by
 refine ⟨fun _ _ => trivial, ?_⟩
 rw [Oper.semAt_eq _ _ _ h.1]
 exact upon_fen _ h.2
def wpListR (P : Program) (ops : Array Oper) (Q : Exit → Act → World → Prop) : List Oper → Act → World → Prop
 | [], a, w => Q .normal a w
 | o :: rest, a, w => if Region.wanted o (yielded ops a.tmps) then wpR P o a w (wpListR P ops Q rest) Q else wpListR P ops Q rest (a.put o.dst undef) w
theorem wpListR_ops : ∀ (l : List Oper) (k : Nat) (a : Act) (w : World), (∀ j, l[j]? = ops[k + j]?) → wpListR P ops Q l a w → wpOpsIn (fen r) 0 P ops Q (List.range' k l.length) a w
 | [], k, a, w, hl, h => h
 | o :: l, k, a, w, hl, h => by
  have h0 : ops[k]? = some o := by simpa using (hl 0).symm
  have hl' : ∀ j, l[j]? = ops[k + 1 + j]? := fun j => by have := hl (j + 1); simpa [Nat.add_assoc, Nat.add_comm 1 j] using this
  rw [List.length_cons, List.range'_succ]
  simp only [wpOpsIn, h0]
  simp only [wpListR] at h
  split at h
  ·rename_i hw
   rw [if_pos hw]
   exact Oper.wpIn_mono (fun a w h => wpListR_ops l (k + 1) a w hl' h) h.wpIn
  ·rename_i hw
   rw [if_neg hw]
   exact ⟨fun _ _ => trivial, wpListR_ops l (k + 1) _ w hl' h⟩
theorem wpR_region {id : Nat} (h : wpListR P ops Q ops.toList a w) : (Code.region id ops false).wpIn (fen r) 0 P Q a w := by
 refine wpIn_region ?_
 have := wpListR_ops (r := r) ops.toList 0 a w (fun j => by simp) h
 rwa [Array.length_toList, ← List.range_eq_range'] at this
def wpOpR (P : Program) (ops : Array Oper) (Q : Exit → Act → World → Prop) (i : Nat) (K : Act → World → Prop) (a : Act) (w : World) : Prop :=
 match ops[i]? with
 | none => K a w
 | some o => if Region.wanted o (yielded ops a.tmps) then wpR P o a w K Q else K (a.put o.dst undef) w
theorem wpOpR_in {i : Nat} {K K' : Act → World → Prop} (hK : ∀ a w, K a w → K' a w) (h : wpOpR P ops Q i K a w) : wpOpIn (fen r) 0 P ops Q i K' a w := by
 unfold wpOpR at h
 unfold wpOpIn
 split at h
 ·rename_i ho
  simp only [ho]
  exact hK _ _ h
 ·rename_i o ho
  simp only [ho]
  split at h
  ·rename_i hw
   rw [if_pos hw]
   exact Oper.wpIn_mono hK h.wpIn
  ·rename_i hw
   rw [if_neg hw]
   exact ⟨fun _ _ => trivial, hK _ _ h⟩
def wpAnyR (P : Program) (md : Region.Mode) (ops : Array Oper) (Q : Exit → Act → World → Prop) : Nat → Array Bool → Act → World → Prop
 | 0, listed, a, w => Region.ready md ops listed = [] ∧ Q .normal a w
 | fuel + 1, listed, a, w =>
  (Region.ready md ops listed = [] → Q .normal a w) ∧ ∀ i ∈ Region.ready md ops listed, wpOpR P ops Q i (wpAnyR P md ops Q fuel (listed.setIfInBounds i true)) a w
theorem wpAnyR_in {md : Region.Mode} : ∀ (fuel : Nat) (listed : Array Bool) (a : Act) (w : World), wpAnyR P md ops Q fuel listed a w → wpAnyIn (fen r) 0 P md ops Q fuel listed a w
 | 0, listed, a, w, h => h
 | fuel + 1, listed, a, w, h => ⟨h.1, fun i hi => wpOpR_in (fun a w h => wpAnyR_in fuel _ a w h) (h.2 i hi)⟩
theorem wpR_draw {id : Nat} (hm : P.follows .mixedOrders = true) (h : wpAnyR P .any ops Q ops.size (Array.replicate ops.size false) a { w with drawn := w.drawn + 1 }) : (Code.region id ops true).wpIn (fen r) 0 P Q a w :=
 wpIn_region_any hm (wpAnyR_in _ _ _ _ h)
theorem wpIn_ghost {F : Fence} {n : Nat} {c : Code} (I : Nat → Act → World → Prop) (n₀ : Nat) (h₀ : I n₀ a w)
  (round : ∀ n' a w, I n' a w → c.wpIn F n P (Exit.then (fun a' w' => ∃ m, m < n' ∧ I m a' w') Q) a w) : (Code.loop c).wpIn F n P Q a w := by
 refine wpIn_loop (fun a w => ∃ n, I n a w) (fun a w => leastOf (fun n => I n a w)) ⟨n₀, h₀⟩ ?_
 intro a w hI
 refine wpIn_mono (round _ a w (leastOf_spec hI).1) ?_
 intro e a' w' hq
 cases e with
 | normal =>
  obtain ⟨m, hm, hI'⟩ := hq
  exact ⟨⟨m, hI'⟩, Nat.lt_of_le_of_lt ((leastOf_spec ⟨m, hI'⟩).2 m hI') hm⟩
 | exit id => exact hq
 | goto l => exact hq
 | ret => exact hq
 | panic c => exact hq
 | outgrown => exact hq
end
end Go.Pv

namespace Go.Pv
set_option linter.unusedVariables false
set_option linter.unusedSimpArgs false
inductive Res where
 | ret (p : PV)
 | pan (c : List PanicEntry)
inductive RR (w : World) (g : G) : Res → Ending → Prop where
 | ret (p : PV) (v : Value) (h : VR w g p v) : RR w g (.ret p) (.returned v)
 | pan (c : List PanicEntry) : RR w g (.pan c) (.panicked c)
def Args (w : World) (g : G) (ps : List PV) (vs : Array Value) : Prop := vs.size = ps.length ∧ ∀ (i : Nat) (p : PV) (v : Value), ps[i]? = some p → vs[i]? = some v → VR w g p v
def enters (P : Program) (f : FuncId) : Bool := match P.funcs[f]? with
 | some fn => fn.name != "runtime.NumGoroutine" && fn.body.isSome
 | none => false
theorem run_enters {P : Program} {f : FuncId} (h : enters P f = true) (args : Array Value) (w : World) : (callFunc f args).run P w = .ok (.enter f args) w := by
 unfold enters at h
 split at h
 ·rename_i fn hf
  simp only [Bool.and_eq_true, bne_iff_ne, ne_eq] at h
  obtain ⟨h1, h2⟩ := h
  cases hb : fn.body with
  | none => simp [hb] at h2
  | some c => simp [callFunc, go_sem, hf, h1, hb]
 ·cases h
def PEnt (P : Program) (f : FuncId) (args : List PV) (s : St) (R : Res → St → Prop) : Prop :=
 enters P f = true ∧ ∀ (g : G) (w : World) (vs : Array Value), Holds g s w → Args w g args vs →
  Calls P f vs w fun e w' => ∃ res s' g', LE g w g' w' ∧ Holds g' s' w' ∧ RR w' g' res e ∧ R res s'
def PExt (P : Program) (f : FuncId) (args : List PV) (s : St) (R : Res → St → Prop) : Prop :=
 ∀ (g : G) (w : World) (vs : Array Value), Holds g s w → Args w g args vs →
  ∃ p v s' g' w', (callFunc f vs).run P w = .ok (.value v) w' ∧ LE g w g' w' ∧ Holds g' s' w' ∧ VR w' g' p v ∧ R (.ret p) s'
def PCalls (P : Program) (f : FuncId) (args : List PV) (s : St) (R : Res → St → Prop) : Prop := PEnt P f args s R ∨ PExt P f args s R
theorem PCalls.mono {P : Program} {f : FuncId} {args : List PV} {s : St} {R R' : Res → St → Prop} (h : PCalls P f args s R) (hr : ∀ r s, R r s → R' r s) : PCalls P f args s R' :=
 h.imp (fun h => ⟨h.1, fun g w vs hH hA => (h.2 g w vs hH hA).mono fun e w' ⟨res, s', g', h1, h2, h3, h4⟩ => ⟨res, s', g', h1, h2, h3, hr _ _ h4⟩⟩)
  (fun h g w vs hH hA => (by obtain ⟨p, v, s', g', w', h1, h2, h3, h4, h5⟩ := h g w vs hH hA; exact ⟨p, v, s', g', w', h1, h2, h3, h4, hr _ _ h5⟩))
def PYld (P : Program) (i : Nat) (args : List PV) (s : St) (K : PV → St → Prop) : Prop :=
 ∀ (g : G) (w : World) (vs : Array Value), Holds g s w → i < g.n → Args w g args vs →
  ∃ l f tmps assign body, (Instr.yield (g.mu i).blk vs).run P w = .ok (.round l f tmps assign body) w ∧
   RoundIn (fen none) 0 P l f tmps assign body w (fun e w' => ∃ p v s' g', e = .returned v ∧ LE g w g' w' ∧ Holds g' s' w' ∧ VR w' g' p v ∧ K p s')
theorem PYld.mono {P : Program} {i : Nat} {args : List PV} {s : St} {K K' : PV → St → Prop} (h : PYld P i args s K) (hK : ∀ p s, K p s → K' p s) : PYld P i args s K' := fun g w vs hH hi hA => by
 obtain ⟨l, f, tmps, assign, body, h1, h2⟩ := h g w vs hH hi hA
 exact ⟨l, f, tmps, assign, body, h1, h2.mono fun e w' ⟨p, v, s', g', k1, k2, k3, k4, k5⟩ => ⟨p, v, s', g', k1, k2, k3, k4, hK _ _ k5⟩⟩
def Defs (B : Nat) (g : G) (w : World) : List Deferred → Prop
 | [] => True
 | d :: ds => (∃ D, d = { target := .collected D, args := #[] } ∧ B ≤ D ∧ g.Z D ∧ w.heap[D]? = some (.deferred (some []))) ∧ (∀ d' ∈ ds, d' ≠ d) ∧ Defs B g w ds
theorem Defs.le {B : Nat} {g g' : G} {w w' : World} (hle : LEv g w g' w') : ∀ {ds : List Deferred}, Defs B g w ds → Defs B g' w' ds
 | [], h => h
 | d :: ds, h => by
  obtain ⟨⟨D, h1, h2, h3, h4⟩, h5, h6⟩ := h
  exact ⟨⟨D, h1, h2, hle.Z _ h3, by rw [hle.block _ h3]; exact h4⟩, h5, h6.le hle⟩
def DK (B : Nat) (g : G) (w : World) (ds : List Deferred) : Prop := B ≤ w.heap.size ∧ Defs B g w ds
theorem DK.le {B : Nat} {g g' : G} {w w' : World} {ds : List Deferred} (h : DK B g w ds) (hle : LE g w g' w') : DK B g' w' ds := ⟨Nat.le_trans h.1 hle.size, h.2.le hle.toLEv⟩
def PQ (N B : Nat) (g : G) (w : World) (Q : Exit → Env → St → Prop) : Exit → Act → World → Prop := fun ex a' w' =>
 ∃ e' s' g', LE g w g' w' ∧ Holds g' s' w' ∧ ER w' g' N e' a' ∧ DK B g' w' a'.defers ∧ Q ex e' s'
def PW (P : Program) (N : Nat) (c : Code) (e : Env) (s : St) (Q : Exit → Env → St → Prop) : Prop :=
 ∀ (r : Option Nat) (B : Nat) (g : G) (a : Act) (w : World), okR c r → Holds g s w → ER w g N e a → DK B g w a.defers → c.wpIn (fen r) 0 P (PQ N B g w Q) a w
theorem PQ.trans {N B : Nat} {g g' : G} {w w' : World} {Q : Exit → Env → St → Prop} (h : LE g w g' w') {ex : Exit} {a : Act} {w1 : World} (hq : PQ N B g' w' Q ex a w1) : PQ N B g w Q ex a w1 := by
 obtain ⟨e1, s1, g1, h1, h2, h3, h4, h5⟩ := hq
 exact ⟨e1, s1, g1, h.trans h1, h2, h3, h4, h5⟩
section
variable {P : Program} {N : Nat} {e : Env} {s : St} {Q Q' : Exit → Env → St → Prop}
theorem PW.mono {c : Code} (h : PW P N c e s Q) (hq : ∀ x e s, Q x e s → Q' x e s) : PW P N c e s Q' :=
 fun r B g a w hr hH hE hd => wpIn_mono (h r B g a w hr hH hE hd) fun ex a' w' ⟨e', s', g', h1, h2, h3, h4, h5⟩ => ⟨e', s', g', h1, h2, h3, h4, hq _ _ _ h5⟩
theorem PW.skip (h : Q .normal e s) : PW P N .skip e s Q := fun r B g a w hr hH hE hd => wpIn_skip ⟨e, s, g, .refl _ _, hH, hE, hd, h⟩
theorem PW.exit {id : Nat} (h : Q (.exit id) e s) : PW P N (.exit id) e s Q := fun r B g a w hr hH hE hd => wpIn_exit ⟨e, s, g, .refl _ _, hH, hE, hd, h⟩
theorem PW.ret (h : Q .ret e s) : PW P N .ret e s Q := fun r B g a w hr hH hE hd => wpIn_ret ⟨e, s, g, .refl _ _, hH, hE, hd, h⟩
def thenQ (K : Env → St → Prop) (Q : Exit → Env → St → Prop) : Exit → Env → St → Prop
 | .normal, e, s => K e s
 | x, e, s => Q x e s
def inB (id : Nat) (Q : Exit → Env → St → Prop) : Exit → Env → St → Prop
 | .exit i, e, s => if i = id then Q .normal e s else Q (.exit i) e s
 | x, e, s => Q x e s
theorem PW.seq {x y : Code} (h : PW P N x e s (thenQ (fun e s => PW P N y e s Q) Q)) : PW P N (.seq x y) e s Q := by
 intro r B g a w hr hH hE hd
 refine wpIn_seq (wpIn_mono (h r B g a w (hr.left rfl) hH hE hd) ?_)
 rintro ex a' w' ⟨e', s', g', h1, h2, h3, h4, h5⟩
 cases ex with
 | normal => exact wpIn_mono (h5 r B g' a' w' (hr.right rfl) h2 h3 h4) fun _ _ _ => PQ.trans h1
 | exit id => exact ⟨e', s', g', h1, h2, h3, h4, h5⟩
 | goto l => exact ⟨e', s', g', h1, h2, h3, h4, h5⟩
 | ret => exact ⟨e', s', g', h1, h2, h3, h4, h5⟩
 | panic c => exact ⟨e', s', g', h1, h2, h3, h4, h5⟩
 | outgrown => exact ⟨e', s', g', h1, h2, h3, h4, h5⟩
theorem PW.cond {c : Operand} {x y : Code} {t : Bool} (hc : e.ev c = .lit (.bool t)) (ht : t = true → PW P N x e s Q) (hf : t = false → PW P N y e s Q) : PW P N (.cond c x y) e s Q := by
 intro r B g a w hr hH hE hd
 have hv := hE.ev c
 rw [hc] at hv
 generalize hcv : a.eval c = cv at hv
 cases hv with
 | lit v hs => exact wpIn_cond_split hcv (fun h => ht h r B g a w (hr.left rfl) hH hE hd) (fun h => hf h r B g a w (hr.right rfl) hH hE hd)
theorem PW.block {id : Nat} {c : Code} (h : PW P N c e s (inB id Q)) : PW P N (.block id c) e s Q := by
 intro r B g a w hr hH hE hd
 refine wpIn_block (wpIn_mono (h r B g a w (hr.of rfl) hH hE hd) ?_)
 rintro ex a' w' ⟨e', s', g', h1, h2, h3, h4, h5⟩
 cases ex with
 | exit i =>
  simp only [inB] at h5
  simp only [Exit.inBlock]
  split at h5
  ·rw [if_pos ‹_›]; exact ⟨e', s', g', h1, h2, h3, h4, h5⟩
  ·rw [if_neg ‹_›]; exact ⟨e', s', g', h1, h2, h3, h4, h5⟩
 | normal => exact ⟨e', s', g', h1, h2, h3, h4, h5⟩
 | goto l => exact ⟨e', s', g', h1, h2, h3, h4, h5⟩
 | ret => exact ⟨e', s', g', h1, h2, h3, h4, h5⟩
 | panic c => exact ⟨e', s', g', h1, h2, h3, h4, h5⟩
 | outgrown => exact ⟨e', s', g', h1, h2, h3, h4, h5⟩
theorem PW.loop {c : Code} (I : Nat → Env → St → Prop) (n : Nat) (h0 : I n e s) (round : ∀ n e s, I n e s → PW P N c e s (thenQ (fun e' s' => ∃ m, m < n ∧ I m e' s') Q)) : PW P N (.loop c) e s Q := by
 intro r B g a w hr hH hE hd
 refine wpIn_ghost (fun n a' w' => ∃ e' s' g', LE g w g' w' ∧ Holds g' s' w' ∧ ER w' g' N e' a' ∧ DK B g' w' a'.defers ∧ I n e' s') n ⟨e, s, g, .refl _ _, hH, hE, hd, h0⟩ ?_
 rintro n a' w' ⟨e', s', g', h1, h2, h3, h4, h5⟩
 refine wpIn_mono (round n e' s' h5 r B g' a' w' (hr.of rfl) h2 h3 h4) ?_
 rintro ex a2 w2 ⟨e2, s2, g2, k1, k2, k3, k4, k5⟩
 cases ex with
 | normal =>
  obtain ⟨m, hm, hI⟩ := k5
  exact ⟨m, hm, e2, s2, g2, h1.trans k1, k2, k3, k4, hI⟩
 | exit i => exact ⟨e2, s2, g2, h1.trans k1, k2, k3, k4, k5⟩
 | goto l => exact ⟨e2, s2, g2, h1.trans k1, k2, k3, k4, k5⟩
 | ret => exact ⟨e2, s2, g2, h1.trans k1, k2, k3, k4, k5⟩
 | panic c => exact ⟨e2, s2, g2, h1.trans k1, k2, k3, k4, k5⟩
 | outgrown => exact ⟨e2, s2, g2, h1.trans k1, k2, k3, k4, k5⟩
end
theorem add_zero_add (a : Addr) (i : Nat) : (a.add i).block = a.block := by unfold Addr.add; split <;> rfl
theorem add_plain (b o n : Nat) : (⟨b, o, none⟩ : Addr).add n = ⟨b, o + n, none⟩ := by unfold Addr.add; split <;> simp_all
theorem run_loadCellsFrom {P : Program} {w : World} {a : Addr} : ∀ (vs : List Value) (i : Nat) (acc : Array Value), (∀ (j : Nat) (v : Value), vs[j]? = some v → w.cell? (a.add (i + j)) = some v) →
  (loadCellsFrom a i vs.length acc).run P w = .ok (acc ++ vs.toArray) w
 | [], i, acc, _ => by simp [loadCellsFrom]
 | v :: vs, i, acc, h => by
  have h0 : w.cell? (a.add i) = some v := by simpa using h 0 v rfl
  have ih := run_loadCellsFrom (P := P) (w := w) (a := a) vs (i + 1) (acc.push v) (fun j u hu => by rw [Nat.add_assoc, Nat.add_comm 1 j]; exact h (j + 1) u hu)
  simp only [List.length_cons, loadCellsFrom, Sem.run_bind, run_load, h0, Result.andThen_ok, ih]
  simp
theorem run_loadCells {P : Program} {w : World} {a : Addr} (vs : List Value) (h : ∀ (j : Nat) (v : Value), vs[j]? = some v → w.cell? (a.add j) = some v) (n : Nat) (hn : n = vs.length) : (loadCells a n).run P w = .ok vs.toArray w := by
 subst hn
 have := run_loadCellsFrom (P := P) (w := w) (a := a) vs 0 #[] (fun j v hv => by rw [Nat.zero_add]; exact h j v hv)
 simpa [loadCells] using this
def withCells (w : World) (k : Nat) (arr : Array Value) (ty : TypeId) : World := { w with heap := w.heap.setIfInBounds k (.cells arr ty (0, 0)) }
def spliceA (arr : Array Value) (o : Nat) : List Value → Array Value
 | [] => arr
 | v :: vs => spliceA (arr.setIfInBounds o v) (o + 1) vs
theorem spliceA_size (vs : List Value) : ∀ (arr : Array Value) (o : Nat), (spliceA arr o vs).size = arr.size := by
 induction vs with
 | nil => intro _ _; rfl
 | cons v vs ih => intro arr o; simp [spliceA, ih]
theorem spliceA_get (vs : List Value) : ∀ (arr : Array Value) (o : Nat), o + vs.length ≤ arr.size → ∀ j, (spliceA arr o vs)[j]? = if o ≤ j ∧ j < o + vs.length then vs[j - o]? else arr[j]? := by
 induction vs with
 | nil => intro arr o _ j; simp [spliceA]; omega
 | cons v vs ih =>
  intro arr o h j
  simp only [List.length_cons] at h
  simp only [spliceA, List.length_cons]
  rw [ih _ _ (by simp; omega)]
  by_cases h1 : o + 1 ≤ j ∧ j < o + 1 + vs.length
  ·rw [if_pos h1, if_pos (by omega), show j - o = (j - (o + 1)) + 1 by omega, List.getElem?_cons_succ]
  ·rw [if_neg h1, Array.getElem?_setIfInBounds]
   by_cases h2 : o = j
   ·subst h2
    rw [if_pos rfl, if_pos (by omega), if_pos (by omega)]
    simp
   ·rw [if_neg h2, if_neg (by omega)]
theorem run_storeCells {P : Program} (k : Nat) (ty : TypeId) : ∀ (vs : List Value) (w : World) (arr : Array Value) (o i : Nat), w.heap[k]? = some (.cells arr ty (0, 0)) → o + i + vs.length ≤ arr.size → (∀ v ∈ vs, Value.oneCell' v = true) →
  (storeCells ⟨k, o, none⟩ vs i).run P w = .ok () (withCells w k (spliceA arr (o + i) vs) ty)
 | [], w, arr, o, i, hb, _, _ => by
  have : withCells w k (spliceA arr (o + i) []) ty = w := by
   have hk : k < w.heap.size := by
    rcases Nat.lt_or_ge k w.heap.size with h | h
    ·exact h
    ·rw [Array.getElem?_eq_none h] at hb; cases hb
   have : w.heap.setIfInBounds k (.cells arr ty (0, 0)) = w.heap := by
    apply Array.ext_getElem?
    intro j
    rw [Array.getElem?_setIfInBounds]
    split
    ·rename_i h; subst h; rw [hb]
    ·rfl
   simp only [withCells, spliceA]
   rw [this]
  rw [this]
  rfl
 | v :: vs, w, arr, o, i, hb, hl, h1 => by
  simp only [List.length_cons] at hl
  have hcell : w.cell? (Addr.add ⟨k, o, none⟩ i) = arr[o + i]? := by rw [add_plain]; simp [World.cell?, hb]
  have hin : o + i < arr.size := by omega
  rw [Array.getElem?_eq_getElem hin] at hcell
  have hfr : w.frozen? (Addr.add ⟨k, o, none⟩ i) = false := by rw [add_plain]; simp [World.frozen?, hb]
  have hset : w.setCell (Addr.add ⟨k, o, none⟩ i) v = withCells w k (arr.setIfInBounds (o + i) v) ty := by
   rw [add_plain]
   simp only [World.setCell, withCells]
   congr 1
   apply Array.ext_getElem?
   intro j
   rw [Array.getElem?_modify, Array.getElem?_setIfInBounds]
   split
   ·rename_i h
    subst h
    have hk : k < w.heap.size := by
     rcases Nat.lt_or_ge k w.heap.size with h | h
     ·exact h
     ·rw [Array.getElem?_eq_none h] at hb; cases hb
    rw [if_pos hk, hb]
    rfl
   ·rfl
  have hk : k < w.heap.size := by
   rcases Nat.lt_or_ge k w.heap.size with h | h
   ·exact h
   ·rw [Array.getElem?_eq_none h] at hb; cases hb
  have ih := run_storeCells (P := P) k ty vs (withCells w k (arr.setIfInBounds (o + i) v) ty) (arr.setIfInBounds (o + i) v) o (i + 1) (by simp [withCells, hk]) (by simp; omega) (fun u hu => h1 u (List.mem_cons_of_mem _ hu))
  simp only [storeCells, Sem.run_bind, run_store P w _ v _ (h1 v List.mem_cons_self), hcell, hfr, Bool.false_eq_true, if_false, hset, Result.andThen_ok, ih]
  simp only [withCells, spliceA, Nat.add_assoc]
  congr 2
  apply Array.ext_getElem?
  intro j
  rw [Array.getElem?_setIfInBounds, Array.getElem?_setIfInBounds, Array.getElem?_setIfInBounds]
  split <;> simp_all
end Go.Pv

namespace Go.Pv
set_option linter.unusedVariables false
set_option linter.unusedSimpArgs false
def tsz (P : Program) (t : TypeId) : Option Nat := (P.info? t).map (·.size)
def tzero (P : Program) (t : TypeId) : Option Value := (P.info? t).bind (·.zero)
def tby (P : Program) (t : TypeId) : Option Nat := (P.info? t).map (·.bytes)
def aggT (P : Program) (t : TypeId) : Option Bool := match P.underlying t with
 | some (.struct _) => some true
 | some (.array _ _) => some true
 | some _ => some false
 | none => none
def fld (P : Program) (t : TypeId) (f : Nat) : Option (Nat × TypeId) := match P.underlying t with
 | some (.struct fs) => (fs[f]?).map fun x => (x.offset, x.type)
 | _ => none
def sliceT (P : Program) (t : TypeId) : Option TypeId := match P.underlying t with
 | some (.slice e) => some e
 | _ => none
def arrT (P : Program) (t : TypeId) : Option (Nat × TypeId) := match P.underlying t with
 | some (.array n e) => some (n, e)
 | _ => none
def isStrT (P : Program) (t : TypeId) : Bool := match P.underlying t with
 | some .string => true
 | _ => false
def isBoolT (P : Program) (t : TypeId) : Bool := match P.underlying t with
 | some .bool => true
 | _ => false
def intT (P : Program) (t : TypeId) : Option IntKind := match P.underlying t with
 | some (.int k) => some k
 | _ => none
section
variable {P : Program} {t : TypeId} {w : World}
theorem run_sizeOf {n : Nat} (h : tsz P t = some n) : (sizeOf t).run P w = .ok n w := by
 unfold tsz at h
 cases hi : P.info? t with
 | none => rw [hi] at h; cases h
 | some i => rw [hi] at h; cases h; simp [sizeOf, typeInfo, hi]
theorem run_zeroValue {z : Value} (h : tzero P t = some z) : (zeroValue t).run P w = .ok z w := by
 unfold tzero at h
 cases hi : P.info? t with
 | none => rw [hi] at h; cases h
 | some i => rw [hi] at h; simp only [Option.bind_some] at h; simp [zeroValue, typeInfo, hi, h]
theorem run_isAgg {b : Bool} (h : aggT P t = some b) : (isAgg t).run P w = .ok b w := by
 unfold aggT at h
 split at h
 ·rename_i h1; cases h; simp [isAgg, run_underlying h1]
 ·rename_i h1; cases h; simp [isAgg, run_underlying h1]
 ·rename_i d h2 h3 h1
  cases h
  simp only [isAgg, Sem.run_bind, run_underlying h1, Result.andThen_ok]
  cases d <;> first | rfl | (exfalso; first | exact h2 _ rfl | exact h3 _ _ rfl)
 ·cases h
theorem fld_run {f : Nat} {o : Nat} {ft : TypeId} (h : fld P t f = some (o, ft)) : ∃ fs x, (underlying t).run P w = .ok (.struct fs) w ∧ fs[f]? = some x ∧ x.offset = o ∧ x.type = ft := by
 unfold fld at h
 split at h
 ·rename_i fs h1
  cases hx : fs[f]? with
  | none => rw [hx] at h; cases h
  | some x => rw [hx] at h; cases h; exact ⟨fs, x, run_underlying h1 w, hx, rfl, rfl⟩
 ·cases h
theorem sliceT_run {e : TypeId} (h : sliceT P t = some e) : (underlying t).run P w = .ok (.slice e) w := by
 unfold sliceT at h
 split at h
 ·rename_i h1; cases h; exact run_underlying h1 w
 ·cases h
theorem arrT_run {n : Nat} {e : TypeId} (h : arrT P t = some (n, e)) : (underlying t).run P w = .ok (.array n e) w := by
 unfold arrT at h
 split at h
 ·rename_i h1; cases h; exact run_underlying h1 w
 ·cases h
theorem isStrT_run (h : isStrT P t = true) : (underlying t).run P w = .ok .string w := by
 unfold isStrT at h
 split at h
 ·rename_i h1; exact run_underlying h1 w
 ·cases h
theorem isBoolT_run (h : isBoolT P t = true) : (underlying t).run P w = .ok .bool w := by
 unfold isBoolT at h
 split at h
 ·rename_i h1; exact run_underlying h1 w
 ·cases h
theorem intT_run {k : IntKind} (h : intT P t = some k) : (underlying t).run P w = .ok (.int k) w := by
 unfold intT at h
 split at h
 ·rename_i h1; cases h; exact run_underlying h1 w
 ·cases h
end
def pack (ag : Bool) (cs : List PV) : Option PV := if ag then some (.agg cs) else cs.head?
def cellsAt (s : St) (p : PV) (n : Nat) : Option (List PV) := match p with
 | .ep cs => if n ≤ cs.length then some (cs.take n) else none
 | .pt i j f => match s i with
  | some (.row _ _ els) => match els[j]? with
   | some cs => if f + n ≤ cs.length then some ((cs.drop f).take n) else none
   | none => none
  | some (.ro cs) => if j = 0 ∧ f + n ≤ cs.length then some ((cs.drop f).take n) else none
  | _ => none
 | _ => none
def intBin (op : BinOp) (k : IntKind) (a b : Int) : Option PV := match op with
 | .add => some (.lit (.int k (k.wrap (a + b))))
 | .sub => some (.lit (.int k (k.wrap (a - b))))
 | .mul => some (.lit (.int k (k.wrap (a * b))))
 | .eql => some (.lit (.bool (decide (a = b))))
 | .neq => some (.lit (.bool (!decide (a = b))))
 | .lss => some (.lit (.bool (decide (a < b))))
 | .leq => some (.lit (.bool (decide (a ≤ b))))
 | .gtr => some (.lit (.bool (decide (a > b))))
 | .geq => some (.lit (.bool (decide (a ≥ b))))
 | .quo => if b = 0 then none else some (.lit (.int k (k.wrap (a.tdiv b))))
 | .rem => if b = 0 then none else some (.lit (.int k (a.tmod b)))
 | .shr => if b < 0 then none else some (.lit (.int k (a.fdiv (2 ^ (min b.toNat k.bits)))))
 | .shl => if b < 0 then none else some (.lit (.int k (k.wrap (a * 2 ^ (min b.toNat k.bits)))))
 | _ => none
def strLess (a b : ByteArray) : Bool := Op.bytesLess a.toList b.toList
def strBin (op : BinOp) (a b : ByteArray) : Option PV := match op with
 | .add => if a.size + b.size ≤ 4611686018427387904 then some (.lit (.string (a ++ b))) else none
 | .eql => some (.lit (.bool (decide (a = b))))
 | .neq => some (.lit (.bool (!decide (a = b))))
 | .lss => some (.lit (.bool (strLess a b)))
 | .geq => some (.lit (.bool (!strLess a b)))
 | _ => none
def flatF (P : Program) : Nat → List Field → Option (List Nat)
 | _, [] => some []
 | i, f :: fs => if f.offset = i ∧ f.name ≠ "_" then (match P.underlying f.type with
  | some (.int _) => (flatF P (i + 1) fs).map (0 :: ·)
  | some .string => (flatF P (i + 1) fs).map (1 :: ·)
  | some .bool => (flatF P (i + 1) fs).map (2 :: ·)
  | _ => none) else none
def flatT (P : Program) (t : TypeId) : Option (List Nat) := match P.underlying t with
 | some (.struct fs) => if P.stoodInHeld t = false ∧ P.eqGuardType P.depth t = false then flatF P 0 fs.toList else none
 | _ => none
def eq1 : Nat → PV → PV → Option Bool
 | 0, .lit (.int k a), .lit (.int k' b) => if k = k' then some (decide (a = b)) else none
 | 1, .lit (.string a), .lit (.string b) => some (decide (a = b))
 | 2, .lit (.bool a), .lit (.bool b) => some (decide (a = b))
 | _, _, _ => none
def eqC : List Nat → List PV → List PV → Option Bool
 | [], [], [] => some true
 | t :: ts, c :: cs, d :: ds => (eq1 t c d).bind fun a => (eqC ts cs ds).map fun r => a && r
 | _, _, _ => none
def ptrT (P : Program) (t : TypeId) : Bool := match P.underlying t with
 | some (.pointer e) => (match P.info? e with
  | some j => j.size != 0
  | none => false)
 | _ => false
def eqB (op : BinOp) (b : Bool) : Option PV := match op with
 | .eql => some (.lit (.bool b))
 | .neq => some (.lit (.bool !b))
 | _ => none
def mapNilT (P : Program) (t : TypeId) : Bool := match P.underlying t with
 | some (.map _ _) => true
 | _ => false
def bin (P : Program) (op : BinOp) (t : TypeId) : PV → PV → Option PV
 | .lit (.int k a), .lit (.int k' b) => if k = k' then intBin op k a b else none
 | .lit (.string a), .lit (.string b) => strBin op a b
 | .lit (.bool a), .lit (.bool b) => if isBoolT P t then (match op with
  | .eql => some (.lit (.bool (a == b)))
  | .neq => some (.lit (.bool (a != b)))
  | _ => none) else none
 | .agg cs, .agg ds => (flatT P t).bind fun ts => (eqC ts cs ds).bind fun b => (match op with
  | .eql => some (.lit (.bool b))
  | .neq => some (.lit (.bool !b))
  | _ => none)
 | .lit (.pointer none), .lit (.pointer none) => if ptrT P t = true then eqB op true else none
 | .lit (.map none), .lit (.map none) => if mapNilT P t = true then eqB op true else none
 | .mp _, .lit (.map none) => if mapNilT P t = true then eqB op false else none
 | .pt _ _ _, .lit (.pointer none) => if ptrT P t = true then eqB op false else none
 | .ep _, .lit (.pointer none) => if ptrT P t = true then eqB op false else none
 | .lit (.pointer none), .pt _ _ _ => if ptrT P t = true then eqB op false else none
 | .pt i j f, .pt i' j' f' => if ptrT P t = true ∧ i = i' ∧ j = j' ∧ f = f' then eqB op true else none
 | _, _ => none
def un : UnOp → PV → Option PV
 | .neg, .lit (.int k n) => some (.lit (.int k (k.wrap (0 - n))))
 | .not, .lit (.bool b) => some (.lit (.bool !b))
 | _, _ => none
def bound (d : Nat) : Option PV → Option Nat
 | none => some d
 | some (.lit (.int _ i)) => if 0 ≤ i then some i.toNat else none
 | some _ => none
def slc (P : Program) (t : TypeId) (x : PV) (lo hi : Option PV) : Option PV := match x with
 | .lit (.string s) => if isStrT P t then (bound s.size hi).bind fun h => (bound 0 lo).bind fun l => if l ≤ h ∧ h ≤ s.size then some (.lit (.string (s.extract l h))) else none else none
 | .vec k xs => (sliceT P t).bind fun el => (tsz P el).bind fun n => (bound xs.length hi).bind fun h => (bound 0 lo).bind fun l =>
  if l ≤ h ∧ h ≤ xs.length ∧ xs.all (fun x => x.width == n) = true then some (.vec (match k, hi with | .nil, _ => .nil | .tight, none => .tight | _, _ => .any) ((xs.take h).drop l)) else none
 | .sl i sz off len => (sliceT P t).bind fun el => (tsz P el).bind fun n => (bound len hi).bind fun h => (bound 0 lo).bind fun l =>
  if sz = n ∧ h ≤ len ∧ (l < h ∨ l = 0) then some (.sl i sz (off + l) (h - l)) else none
 | _ => none
def lenOf (P : Program) (t : TypeId) : PV → Option Nat
 | .lit (.string s) => if isStrT P t then some s.size else none
 | .vec _ xs => (sliceT P t).map fun _ => xs.length
 | .sl _ _ _ len => (sliceT P t).map fun _ => len
 | _ => none
def idxAddr (P : Program) (t : TypeId) (x i : PV) : Option PV := match i with
 | .lit (.int _ i) => if 0 ≤ i then (match x with
  | .vec _ xs => (sliceT P t).bind fun el => (tsz P el).bind fun n => (xs[i.toNat]?).bind fun y => if y.width = n then some (.ep y.cells) else none
  | .sl b sz off len => (sliceT P t).bind fun el => (tsz P el).bind fun n => if i.toNat < len ∧ sz = n then some (.pt b (off + i.toNat) 0) else none
  | .pt b j f => (arrT P t).bind fun (m, el) => (tsz P el).bind fun n => if i.toNat < m then some (.pt b j (f + i.toNat * n)) else none
  | .ep cs => (arrT P t).bind fun (m, el) => (tsz P el).bind fun n => if i.toNat < m then some (.ep (cs.drop (i.toNat * n))) else none
  | _ => none) else none
 | _ => none
def idx (P : Program) (t : TypeId) (x i : PV) : Option PV := match i with
 | .lit (.int _ i) => if 0 ≤ i then (match x with
  | .lit (.string s) => if isStrT P t then (s[i.toNat]?).map fun b => .lit (.int .u8 b.toNat) else none
  | .agg cs => (arrT P t).bind fun (m, el) => (tsz P el).bind fun n => (aggT P el).bind fun ag => if i.toNat < m then pack ag ((cs.drop (i.toNat * n)).take n) else none
  | _ => none) else none
 | _ => none
def qcall (P : Program) (e : Env) (c : Call) : Option PV := match c.callee with
 | .builtin .len => (match c.args.toList, c.argTypes.toList with
  | [x], [t] => (lenOf P t (e.ev x)).map fun n => .lit (.int .i64 n)
  | _, _ => none)
 | .builtin .max => (match c.args.toList with
  | [x, y] => (match e.ev x, e.ev y with
   | .lit (.int k i), .lit (.int k' j) => if k = k' then some (.lit (.int k (max i j))) else none
   | _, _ => none)
  | _ => none)
 | .builtin .min => (match c.args.toList with
  | [x, y] => (match e.ev x, e.ev y with
   | .lit (.int k i), .lit (.int k' j) => if k = k' then some (.lit (.int k (min i j))) else none
   | _, _ => none)
  | _ => none)
 | .builtin .cap => (match c.args.toList, c.argTypes.toList with
  | [x], [t] => (match e.ev x with
   | .vec k xs => if k = .any then none else (sliceT P t).map fun _ => .lit (.int .i64 xs.length)
   | _ => none)
  | _, _ => none)
 | .builtin .unsafeSliceData => (match c.args.toList with
  | [x] => (match e.ev x with
   | .sl i sz off len => if len = 0 then none else some (.pt i off 0)
   | .vec .nil _ => some (.lit (.pointer none))
   | _ => none)
  | _ => none)
 | _ => none
def mapT (P : Program) (t : TypeId) : Option (TypeId × TypeId) := match P.underlying t with
 | some (.map k e) => (match P.underlying k with
  | some .string => some (k, e)
  | _ => none)
 | _ => none
def imapT (P : Program) (t : TypeId) : Option (IntKind × TypeId × TypeId) := match P.underlying t with
 | some (.map k e) => (match P.underlying k with
  | some (.int kd) => some (kd, k, e)
  | _ => none)
 | _ => none
def dget {α : Type} [DecidableEq α] : List (α × PV) → α → Option PV
 | [], _ => none
 | (k', v) :: r, k => if k = k' then some v else dget r k
def dset {α : Type} [DecidableEq α] : List (α × PV) → α → PV → List (α × PV)
 | [], k, v => [(k, v)]
 | (k', u) :: r, k, v => if k = k' then (k, v) :: r else (k', u) :: dset r k v
def lookR (P : Program) (t : TypeId) (es : List (ByteArray × PV)) (b : ByteArray) (c : Bool) : Option PV :=
 (mapT P t).bind fun (_, el) => (tzero P el).bind fun z => some (match dget es b with
  | some v => if c = true then .tup [v, .lit (.bool true)] else v
  | none => if c = true then .tup [ofVal z, .lit (.bool false)] else ofVal z)
def lookI (P : Program) (t : TypeId) (kd : IntKind) (es : List (Int × PV)) (b : Int) (c : Bool) : Option PV :=
 (imapT P t).bind fun (kd', _, el) => if kd' = kd then (tzero P el).bind fun z => some (match dget es b with
  | some v => if c = true then .tup [v, .lit (.bool true)] else v
  | none => if c = true then .tup [ofVal z, .lit (.bool false)] else ofVal z) else none
def lookV (P : Program) (s : St) (t : TypeId) (x k : PV) (c : Bool) : Option PV := match x, k with
 | .mp i, .lit (.string b) => (match s i with
  | some (.dict es) => lookR P t es b c
  | _ => none)
 | .mp i, .lit (.int kd n) => (match s i with
  | some (.idict kd' es) => if kd' = kd then lookI P t kd es n c else none
  | _ => none)
 | .lit (.map none), .lit (.string b) => lookR P t [] b c
 | .lit (.map none), .lit (.int kd n) => lookI P t kd [] n c
 | _, _ => none
def qop (P : Program) (e : Env) (s : St) : Go.Op → Option PV
 | .move x => some (e.ev x)
 | .assign x => some (e.ev x)
 | .load t a => (tsz P t).bind fun n => (aggT P t).bind fun ag => (cellsAt s (e.ev a) n).bind fun cs => pack ag cs
 | .nilCheck x => (match e.ev x with
  | .pt i j f => some (.pt i j f)
  | .ep cs => some (.ep cs)
  | .fn f a b => some (.fn f a b)
  | _ => none)
 | .binOp op t x y _ => bin P op t (e.ev x) (e.ev y)
 | .unOp op _ x => un op (e.ev x)
 | .convert src dst x => (match e.ev x with
  | .lit (.int _ n) => (P.underlying src).bind fun _ => (intT P dst).map fun k => .lit (.int k (k.wrap n))
  | .lit (.string b) => (P.underlying src).bind fun _ => if isStrT P dst = true then some (.lit (.string b)) else none
  | _ => none)
 | .lookup t x k c => lookV P s t (e.ev x) (e.ev k) c
 | .makeFunc (.func f) a b => some (.fn f (a.toList.map e.ev) (b.toList.map e.ev))
 | .slice t x lo hi none => slc P t (e.ev x) (lo.map e.ev) (hi.map e.ev)
 | .slice t x none (some hi) (some mx) => (sliceT P t).bind fun el => (tsz P el).bind fun _ => (match e.ev x, e.ev hi, e.ev mx with
  | .vec _ _, .lit (.int _ h), .lit (.int _ m) => if h = 0 ∧ m = 0 then some (.vec .tight []) else none
  | _, _, _ => none)
 | .fieldAddr t x f => (fld P t f).bind fun (o, ft) => (tsz P ft).bind fun n => if n = 0 then none else (match e.ev x with
  | .pt i j g => some (.pt i j (g + o))
  | .ep cs => some (.ep (cs.drop o))
  | _ => none)
 | .field t x f => (fld P t f).bind fun (o, ft) => (tsz P ft).bind fun n => (aggT P ft).bind fun ag => (match e.ev x with
  | .agg cs => pack ag ((cs.drop o).take n)
  | _ => none)
 | .indexAddr t x i => idxAddr P t (e.ev x) (e.ev i)
 | .index t x i => idx P t (e.ev x) (e.ev i)
 | .extract x k => (match e.ev x with
  | .tup vs => vs[k]?
  | _ => none)
 | .call c => qcall P e c
 | _ => none
section
variable {P : Program} {w : World} {g : G} {s : St} {N : Nat} {e : Env} {a : Act}
theorem VR.lit_inv {v u : Value} (h : VR w g (.lit v) u) : u = v ∧ scal v = true := by cases h with | lit _ h => exact ⟨rfl, h⟩
theorem VR.cells_agg {cs : List PV} {v : Value} (h : VR w g (.agg cs) v) : ∃ vs : Array Value, v = .agg vs ∧ vs.size = cs.length ∧ (∀ (i : Nat) (v : Value), vs[i]? = some v → Value.oneCell' v = true) ∧ ∀ (i : Nat) (c : PV) (v : Value), cs[i]? = some c → vs[i]? = some v → VR w g c v := by
 cases h with | agg _ vs h1 h2 h3 => exact ⟨vs, rfl, h1, h2, h3⟩
theorem pack_one {cs : List PV} {v : PV} (h : pack false cs = some v) : ∃ r, cs = v :: r := by
 cases cs with
 | nil => cases h
 | cons c r => cases h; exact ⟨r, rfl⟩
theorem cellsAt_vr (hH : Holds g s w) {p : PV} {v : Value} (hp : VR w g p v) {n : Nat} {cs : List PV} (h : cellsAt s p n = some cs) :
  cs.length = n ∧ ∃ ad, v = .pointer (some ad) ∧ ∃ vs : List Value, vs.length = n ∧ (∀ (j : Nat) (u : Value), vs[j]? = some u → w.cell? (ad.add j) = some u) ∧ (∀ (j : Nat) (u : Value), vs[j]? = some u → Value.oneCell' u = true) ∧
   ∀ (j : Nat) (c : PV) (u : Value), cs[j]? = some c → vs[j]? = some u → VR w g c u := by
 cases hp with
 | ep cs0 ad f hm h2 =>
  simp only [cellsAt] at h
  split at h
  ·rename_i hn
   cases h
   have ht : ∀ (j : Nat) (u : Value), ((List.range n).map f)[j]? = some u → u = f j ∧ j < n := by
    intro j u hj
    rw [List.getElem?_map] at hj
    cases hr : (List.range n)[j]? with
    | none => rw [hr] at hj; cases hj
    | some k =>
     rw [hr] at hj
     cases hj
     obtain ⟨h1, h2⟩ := List.getElem?_eq_some_iff.1 hr
     simp only [List.getElem_range] at h2
     subst h2
     exact ⟨rfl, by simpa using h1⟩
   refine ⟨by simp; omega, ad, rfl, (List.range n).map f, by simp, fun j u hj => ?_, fun j u hj => ?_, fun j c u hc hj => ?_⟩
   ·obtain ⟨rfl, hl⟩ := ht j u hj
    exact (hm j _ (List.getElem?_eq_getElem (by omega))).2.1
   ·obtain ⟨rfl, hl⟩ := ht j u hj
    exact (hm j _ (List.getElem?_eq_getElem (by omega))).2.2
   ·obtain ⟨rfl, hl⟩ := ht j u hj
    rw [List.getElem?_take, if_pos hl] at hc
    exact h2 j c hc
  ·cases h
 | pt i j f hi =>
  simp only [cellsAt] at h
  split at h
  ·rename_i ty sz els hs
   split at h
   ·rename_i el hel
    split at h
    ·rename_i hn
     cases h
     obtain ⟨_, _, _, arr, hz, hb, hsz, hl, he, h5⟩ := hH.blk i _ hs
     have hlen := he j el hel
     have hjl := (List.getElem?_eq_some_iff.1 hel).1
     have hmul : j * sz + sz ≤ els.length * sz := by rw [← Nat.succ_mul]; exact Nat.mul_le_mul_right _ hjl
     have hg : ∀ k, k < n → ∃ v, arr[j * sz + (f + k)]? = some v ∧ Value.oneCell' v = true ∧ ∀ c, el[f + k]? = some c → VR w g c v := by
      intro k hk
      obtain ⟨v, h1, h2, h3⟩ := h5 j el (f + k) _ hel (List.getElem?_eq_getElem (by omega))
      exact ⟨v, h1, h2, fun c hc => by rw [List.getElem?_eq_getElem (by omega)] at hc; cases hc; exact h3⟩
     have ht : ∀ (k : Nat) (u : Value), (((arr.toList.drop (j * sz + f)).take n))[k]? = some u → arr[j * sz + (f + k)]? = some u ∧ k < n := by
      intro k u hk
      rw [List.getElem?_take] at hk
      split at hk
      ·rename_i hkn
       rw [List.getElem?_drop, Array.getElem?_toList] at hk
       exact ⟨by rw [← hk]; congr 1; omega, hkn⟩
      ·cases hk
     refine ⟨by simp; omega, _, rfl, (arr.toList.drop (j * sz + f)).take n, by simp; omega, fun k u hk => ?_, fun k u hk => ?_, fun k c u hc hk => ?_⟩
     ·obtain ⟨h1, h2⟩ := ht k u hk
      rw [add_plain]
      simp only [World.cell?, hb, hz]
      rw [← h1]
      simp [Nat.add_assoc]
     ·obtain ⟨h1, h2⟩ := ht k u hk
      obtain ⟨v, h3, h4, _⟩ := hg k h2
      rw [h1] at h3
      cases h3
      exact h4
     ·obtain ⟨h1, h2⟩ := ht k u hk
      obtain ⟨v, h3, _, h4⟩ := hg k h2
      rw [h1] at h3
      cases h3
      rw [List.getElem?_take, if_pos h2, List.getElem?_drop] at hc
      exact h4 c hc
    ·cases h
   ·cases h
  ·rename_i cs0 hs
   split at h
   ·rename_i hc
    obtain ⟨rfl, hn⟩ := hc
    cases h
    obtain ⟨_, _, _, _⟩ | ⟨_, _, _⟩ | ⟨_, _, _, _, hz, hb, _, h5⟩ := hH.blk i _ hs
    have hg : ∀ k, k < n → ∃ v, w.cell? ⟨(g.mu i).blk, f + k, none⟩ = some v ∧ Value.oneCell' v = true ∧ ∀ c, cs0[f + k]? = some c → VR w g c v := by
     intro k hk
     obtain ⟨v, h1, h2, h3⟩ := h5 (f + k) _ (List.getElem?_eq_getElem (by omega))
     exact ⟨v, h1, h2, fun c hc => by rw [List.getElem?_eq_getElem (by omega)] at hc; cases hc; exact h3⟩
    have ht : ∀ (k : Nat) (u : Value), ((List.range n).map fun k => (w.cell? ⟨(g.mu i).blk, f + k, none⟩).getD undef)[k]? = some u → w.cell? ⟨(g.mu i).blk, f + k, none⟩ = some u ∧ k < n := by
     intro k u hk
     rw [List.getElem?_map] at hk
     cases hr : (List.range n)[k]? with
     | none => rw [hr] at hk; cases hk
     | some k2 =>
      rw [hr] at hk
      cases hk
      obtain ⟨h1, h2⟩ := List.getElem?_eq_some_iff.1 hr
      simp only [List.getElem_range] at h2
      subst h2
      have hkn : k < n := by simpa using h1
      obtain ⟨v, h3, _⟩ := hg k hkn
      exact ⟨by simp only [h3]; rfl, hkn⟩
    refine ⟨by simp; omega, _, rfl, (List.range n).map fun k => (w.cell? ⟨(g.mu i).blk, f + k, none⟩).getD undef, by simp, fun k u hk => ?_, fun k u hk => ?_, fun k c u hc hk => ?_⟩
    ·obtain ⟨h1, h2⟩ := ht k u hk
     rw [add_plain]
     rw [← h1]
     simp
    ·obtain ⟨h1, h2⟩ := ht k u hk
     obtain ⟨v, h3, h4, _⟩ := hg k h2
     rw [h1] at h3
     cases h3
     exact h4
    ·obtain ⟨h1, h2⟩ := ht k u hk
     obtain ⟨v, h3, _, h4⟩ := hg k h2
     rw [h1] at h3
     cases h3
     rw [List.getElem?_take, if_pos h2, List.getElem?_drop] at hc
     exact h4 c hc
   ·cases h
  ·cases h
 | junk => cases h
 | lit => cases h
 | agg => cases h
 | tup => cases h
 | vec => cases h
 | sl => cases h
 | fn => cases h
 | mp => cases h
 | yld => cases h
theorem run_load_pv (hH : Holds g s w) {p : PV} {v : Value} (hp : VR w g p v) {t : TypeId} {n : Nat} {ag : Bool} {cs : List PV} {r : PV} (hn : tsz P t = some n) (ha : aggT P t = some ag) (h : cellsAt s p n = some cs) (hr : pack ag cs = some r) :
  ∃ u, (Instr.loadAt t v).run P w = .ok u w ∧ VR w g r u := by
 obtain ⟨hl, ad, rfl, vs, hvl, hcell, h1, hvr⟩ := cellsAt_vr hH hp h
 cases ag with
 | true =>
  cases hr
  refine ⟨.agg vs.toArray, ?_, .agg cs vs.toArray (by simp; omega) (fun i v hv => h1 i v (by simpa using hv)) (fun i c v hc hv => hvr i c v hc (by simpa using hv))⟩
  simp only [Instr.loadAt, Instr.sureAddr, loadVar, Sem.run_bind, Sem.run_pure, Result.andThen_ok, run_isAgg ha, if_true, run_sizeOf hn, run_loadCells vs hcell n hvl.symm]
 | false =>
  obtain ⟨rest, rfl⟩ := pack_one hr
  cases vs with
  | nil => simp at hl hvl; omega
  | cons u us =>
   refine ⟨u, ?_, hvr 0 _ _ rfl rfl⟩
   have h0 := hcell 0 u rfl
   have h00 : ad.add 0 = ad := by simp [Addr.add]
   rw [h00] at h0
   simp only [Instr.loadAt, Instr.sureAddr, loadVar, Sem.run_bind, Sem.run_pure, Result.andThen_ok, run_isAgg ha, Bool.false_eq_true, if_false, run_load, h0]
end
end Go.Pv

namespace Go.Pv
set_option linter.unusedVariables false
set_option linter.unusedSimpArgs false
theorem ba_eq (a b : ByteArray) : (a.toList == b.toList) = decide (a = b) := by
 rw [Bool.eq_iff_iff, beq_iff_eq, decide_eq_true_iff, ByteArray.toList_eq, ByteArray.toList_eq]
 exact ⟨fun h => ByteArray.ext (Array.toList_inj.mp h), fun h => by rw [h]⟩
theorem int_beq (a b : Int) : (a == b) = decide (a = b) := by rw [Bool.eq_iff_iff]; simp
section
variable {P : Program} {w : World} {g : G} {s : St} {N : Nat} {e : Env} {a : Act}
theorem VR.ep_drop {cs : List PV} {ad : Addr} (h : VR w g (.ep cs) (.pointer (some ad))) (o : Nat) : VR w g (.ep (cs.drop o)) (.pointer (some (ad.add o))) := by
 cases h with
 | ep _ _ f hm h2 =>
  refine .ep _ _ (fun j => f (o + j)) (fun j c hj => ?_) (fun j c hj => ?_)
  ·rw [List.getElem?_drop] at hj
   obtain ⟨h1, h2, h3⟩ := hm (o + j) c hj
   refine ⟨by rw [add_zero_add]; exact h1, ?_, h3⟩
   have : (ad.add o).add j = ad.add (o + j) := by
    unfold Addr.add
    by_cases h0 : o = 0
    ·subst h0; simp
    ·by_cases h1 : j = 0
     ·subst h1; simp
     ·simp [h0, h1, Nat.add_assoc]
   rw [this]; exact h2
  ·rw [List.getElem?_drop] at hj
   exact h2 (o + j) c hj
theorem VR.ep_inv {cs : List PV} {v : Value} (h : VR w g (.ep cs) v) : ∃ ad, v = .pointer (some ad) := by cases h; exact ⟨_, rfl⟩
theorem VR.pt_inv {i j f : Nat} {v : Value} (h : VR w g (.pt i j f) v) : i < g.n ∧ v = .pointer (some ⟨(g.mu i).blk, j * (g.mu i).sz + f, none⟩) := by cases h with | pt _ _ _ hi => exact ⟨hi, rfl⟩
theorem pt_add {i j f n : Nat} : (⟨(g.mu i).blk, j * (g.mu i).sz + f, none⟩ : Addr).add n = ⟨(g.mu i).blk, j * (g.mu i).sz + (f + n), none⟩ := by rw [add_plain, Nat.add_assoc]
theorem eqC_nil {cs ds : List PV} {b : Bool} (h : eqC [] cs ds = some b) : b = true := by
 cases cs <;> cases ds <;> simp [eqC] at h
 exact h
theorem eqC_cons {t : Nat} {ts : List Nat} {cs ds : List PV} {b : Bool} (h : eqC (t :: ts) cs ds = some b) : ∃ c cr d dr a r, cs = c :: cr ∧ ds = d :: dr ∧ eq1 t c d = some a ∧ eqC ts cr dr = some r ∧ b = (a && r) := by
 cases cs <;> cases ds <;> simp only [eqC, reduceCtorEq] at h
 replace h := Option.bind_eq_some_iff.1 h; obtain ⟨a, h1, h⟩ := h
 obtain ⟨r, h2, h3⟩ := Option.map_eq_some_iff.1 h
 exact ⟨_, _, _, _, a, r, rfl, rfl, h1, h2, h3.symm⟩
theorem drop_cons {es : List PV} {i : Nat} {c : PV} {rest : List PV} (hd : es.drop i = c :: rest) : es[i]? = some c ∧ es.drop (i + 1) = rest := by
 constructor
 ·have : (es.drop i)[0]? = some c := by rw [hd]; rfl
  rw [List.getElem?_drop] at this; simpa using this
 ·rw [← List.drop_drop, hd]; rfl
theorem eqC_sound {cs ds : List PV} {xs ys : Array Value} (hl1 : xs.size = cs.length) (hr1 : ∀ (i : Nat) (c : PV) (v : Value), cs[i]? = some c → xs[i]? = some v → VR w g c v) (hl2 : ys.size = ds.length) (hr2 : ∀ (i : Nat) (c : PV) (v : Value), ds[i]? = some c → ys[i]? = some v → VR w g c v) (d : Nat) :
  ∀ (fs : List Field) (i : Nat) (ts : List Nat) (b : Bool), flatF P i fs = some ts → eqC ts (cs.drop i) (ds.drop i) = some b → (Op.eqFields (d + 1) xs ys fs).run P w = .ok b w
 | [], i, ts, b, hf, he => by
  cases hf
  rw [eqC_nil he]
  simp [Op.eqFields]
 | f :: fs, i, ts, b, hf, he => by
  unfold flatF at hf
  split at hf
  case isFalse => cases hf
  rename_i hfi
  obtain ⟨h1, h2⟩ := hfi
  have step : ∀ {k : Nat} {ts' : List Nat}, ts = k :: ts' → flatF P (i + 1) fs = some ts' → aggT P f.type = some false →
    (∀ (c e : PV) (a : Bool) (u v : Value), eq1 k c e = some a → VR w g c u → VR w g e v → (Op.equalIn (d + 1) f.type u v).run P w = .ok a w) → (Op.eqFields (d + 1) xs ys (f :: fs)).run P w = .ok b w := by
   intro k ts' hts hf' ha hq
   subst hts
   obtain ⟨c, cr, e, er, a, r, q1, q2, q3, q4, rfl⟩ := eqC_cons he
   obtain ⟨c1, c2⟩ := drop_cons q1
   obtain ⟨e1, e2⟩ := drop_cons q2
   have lc := (List.getElem?_eq_some_iff.1 c1).1
   have le := (List.getElem?_eq_some_iff.1 e1).1
   have gu : xs[i]? = some xs[i] := Array.getElem?_eq_getElem (by omega)
   have gv : ys[i]? = some ys[i] := Array.getElem?_eq_getElem (by omega)
   have ih := eqC_sound hl1 hr1 hl2 hr2 d fs (i + 1) ts' r hf' (by rw [c2, e2]; exact q4)
   have p1 : (part f.type xs f.offset).run P w = .ok xs[i] w := by simp only [part, h1, Sem.run_bind, run_isAgg ha, Result.andThen_ok, Bool.false_eq_true, if_false, gu, Sem.run_pure]
   have p2 : (part f.type ys f.offset).run P w = .ok ys[i] w := by simp only [part, h1, Sem.run_bind, run_isAgg ha, Result.andThen_ok, Bool.false_eq_true, if_false, gv, Sem.run_pure]
   have p3 := hq c e a _ _ q3 (hr1 i c _ c1 gu) (hr2 i e _ e1 gv)
   rw [Op.eqFields]
   simp only [if_pos h2, Sem.run_bind, p1, p2, p3, Result.andThen_ok]
   cases a
   ·simp
   ·simpa using ih
  split at hf
  ·rename_i kk hu
   obtain ⟨ts', ht, rfl⟩ := Option.map_eq_some_iff.1 hf
   refine step rfl ht (by simp [aggT, hu]) ?_
   intro c e a u v he hc hv
   unfold eq1 at he
   split at he <;> first | (exfalso; simp_all; done) | skip
   ·split at he
    ·rename_i hk
     cases he
     obtain ⟨rfl, _⟩ := hc.lit_inv
     obtain ⟨rfl, _⟩ := hv.lit_inv
     subst hk
     simp [Op.equalIn, run_underlying hu, int_beq]
    ·cases he
  ·rename_i hu
   obtain ⟨ts', ht, rfl⟩ := Option.map_eq_some_iff.1 hf
   refine step rfl ht (by simp [aggT, hu]) ?_
   intro c e a u v he hc hv
   unfold eq1 at he
   split at he <;> first | (exfalso; simp_all; done) | skip
   ·cases he
    obtain ⟨rfl, _⟩ := hc.lit_inv
    obtain ⟨rfl, _⟩ := hv.lit_inv
    simp [Op.equalIn, run_underlying hu, beq_toListBytes, ba_eq]
  ·rename_i hu
   obtain ⟨ts', ht, rfl⟩ := Option.map_eq_some_iff.1 hf
   refine step rfl ht (by simp [aggT, hu]) ?_
   intro c e a u v he hc hv
   unfold eq1 at he
   split at he <;> first | (exfalso; simp_all; done) | skip
   ·cases he
    obtain ⟨rfl, _⟩ := hc.lit_inv
    obtain ⟨rfl, _⟩ := hv.lit_inv
    simp [Op.equalIn, run_underlying hu]
    rename_i a b
    cases a <;> cases b <;> rfl
  ·cases hf
theorem agg_eq {t : TypeId} {cs ds : List PV} {ts : List Nat} {b : Bool} {u v : Value} (hu : VR w g (.agg cs) u) (hv : VR w g (.agg ds) v) (ht : flatT P t = some ts) (he : eqC ts cs ds = some b) :
  ∃ xs ys, u = .agg xs ∧ v = .agg ys ∧ (Op.equal t u v).run P w = .ok b w ∧ P.eqGuardType P.depth t = false := by
 unfold flatT at ht
 split at ht
 case h_2 => cases ht
 rename_i fs hfs
 split at ht
 case isFalse => cases ht
 rename_i hc
 obtain ⟨c1, c2⟩ := hc
 cases hu with
 | agg _ xs hl1 ho1 hr1 =>
 cases hv with
 | agg _ ys hl2 ho2 hr2 =>
 refine ⟨xs, ys, rfl, rfl, ?_, c2⟩
 have hF : P.fieldsOf t = fs := by simp [Program.fieldsOf, hfs]
 have := run_equalIn_struct (P := P) w 9999 t xs ys (by rw [hF]; exact hfs) c1
 rw [hF] at this
 rw [show (Op.equal t (.agg xs) (.agg ys)) = Op.equalIn (9999 + 1) t (.agg xs) (.agg ys) from rfl, this]
 exact eqC_sound hl1 hr1 hl2 hr2 9998 fs.toList 0 ts b ht (by simpa using he)
theorem eqB_run {op : BinOp} {t : TypeId} {p q : Option Addr} {b : Bool} {r : PV} (hq : ∀ w : World, (Op.equal t (.pointer p) (.pointer q)).run P w = .ok b w) (h : eqB op b = some r) (xo yo : Operand) :
  ∃ u, (do eqGuard op t xo yo (.pointer p) (.pointer q); binOp op t (.pointer p) (.pointer q) : Sem Value).run P w = .ok u w ∧ VR w g r u := by
 unfold eqB at h
 split at h
 ·cases h
  exact ⟨_, by simp [eqGuard, binOp, hq], .lit _ rfl⟩
 ·cases h
  exact ⟨_, by simp [eqGuard, binOp, hq], .lit _ rfl⟩
 ·cases h
theorem ptrT_run {t : TypeId} (h : ptrT P t = true) : ∃ el j, P.underlying t = some (.pointer el) ∧ P.info? el = some j ∧ j.size ≠ 0 := by
 unfold ptrT at h
 split at h
 ·rename_i el hu
  split at h
  ·rename_i j hj; exact ⟨el, j, hu, hj, by simpa using h⟩
  ·cases h
 ·cases h
theorem ptr_eq {t : TypeId} (h : ptrT P t = true) (p q : Option Addr) (b : Bool) (hb : (p = none ∧ b = q.isNone) ∨ (q = none ∧ b = p.isNone) ∨ (p = q ∧ b = true)) (w : World) : (Op.equal t (.pointer p) (.pointer q)).run P w = .ok b w := by
 obtain ⟨el, j, hu, hj, hs⟩ := ptrT_run h
 have : ∀ d : Nat, (Op.equalIn (d + 1) t (.pointer p) (.pointer q)).run P w = .ok b w := by
  intro d
  rcases hb with ⟨rfl, rfl⟩ | ⟨rfl, rfl⟩ | ⟨rfl, rfl⟩
  ·simp [Op.equalIn, run_underlying hu]
  ·cases p <;> simp [Op.equalIn, run_underlying hu]
  ·cases p with
   | none => simp [Op.equalIn, run_underlying hu]
   | some a => simp [Op.equalIn, run_underlying hu, Go.sizeOf, typeInfo, hj, hs, sameAddr]
 exact this 9999
theorem mapNil_run {t : TypeId} (h : mapNilT P t = true) : ∃ kt el, P.underlying t = some (.map kt el) := by
 unfold mapNilT at h
 split at h
 ·exact ⟨_, _, ‹_›⟩
 ·cases h
theorem mapNil_eq {t : TypeId} (h : mapNilT P t = true) (p : Option Nat) (w : World) : (Op.equal t (.map p) (.map none)).run P w = .ok p.isNone w := by
 obtain ⟨kt, el, hu⟩ := mapNil_run h
 have : ∀ d : Nat, (Op.equalIn (d + 1) t (.map p) (.map none)).run P w = .ok p.isNone w := by
  intro d
  cases p <;> simp [Op.equalIn, run_underlying hu]
 exact this 9999
theorem eqM_run {op : BinOp} {t : TypeId} {p : Option Nat} {r : PV} (hq : ∀ w : World, (Op.equal t (.map p) (.map none)).run P w = .ok p.isNone w) (h : eqB op p.isNone = some r) (xo yo : Operand) :
  ∃ q, (do eqGuard op t xo yo (.map p) (.map none); binOp op t (.map p) (.map none) : Sem Value).run P w = .ok q w ∧ VR w g r q := by
 unfold eqB at h
 split at h
 ·cases h; exact ⟨_, by cases p <;> simp [eqGuard, binOp, hq], .lit _ rfl⟩
 ·cases h; exact ⟨_, by cases p <;> simp [eqGuard, binOp, hq, bne], .lit _ rfl⟩
 ·cases h
theorem bin_sound {op : BinOp} {t : TypeId} {x y r : PV} {u v : Value} (hx : VR w g x u) (hy : VR w g y v) (h : bin P op t x y = some r) (xo yo : Operand) :
  ∃ q, (do eqGuard op t xo yo u v; binOp op t u v : Sem Value).run P w = .ok q w ∧ VR w g r q := by
 unfold bin at h
 split at h
 ·obtain ⟨rfl, _⟩ := hx.lit_inv
  obtain ⟨rfl, _⟩ := hy.lit_inv
  split at h
  ·rename_i hk
   subst hk
   rename_i k a b
   by_cases hq : op = .quo ∨ op = .rem ∨ op = .shr ∨ op = .shl
   ·rcases hq with rfl | rfl | rfl | rfl
    ·simp only [intBin] at h
     split at h
     ·cases h
     ·rename_i hb; cases h; exact ⟨_, by simp [eqGuard, binOp, Op.intDiv, hb], .lit _ rfl⟩
    ·simp only [intBin] at h
     split at h
     ·cases h
     ·rename_i hb; cases h; exact ⟨_, by simp [eqGuard, binOp, Op.intDiv, hb], .lit _ rfl⟩
    ·simp only [intBin] at h
     split at h
     ·cases h
     ·rename_i hb; cases h; exact ⟨_, by simp [eqGuard, binOp, Op.shift, hb], .lit _ rfl⟩
    ·simp only [intBin] at h
     split at h
     ·cases h
     ·rename_i hb; cases h; exact ⟨_, by simp [eqGuard, binOp, Op.shift, hb], .lit _ rfl⟩
   simp only [not_or] at hq
   cases op <;> first | (exfalso; simp_all; done) | skip
   all_goals simp only [intBin, Option.some.injEq, reduceCtorEq] at h <;> subst h <;>
    exact ⟨_, by simp [eqGuard, binOp, Op.intArith, Op.intCmp, int_beq, bne], .lit _ rfl⟩
  ·cases h
 ·rename_i a b
  obtain ⟨rfl, _⟩ := hx.lit_inv
  obtain ⟨rfl, _⟩ := hy.lit_inv
  cases op <;> simp only [strBin, Option.some.injEq, reduceCtorEq] at h
  case add =>
   split at h
   ·cases h
    refine ⟨_, ?_, .lit _ rfl⟩
    have hm : IntKind.i64.max = 9223372036854775807 := by decide
    have : ¬ ((a.size + b.size : Nat) : Int) > IntKind.i64.max := by rw [hm]; omega
    simp only [eqGuard, binOp, Op.stringOp, if_neg this]
    rfl
   ·cases h
  all_goals
   subst h
   exact ⟨_, by simp [eqGuard, binOp, Op.stringOp, ba_eq, strLess], .lit _ rfl⟩
 ·obtain ⟨rfl, _⟩ := hx.lit_inv
  obtain ⟨rfl, _⟩ := hy.lit_inv
  split at h
  ·rename_i hb
   have hr := fun w => isBoolT_run (w := w) hb
   have hq : ∀ (d : Nat) (a b : Bool) (w : World), (Op.equalIn (d + 1) t (.bool a) (.bool b)).run P w = .ok (a == b) w := fun d a b w => by simp [Op.equalIn, hr]
   have hq' : ∀ (a b : Bool) (w : World), (Op.equal t (.bool a) (.bool b)).run P w = .ok (a == b) w := fun a b w => hq 9999 a b w
   cases op <;> simp only [Option.some.injEq, reduceCtorEq] at h <;> subst h <;>
    exact ⟨_, by simp only [eqGuard, binOp, Sem.run_bind]; simp [hq', bne], .lit _ rfl⟩
  ·cases h
 ·replace h := Option.bind_eq_some_iff.1 h; obtain ⟨ts, ht, h⟩ := h
  replace h := Option.bind_eq_some_iff.1 h; obtain ⟨b, hb, h⟩ := h
  obtain ⟨xs, ys, rfl, rfl, hq, hg⟩ := agg_eq hx hy ht hb
  split at h
  ·cases h
   exact ⟨_, by simp [eqGuard, binOp, hg, hq], .lit _ rfl⟩
  ·cases h
   exact ⟨_, by simp [eqGuard, binOp, hg, hq], .lit _ rfl⟩
  ·cases h
 ·split at h
  ·rename_i hp
   obtain ⟨rfl, _⟩ := hx.lit_inv
   obtain ⟨rfl, _⟩ := hy.lit_inv
   exact eqB_run (fun w => ptr_eq hp none none true (.inl ⟨rfl, rfl⟩) w) h xo yo
  ·cases h
 ·split at h
  ·rename_i hp
   obtain ⟨rfl, _⟩ := hx.lit_inv
   obtain ⟨rfl, _⟩ := hy.lit_inv
   exact eqM_run (fun w => mapNil_eq hp none w) h xo yo
  ·cases h
 ·split at h
  ·rename_i hp
   obtain ⟨rfl, _⟩ := hy.lit_inv
   cases hx with
   | mp i hi => exact eqM_run (fun w => mapNil_eq hp (some _) w) h xo yo
  ·cases h
 ·split at h
  ·rename_i hp
   obtain ⟨_, rfl⟩ := hx.pt_inv
   obtain ⟨rfl, _⟩ := hy.lit_inv
   exact eqB_run (fun w => ptr_eq hp _ none false (.inr (.inl ⟨rfl, rfl⟩)) w) h xo yo
  ·cases h
 ·split at h
  ·rename_i hp
   obtain ⟨_, rfl⟩ := hx.ep_inv
   obtain ⟨rfl, _⟩ := hy.lit_inv
   exact eqB_run (fun w => ptr_eq hp _ none false (.inr (.inl ⟨rfl, rfl⟩)) w) h xo yo
  ·cases h
 ·split at h
  ·rename_i hp
   obtain ⟨rfl, _⟩ := hx.lit_inv
   obtain ⟨_, rfl⟩ := hy.pt_inv
   exact eqB_run (fun w => ptr_eq hp none _ false (.inl ⟨rfl, rfl⟩) w) h xo yo
  ·cases h
 ·split at h
  ·rename_i hp
   obtain ⟨hp, rfl, rfl, rfl⟩ := hp
   obtain ⟨_, rfl⟩ := hx.pt_inv
   obtain ⟨_, rfl⟩ := hy.pt_inv
   exact eqB_run (fun w => ptr_eq hp _ _ true (.inr (.inr ⟨rfl, rfl⟩)) w) h xo yo
  ·cases h
 ·cases h
theorem un_sound {op : UnOp} {x r : PV} {u : Value} (hx : VR w g x u) (h : un op x = some r) : ∃ q, (Op.unary op u).run P w = .ok q w ∧ VR w g r q := by
 unfold un at h
 split at h
 ·obtain ⟨rfl, _⟩ := hx.lit_inv
  cases h
  exact ⟨_, by simp [Op.unary, Op.intArith], .lit _ rfl⟩
 ·obtain ⟨rfl, _⟩ := hx.lit_inv
  cases h
  exact ⟨_, by simp [Op.unary], .lit _ rfl⟩
 ·cases h
theorem bound_run {d y : Nat} {x : Option Operand} {k : Nat} (hE : ER w g N e a) (h : bound d (x.map e.ev) = some k) (hy : k ≤ y) (code : BoundsCode) :
  (match x.map a.eval with | some v => Instr.sliceBound v y code | none => pure d : Sem Nat).run P w = .ok k w := by
 cases x with
 | none => cases h; rfl
 | some x =>
  have hv := hE.ev x
  simp only [Option.map_some] at h ⊢
  generalize e.ev x = p at h hv
  generalize a.eval x = v at hv
  unfold bound at h
  split at h
  ·cases ‹some p = none›
  ·rename_i i hp
   cases hp
   obtain ⟨rfl, _⟩ := hv.lit_inv
   split at h
   ·rename_i h0
    cases h
    have : (0 : Int) ≤ i ∧ i ≤ (y : Int) := ⟨h0, by omega⟩
    simp [Instr.sliceBound, asIntOf, this]
   ·cases h
  ·cases h
theorem bounds_run {isS : Bool} {d : Nat} {lo hi : Option Operand} {l h : Nat} (hE : ER w g N e a) (hh : bound d (hi.map e.ev) = some h) (hl : bound 0 (lo.map e.ev) = some l) (h1 : l ≤ h) (cap : Nat) (hcap : h ≤ cap) :
  (Instr.sliceBounds isS d cap (lo.map a.eval) (hi.map a.eval) none).run P w = .ok (l, h, cap) w := by
 have e1 := bound_run (P := P) (y := cap) hE hh hcap (if isS then .sliceAcap else .sliceAlen)
 have e2 := bound_run (P := P) (y := h) hE hl h1 .sliceB
 cases lo with
 | none =>
  cases hi with
  | none => simp only [Option.map_none] at e1 e2 ⊢; cases hl; cases hh; rfl
  | some hi => simp only [Option.map_none, Option.map_some] at e1 e2 ⊢; cases hl; simp [Instr.sliceBounds, e1]
 | some lo =>
  cases hi with
  | none => simp only [Option.map_none, Option.map_some] at e1 e2 ⊢; cases hh; simp [Instr.sliceBounds, e2]
  | some hi => simp only [Option.map_some] at e1 e2 ⊢; simp [Instr.sliceBounds, e1, e2]
theorem all_width {xs : List PV} {n : Nat} (h : xs.all (fun x => x.width == n) = true) {i : Nat} {x : PV} (hi : xs[i]? = some x) : x.width = n := by
 rw [List.all_eq_true] at h
 simpa using h x (List.mem_of_getElem? hi)
theorem slc_sound {t : TypeId} {x r : PV} {u : Value} {lo hi : Option Operand} (hE : ER w g N e a) (hx : VR w g x u) (h : slc P t x (lo.map e.ev) (hi.map e.ev) = some r) :
  ∃ q, (Instr.slice t u (lo.map a.eval) (hi.map a.eval) none).run P w = .ok q w ∧ VR w g r q := by
 unfold slc at h
 split at h
 ·obtain ⟨rfl, _⟩ := hx.lit_inv
  split at h
  ·rename_i s hs
   replace h := Option.bind_eq_some_iff.1 h; obtain ⟨k, hk, h⟩ := h
   replace h := Option.bind_eq_some_iff.1 h; obtain ⟨l, hl, h⟩ := h
   split at h
   ·rename_i hb
    cases h
    exact ⟨_, by simp [Instr.slice, isStrT_run hs, bounds_run (isS := false) hE hk hl hb.1 _ hb.2], .lit _ rfl⟩
   ·cases h
  ·cases h
 ·rename_i k xs
  replace h := Option.bind_eq_some_iff.1 h; obtain ⟨el, he, h⟩ := h
  replace h := Option.bind_eq_some_iff.1 h; obtain ⟨n, hn, h⟩ := h
  replace h := Option.bind_eq_some_iff.1 h; obtain ⟨hh, hk, h⟩ := h
  replace h := Option.bind_eq_some_iff.1 h; obtain ⟨l, hl, h⟩ := h
  split at h
  ·rename_i hb
   obtain ⟨b1, b2, b3⟩ := hb
   cases h
   cases hx with
   | vec _ _ A cap sz f hc hkk hnn h0 hs hm hr =>
    refine ⟨_, by simp [Instr.slice, sliceT_run he, bounds_run (isS := true) hE hk hl b1 cap (by omega), run_sizeOf hn]; rfl, ?_⟩
    have hlen : ((xs.take hh).drop l).length = hh - l := by simp; omega
    rw [← hlen]
    have hget : ∀ (i : Nat) (x : PV), ((xs.take hh).drop l)[i]? = some x → xs[l + i]? = some x ∧ l + i < hh := by
     intro i x hi
     rw [List.getElem?_drop, List.getElem?_take] at hi
     split at hi
     ·exact ⟨hi, ‹_›⟩
     ·cases hi
    refine .vec _ _ _ _ sz (fun i j => f (l + i) j) (by rw [hlen]; omega) ?_ ?_ ?_ (fun i x hi => hs _ x (hget i x hi).1) ?_ (fun i x j c hi hj => hr _ x j c (hget i x hi).1 hj)
    ·intro hne
     rw [hlen]
     split at hne
     ·have := hkk (by simp); have := (hnn rfl).2; subst this; simp at b2 this; omega
     ·rename_i e1
      cases hi with
      | none => cases hk; rw [hkk (by simp)]
      | some _ => cases e1
     ·exact absurd rfl hne
    ·intro hne
     split at hne
     ·obtain ⟨rfl, rfl⟩ := hnn rfl
      exact ⟨by split <;> rfl, by simp⟩
     ·cases hne
     ·cases hne
    ·intro hne
     split at hne
     ·rename_i hcl
      omega
     ·cases A with
      | none => rw [h0 rfl]; omega
      | some a => cases hne
    ·intro i x j c hi hj
     obtain ⟨h1, h2⟩ := hget i x hi
     obtain ⟨ad, rfl, hz, hcell, hone⟩ := hm _ x j c h1 hj
     have hw : sz = n := by rw [← hs _ x h1]; exact all_width b3 h1
     subst hw
     rw [if_neg (by omega)]
     refine ⟨_, rfl, by rw [add_zero_add]; exact hz, ?_, hone⟩
     rw [show (ad.add (l * sz)).add (i * sz + j) = ad.add ((l + i) * sz + j) from ?_]
     ·exact hcell
     ·rw [Nat.add_mul, Nat.add_assoc]
      unfold Addr.add
      by_cases q0 : l * sz = 0
      ·simp [q0]
      ·by_cases q1 : i * sz + j = 0
       ·simp [q1]
       ·have : l * sz + (i * sz + j) ≠ 0 := by omega
        simp only [q0, q1, this, if_false, Nat.add_assoc]
  ·cases h
 ·rename_i i sz off len
  replace h := Option.bind_eq_some_iff.1 h; obtain ⟨el, he, h⟩ := h
  replace h := Option.bind_eq_some_iff.1 h; obtain ⟨n, hn, h⟩ := h
  replace h := Option.bind_eq_some_iff.1 h; obtain ⟨hh, hk, h⟩ := h
  replace h := Option.bind_eq_some_iff.1 h; obtain ⟨l, hl, h⟩ := h
  split at h
  ·rename_i hb
   obtain ⟨rfl, b2, b3⟩ := hb
   cases h
   cases hx with
   | sl _ _ _ _ cap hi hc hz hbd =>
    have hle : l ≤ hh := by omega
    refine ⟨_, by simp [Instr.slice, sliceT_run he, bounds_run (isS := true) hE hk hl hle cap (by omega), run_sizeOf hn]; rfl, ?_⟩
    have : (if cap = l then some (⟨(g.mu i).blk, off * sz, none⟩ : Addr) else some ((⟨(g.mu i).blk, off * sz, none⟩ : Addr).add (l * sz))) = some ⟨(g.mu i).blk, (off + l) * sz, none⟩ := by
     split
     ·have : l = 0 := by omega
      subst this; simp
     ·rw [add_plain, Nat.add_mul]
    rw [this]
    exact .sl _ _ _ _ _ hi (by omega) hz (by rw [show off + l + (cap - l) = off + cap by omega]; exact hbd)
  ·cases h
 ·cases h
theorem lenOf_sound {t ty : TypeId} {x : PV} {u : Value} {n : Nat} (hx : VR w g x u) (h : lenOf P t x = some n) : (Builtin.len_ #[t] ty #[u]).run P w = .ok (.int .i64 n) w := by
 unfold lenOf at h
 split at h
 ·obtain ⟨rfl, _⟩ := hx.lit_inv
  split at h
  ·rename_i hs
   cases h
   simp [Builtin.len_, isStrT_run hs, goInt]
  ·cases h
 ·cases hs : sliceT P t with
  | none => rw [hs] at h; cases h
  | some el =>
   rw [hs] at h; cases h
   cases hx with
   | vec => simp [Builtin.len_, sliceT_run hs, goInt]
 ·cases hs : sliceT P t with
  | none => rw [hs] at h; cases h
  | some el =>
   rw [hs] at h; cases h
   cases hx with
   | sl => simp [Builtin.len_, sliceT_run hs, goInt]
 ·cases h
theorem idxAddr_sound {t : TypeId} {x i r : PV} {u v : Value} (hx : VR w g x u) (hi : VR w g i v) (h : idxAddr P t x i = some r) : ∃ q, (Instr.indexAt t u v).run P w = .ok q w ∧ VR w g r q := by
 unfold idxAddr at h
 split at h
 ·rename_i k i
  obtain ⟨rfl, _⟩ := hi.lit_inv
  split at h
  ·rename_i h0
   obtain ⟨n, rfl⟩ := Int.eq_ofNat_of_zero_le h0
   simp only [Int.toNat_natCast] at h
   split at h
   ·rename_i kk xs
    replace h := Option.bind_eq_some_iff.1 h; obtain ⟨el, he, h⟩ := h
    replace h := Option.bind_eq_some_iff.1 h; obtain ⟨m, hm, h⟩ := h
    replace h := Option.bind_eq_some_iff.1 h; obtain ⟨y, hy, h⟩ := h
    split at h
    ·rename_i hw
     cases h
     cases hx with
     | vec _ _ A cap sz f hc hk hn hA hs hmm hr =>
      have hl := (List.getElem?_eq_some_iff.1 hy).1
      have hsz : sz = m := by rw [← hs n y hy]; exact hw
      subst hsz
      cases A with
      | none => have := hA rfl; omega
      | some ad =>
       have hlt : (0 : Int) ≤ (n : Int) ∧ (n : Int) < (xs.length : Int) := ⟨h0, by omega⟩
       refine ⟨_, by simp only [Instr.indexAt, asIntOf, Sem.run_bind, Sem.run_pure, Result.andThen_ok, sliceT_run he]; simp [hl, run_sizeOf hm]; rfl, ?_⟩
       refine .ep _ _ (fun j => f n j) (fun j c hj => ?_) (fun j c hj => hr n y j c hy hj)
       obtain ⟨a', ha', hz, hcell, h1⟩ := hmm n y j c hy hj
       cases ha'
       refine ⟨by rw [add_zero_add]; exact hz, ?_, h1⟩
       rw [show (ad.add (n * sz)).add j = ad.add (n * sz + j) from ?_]
       ·exact hcell
       ·unfold Addr.add
        by_cases q0 : n * sz = 0
        ·simp [q0]
        ·by_cases q1 : j = 0
         ·simp [q1]
         ·simp [q0, q1, Nat.add_assoc]
    ·cases h
   ·rename_i b sz off len
    replace h := Option.bind_eq_some_iff.1 h; obtain ⟨el, he, h⟩ := h
    replace h := Option.bind_eq_some_iff.1 h; obtain ⟨m, hm, h⟩ := h
    split at h
    ·rename_i hl
     obtain ⟨hl, rfl⟩ := hl
     cases h
     cases hx with
     | sl _ _ _ _ cap hi hc hz hb =>
      refine ⟨_, by simp only [Instr.indexAt, asIntOf, Sem.run_bind, Sem.run_pure, Result.andThen_ok, sliceT_run he]; simp [hl, run_sizeOf hm]; rfl, ?_⟩
      have := VR.pt (w := w) (g := g) b (off + n) 0 hi
      rw [hz] at this
      rw [add_plain, ← Nat.add_mul]
      exact this
    ·cases h
   ·rename_i b j f
    replace h := Option.bind_eq_some_iff.1 h; obtain ⟨⟨m, el⟩, he, h⟩ := h
    replace h := Option.bind_eq_some_iff.1 h; obtain ⟨z, hz, h⟩ := h
    split at h
    ·rename_i hl
     cases h
     obtain ⟨hi, rfl⟩ := hx.pt_inv
     refine ⟨_, by simp only [Instr.indexAt, asIntOf, Instr.sureAddr, Sem.run_bind, Sem.run_pure, Result.andThen_ok, arrT_run he]; simp [hl, run_sizeOf hz]; rfl, ?_⟩
     rw [pt_add]
     exact .pt _ _ _ hi
    ·cases h
   ·rename_i cs
    replace h := Option.bind_eq_some_iff.1 h; obtain ⟨⟨m, el⟩, he, h⟩ := h
    replace h := Option.bind_eq_some_iff.1 h; obtain ⟨z, hz, h⟩ := h
    split at h
    ·rename_i hl
     cases h
     obtain ⟨ad, rfl⟩ := hx.ep_inv
     exact ⟨_, by simp only [Instr.indexAt, asIntOf, Instr.sureAddr, Sem.run_bind, Sem.run_pure, Result.andThen_ok, arrT_run he]; simp [hl, run_sizeOf hz], hx.ep_drop _⟩
    ·cases h
   ·cases h
  ·cases h
 ·cases h
theorem part_run {cs : List PV} {vs : Array Value} (hx : VR w g (.agg cs) (.agg vs)) {el : TypeId} {n o : Nat} {ag : Bool} {r : PV} (hn : tsz P el = some n) (ha : aggT P el = some ag) (h : pack ag ((cs.drop o).take n) = some r) :
  ∃ q, (part el vs o).run P w = .ok q w ∧ VR w g r q := by
 cases hx with
 | agg _ _ hl h1 h2 =>
  cases ag with
  | true =>
   cases h
   have hg : ∀ (i : Nat) (v : Value), (vs.extract o (o + n))[i]? = some v → vs[o + i]? = some v ∧ i < n := by
    intro i v hv
    rw [Array.getElem?_extract] at hv
    split at hv
    ·exact ⟨hv, by omega⟩
    ·cases hv
   refine ⟨.agg (vs.extract o (o + n)), by simp only [part, Sem.run_bind, run_isAgg ha, run_sizeOf hn, Result.andThen_ok, if_true, Sem.run_pure], .agg _ _ (by simp; omega) (fun i v hv => h1 _ v (hg i v hv).1) (fun i c v hc hv => ?_)⟩
   obtain ⟨q1, q2⟩ := hg i v hv
   rw [List.getElem?_take, if_pos q2, List.getElem?_drop] at hc
   exact h2 _ c v hc q1
  | false =>
   obtain ⟨rest, hr⟩ := pack_one h
   have h0 : cs[o]? = some r := by
    have : ((cs.drop o).take n)[0]? = some r := by rw [hr]; rfl
    rw [List.getElem?_take] at this
    split at this
    ·rw [List.getElem?_drop] at this; simpa using this
    ·cases this
   have hlt := (List.getElem?_eq_some_iff.1 h0).1
   refine ⟨vs[o], ?_, h2 o r _ h0 (Array.getElem?_eq_getElem (by omega))⟩
   simp only [part, Sem.run_bind, run_isAgg ha, Result.andThen_ok, Bool.false_eq_true, if_false, Array.getElem?_eq_getElem (show o < vs.size by omega), Sem.run_pure]
theorem idx_sound {t : TypeId} {x i r : PV} {u v : Value} (hx : VR w g x u) (hi : VR w g i v) (h : idx P t x i = some r) : ∃ q, (Instr.index t u v).run P w = .ok q w ∧ VR w g r q := by
 unfold idx at h
 split at h
 ·rename_i k i
  obtain ⟨rfl, _⟩ := hi.lit_inv
  split at h
  ·rename_i h0
   obtain ⟨n, rfl⟩ := Int.eq_ofNat_of_zero_le h0
   simp only [Int.toNat_natCast] at h
   split at h
   ·obtain ⟨rfl, _⟩ := hx.lit_inv
    rename_i s _
    split at h
    ·rename_i hs
     cases hb : s[n]? with
     | none => rw [hb] at h; cases h
     | some b =>
      rw [hb] at h
      cases h
      refine ⟨_, ?_, .lit _ rfl⟩
      simp only [Instr.index, asIntOf, Sem.run_bind, Sem.run_pure, Result.andThen_ok, isStrT_run hs, h0, if_true, Int.toNat_natCast, hb]
    ·cases h
   ·rename_i cs
    replace h := Option.bind_eq_some_iff.1 h; obtain ⟨⟨m, el⟩, he, h⟩ := h
    replace h := Option.bind_eq_some_iff.1 h; obtain ⟨z, hz, h⟩ := h
    replace h := Option.bind_eq_some_iff.1 h; obtain ⟨ag, ha, h⟩ := h
    split at h
    ·rename_i hl
     obtain ⟨vs, rfl, _⟩ := hx.cells_agg
     obtain ⟨q, hq, hv⟩ := part_run hx hz ha h
     refine ⟨q, ?_, hv⟩
     simp only [Instr.index, asIntOf, Sem.run_bind, Sem.run_pure, Result.andThen_ok, arrT_run he, Int.toNat_natCast, run_sizeOf hz]
     rw [if_pos ⟨h0, by omega⟩]
     simp only [Sem.run_bind, run_sizeOf hz, Result.andThen_ok, hq]
    ·cases h
   ·cases h
  ·cases h
 ·cases h
theorem args_map (hE : ER w g N e a) (xs : Array Operand) : (xs.map a.eval).size = (xs.toList.map e.ev).length ∧ ∀ (i : Nat) (c : PV) (v : Value), (xs.toList.map e.ev)[i]? = some c → (xs.map a.eval)[i]? = some v → VR w g c v := by
 refine ⟨by simp, fun i c v hc hv => ?_⟩
 rw [List.getElem?_map, Array.getElem?_toList] at hc
 rw [Array.getElem?_map] at hv
 cases hx : xs[i]? with
 | none => rw [hx] at hc; cases hc
 | some x =>
  rw [hx] at hc hv
  cases hc
  cases hv
  exact hE.ev x
theorem qcall_sound (hE : ER w g N e a) (dst : Option Tmp) (ty : TypeId) (pos : String) (after : Array Edge) (guard : Option (Nat × Bool)) (c : Call) {r : PV} (h : qcall P e c = some r) :
  ∃ u, (execOp a.eval ⟨dst, .call c, ty, pos, after, guard⟩).run P w = .ok (.value u) w ∧ VR w g r u := by
 obtain ⟨cal, ⟨args⟩, ⟨ats⟩⟩ := c
 unfold qcall at h
 split at h
 ·rename_i hc
  simp only at hc h
  subst hc
  split at h
  ·rename_i x t
   cases hl : lenOf P t (e.ev x) with
   | none => rw [hl] at h; cases h
   | some n =>
    rw [hl] at h
    cases h
    refine ⟨_, ?_, .lit _ rfl⟩
    have := lenOf_sound (P := P) (ty := ty) (hE.ev x) hl
    simp only [execOp, resolve, invoke, builtin, Sem.run_bind, Sem.run_pure, Result.andThen_ok, List.map_toArray, List.map_cons, List.map_nil, this]
  ·cases h
 ·rename_i hc
  simp only at hc h
  subst hc
  split at h
  ·rename_i x y
   have hx := hE.ev x
   have hy := hE.ev y
   generalize e.ev x = p at h hx
   generalize e.ev y = q at h hy
   split at h
   ·split at h
    ·rename_i k i k' j hk
     subst hk
     cases h
     obtain ⟨hu, _⟩ := hx.lit_inv
     obtain ⟨hv, _⟩ := hy.lit_inv
     refine ⟨_, ?_, .lit _ rfl⟩
     have : max i j = if j > i then j else i := by omega
     rw [this]
     simp only [execOp, resolve, invoke, builtin, Sem.run_bind, Sem.run_pure, Result.andThen_ok, List.map_toArray, List.map_cons, List.map_nil, hu, hv, Builtin.max_, List.foldlM, Builtin.max2]
    ·cases h
   ·cases h
  ·cases h
 ·rename_i hc
  simp only at hc h
  subst hc
  split at h
  ·rename_i x y
   have hx := hE.ev x
   have hy := hE.ev y
   generalize e.ev x = p at h hx
   generalize e.ev y = q at h hy
   split at h
   ·split at h
    ·rename_i k i k' j hk
     subst hk
     cases h
     obtain ⟨hu, _⟩ := hx.lit_inv
     obtain ⟨hv, _⟩ := hy.lit_inv
     refine ⟨_, ?_, .lit _ rfl⟩
     have : min i j = if j < i then j else i := by omega
     rw [this]
     simp only [execOp, resolve, invoke, builtin, Sem.run_bind, Sem.run_pure, Result.andThen_ok, List.map_toArray, List.map_cons, List.map_nil, hu, hv, Builtin.min_, List.foldlM, Builtin.min2]
    ·cases h
   ·cases h
  ·cases h
 ·rename_i hc
  simp only at hc h
  subst hc
  split at h
  ·rename_i x t
   have hx := hE.ev x
   generalize e.ev x = p at h hx
   split at h
   ·rename_i k xs
    split at h
    ·cases h
    ·rename_i hk
     cases ht : sliceT P t with
     | none => rw [ht] at h; cases h
     | some el =>
      rw [ht] at h
      cases h
      generalize hv : a.eval x = v at hx
      cases hx with
      | vec _ _ A cap sz f hc hk' hn h0 hs hm hr =>
       have hcap := hk' hk
       subst hcap
       refine ⟨.int .i64 xs.length, ?_, .lit _ rfl⟩
       simp only [execOp, resolve, invoke, builtin, Sem.run_bind, Sem.run_pure, Result.andThen_ok, List.map_toArray, List.map_cons, List.map_nil, hv, Builtin.cap_, List.getElem?_toArray, List.getElem?_cons_zero, sliceT_run ht]
       rfl
   ·cases h
  ·cases h
 ·rename_i hc
  simp only at hc h
  subst hc
  split at h
  ·rename_i x
   have hx := hE.ev x
   generalize e.ev x = p at h hx
   split at h
   ·rename_i i sz off len
    split at h
    ·cases h
    ·rename_i hl
     cases h
     generalize hv : a.eval x = v at hx
     cases hx with
     | sl _ _ _ _ cap hi hc hz hb =>
      refine ⟨.pointer (some ⟨(g.mu i).blk, off * sz, none⟩), ?_, ?_⟩
      ·have hc0 : cap ≠ 0 := by omega
       simp only [execOp, resolve, invoke, builtin, Sem.run_bind, Sem.run_pure, Result.andThen_ok, List.map_toArray, List.map_cons, List.map_nil, hv, Lib.run_unsafeSliceData_row w _ _ _ _ _ hc0]
      ·have := VR.pt (w := w) (g := g) i off 0 hi
       rw [hz] at this
       simpa using this
   ·rename_i xs
    cases h
    generalize hv : a.eval x = v at hx
    cases hx with
    | vec _ _ A cap sz f hc hk' hn h0 hs hm hr =>
     obtain ⟨rfl, _⟩ := hn rfl
     refine ⟨.pointer none, ?_, .lit _ rfl⟩
     simp only [execOp, resolve, invoke, builtin, Sem.run_bind, Sem.run_pure, Result.andThen_ok, List.map_toArray, List.map_cons, List.map_nil, hv, Lib.run_unsafeSliceData_nil w]
   ·cases h
  ·cases h
 ·cases h
theorem slc_at {t : TypeId} {x r : PV} {lo hi : Option PV} (h : slc P t x lo hi = some r) (v : Value) (l k m : Option Value) : (Instr.sliceAt t v l k m).run P w = (Instr.slice t v l k m).run P w := by
 have hs : (∃ el, (underlying t).run P w = .ok (.slice el) w) ∨ (underlying t).run P w = .ok .string w := by
  unfold slc at h
  split at h
  ·split at h
   ·exact .inr (isStrT_run ‹_›)
   ·cases h
  ·replace h := Option.bind_eq_some_iff.1 h; obtain ⟨el, he, h⟩ := h
   exact .inl ⟨el, sliceT_run he⟩
  ·replace h := Option.bind_eq_some_iff.1 h; obtain ⟨el, he, h⟩ := h
   exact .inl ⟨el, sliceT_run he⟩
  ·cases h
 rcases hs with ⟨el, hs⟩ | hs
 ·simp only [Instr.sliceAt, Sem.run_bind, hs, Result.andThen_ok]
 ·simp only [Instr.sliceAt, Sem.run_bind, hs, Result.andThen_ok]
theorem mapT_run {t kt el : TypeId} (h : mapT P t = some (kt, el)) : P.underlying t = some (.map kt el) ∧ P.underlying kt = some .string := by
 unfold mapT at h
 split at h
 ·rename_i k e hu
  split at h
  ·rename_i hk; cases h; exact ⟨hu, hk⟩
  ·cases h
 ·cases h
theorem bb_eq (a b : ByteArray) : (a == b) = decide (a = b) := by rw [beq_toListBytes, ba_eq]
def DR {α : Type} (f : α → Value) (w : World) (g : G) (l : List MapEntry) (es : List (α × PV)) : Prop := l.length = es.length ∧ ∀ (j : Nat) (k : α) (p : PV) (m : MapEntry), es[j]? = some (k, p) → l[j]? = some m → m.key = f k ∧ VR w g p m.val
theorem DR.cons {α : Type} {f : α → Value} {l : List MapEntry} {es : List (α × PV)} {m : MapEntry} {k : α} {p : PV} (h : DR f w g (m :: l) ((k, p) :: es)) : m.key = f k ∧ VR w g p m.val ∧ DR f w g l es :=
 ⟨(h.2 0 k p m rfl rfl).1, (h.2 0 k p m rfl rfl).2, by simpa using h.1, fun j k' p' m' hj hm => h.2 (j + 1) k' p' m' hj hm⟩
structure KeyF {α : Type} [DecidableEq α] (f : α → Value) (U : TypeDesc) : Prop where
 same : ∀ a b, Instr.sameNow U (f a) (f b) = some (decide (a = b))
 bits : ∀ a, Instr.sameBits 10000 (f a) (f a) = true
 chk : ∀ (P : Program) (w : World) (kt : TypeId) (em : Bool) (n : Nat) (b : α), P.underlying kt = some U → (Instr.checkKey em (n + 1) kt (f b)).run P w = .ok () w
theorem key_s : KeyF (α := ByteArray) Value.string .string := ⟨fun a b => by simp [Instr.sameNow, bb_eq], fun a => by simp [Instr.sameBits, bb_eq], fun P w kt em n b h => by simp [Instr.checkKey, run_underlying h]⟩
theorem key_i (kd : IntKind) : KeyF (α := Int) (Value.int kd) (.int kd) := ⟨fun a b => by simp [Instr.sameNow, int_beq], fun a => by simp [Instr.sameBits], fun P w kt em n b h => by simp [Instr.checkKey, run_underlying h]⟩
section
variable {α : Type} [DecidableEq α] {f : α → Value} {U : TypeDesc}
theorem find_rel (hf : KeyF f U) (b : α) : ∀ (l : List MapEntry) (es : List (α × PV)) (i : Nat), DR f w g l es →
  (dget es b = none ∧ Instr.findNow U (f b) l i = some none ∧ ∀ v, dset es b v = es ++ [(b, v)]) ∨
  (∃ p n m, dget es b = some p ∧ l[n]? = some m ∧ Instr.findNow U (f b) l i = some (some (i + n, m.val)) ∧ VR w g p m.val ∧ m.key = f b ∧ ∀ v, dset es b v = es.set n (b, v))
 | [], [], i, _ => .inl ⟨rfl, rfl, fun _ => rfl⟩
 | [], _ :: _, i, h => by have := h.1; simp at this
 | _ :: _, [], i, h => by have := h.1; simp at this
 | m :: l, (k, p) :: es, i, h => by
  obtain ⟨hk, hv, h⟩ := h.cons
  by_cases hb : b = k
  ·subst hb
   refine .inr ⟨p, 0, m, by simp [dget], rfl, ?_, hv, hk, fun v => by simp [dset]⟩
   simp [Instr.findNow, hk, hf.same]
  ·have hs : Instr.findNow U (f b) (m :: l) i = Instr.findNow U (f b) l (i + 1) := by simp [Instr.findNow, hk, hf.same, hb]
   rcases find_rel hf b l es (i + 1) h with ⟨h1, h2, h3⟩ | ⟨p', n, m', h1, h2, h3, h4, h5, h6⟩
   ·exact .inl ⟨by simp [dget, hb, h1], by rw [hs, h2], fun v => by simp [dset, hb, h3]⟩
   ·exact .inr ⟨p', n + 1, m', by simp [dget, hb, h1], h2, by rw [hs, h3]; congr 3; omega, h4, h5, fun v => by simp [dset, hb, h6]⟩
omit [DecidableEq α] in
theorem findKey_run {kt : TypeId} (h : P.underlying kt = some U) {b : α} {l : List MapEntry} {r : Option (Nat × Value)} (hf : Instr.findNow U (f b) l 0 = some r) : (Instr.findKey kt (f b) l).run P w = .ok r w := by
 simp [Instr.findKey, run_underlying h, hf]
theorem look_with (hk' : KeyF f U) {t kt el : TypeId} {z : Value} (hu : P.underlying t = some (.map kt el)) (hk : P.underlying kt = some U) (hz : tzero P el = some z) {ents : Array MapEntry} {es : List (α × PV)} {b : α} {c : Bool} (hr : DR f w g ents.toList es) (x : Value)
  (hx : x = .map none ∧ ents = #[] ∨ ∃ k clock, x = .map (some k) ∧ w.heap[k]? = some (.map ents clock)) : ∃ u, (Instr.lookup t x (f b) c).run P w = .ok u w ∧ VR w g (match dget es b with
  | some v => if c = true then .tup [v, .lit (.bool true)] else v
  | none => if c = true then .tup [ofVal z, .lit (.bool false)] else ofVal z) u := by
 have hck : ∀ em, (Instr.checkKey em 10000 kt (f b)).run P w = .ok () w := fun em => hk'.chk P w kt em 9999 b hk
 have hz' := run_zeroValue (w := w) hz
 rcases find_rel hk' b ents.toList es 0 hr with ⟨h1, h2, _⟩ | ⟨p, n, m, h1, h2, h3, h4, _⟩
 ·rw [h1]
  have hf := findKey_run (w := w) hk h2
  cases c with
  | true =>
   refine ⟨.tuple #[z, .bool false], ?_, .tup _ _ rfl (fun i q v hq hv => ?_)⟩
   ·unfold Instr.lookup
    simp only [Sem.run_bind, run_underlying hu, Result.andThen_ok]
    rcases hx with ⟨rfl, rfl⟩ | ⟨kb, clock, rfl, hb⟩
    ·simp [hck, hf, hz']
    ·simp [getObj, Sem.run, hb, hck, hf, hz']
   ·match i with
    | 0 => cases hq; cases hv; exact VR.ofVal w g z
    | 1 => cases hq; cases hv; exact .lit _ rfl
    | i + 2 => simp at hq
  | false =>
   refine ⟨z, ?_, VR.ofVal w g z⟩
   unfold Instr.lookup
   simp only [Sem.run_bind, run_underlying hu, Result.andThen_ok]
   rcases hx with ⟨rfl, rfl⟩ | ⟨kb, clock, rfl, hb⟩
   ·simp [hck, hf, hz']
   ·simp [getObj, Sem.run, hb, hck, hf, hz']
 ·rw [h1]
  have hf := findKey_run (w := w) hk h3
  cases c with
  | true =>
   refine ⟨.tuple #[m.val, .bool true], ?_, .tup _ _ rfl (fun i q v hq hv => ?_)⟩
   ·unfold Instr.lookup
    simp only [Sem.run_bind, run_underlying hu, Result.andThen_ok]
    rcases hx with ⟨rfl, rfl⟩ | ⟨kb, clock, rfl, hb⟩
    ·simp at h2
    ·simp [getObj, Sem.run, hb, hck, hf]
   ·match i with
    | 0 => cases hq; cases hv; exact h4
    | 1 => cases hq; cases hv; exact .lit _ rfl
    | i + 2 => simp at hq
  | false =>
   refine ⟨m.val, ?_, h4⟩
   unfold Instr.lookup
   simp only [Sem.run_bind, run_underlying hu, Result.andThen_ok]
   rcases hx with ⟨rfl, rfl⟩ | ⟨kb, clock, rfl, hb⟩
   ·simp at h2
   ·simp [getObj, Sem.run, hb, hck, hf]
end
theorem imapT_run {t kt el : TypeId} {kd : IntKind} (h : imapT P t = some (kd, kt, el)) : P.underlying t = some (.map kt el) ∧ P.underlying kt = some (.int kd) := by
 unfold imapT at h
 split at h
 ·rename_i k e hu
  split at h
  ·rename_i kd' hk; cases h; exact ⟨hu, hk⟩
  ·cases h
 ·cases h
theorem lookR_ok {t : TypeId} {ents : Array MapEntry} {es : List (ByteArray × PV)} {b : ByteArray} {c : Bool} {r : PV} (hr : DR .string w g ents.toList es) (h : lookR P t es b c = some r) (x : Value)
  (hx : x = .map none ∧ ents = #[] ∨ ∃ k clock, x = .map (some k) ∧ w.heap[k]? = some (.map ents clock)) : ∃ u, (Instr.lookup t x (.string b) c).run P w = .ok u w ∧ VR w g r u := by
 unfold lookR at h
 replace h := Option.bind_eq_some_iff.1 h; obtain ⟨⟨kt, el⟩, ht, h⟩ := h
 replace h := Option.bind_eq_some_iff.1 h; obtain ⟨z, hz, h⟩ := h
 obtain ⟨hu, hk⟩ := mapT_run ht
 cases h
 exact look_with key_s hu hk hz hr x hx
theorem lookI_ok {t : TypeId} {kd : IntKind} {ents : Array MapEntry} {es : List (Int × PV)} {b : Int} {c : Bool} {r : PV} (hr : DR (.int kd) w g ents.toList es) (h : lookI P t kd es b c = some r) (x : Value)
  (hx : x = .map none ∧ ents = #[] ∨ ∃ k clock, x = .map (some k) ∧ w.heap[k]? = some (.map ents clock)) : ∃ u, (Instr.lookup t x (.int kd b) c).run P w = .ok u w ∧ VR w g r u := by
 unfold lookI at h
 replace h := Option.bind_eq_some_iff.1 h; obtain ⟨⟨kd', kt, el⟩, ht, h⟩ := h
 simp only at h
 split at h
 ·rename_i hkd
  subst hkd
  replace h := Option.bind_eq_some_iff.1 h; obtain ⟨z, hz, h⟩ := h
  obtain ⟨hu, hk⟩ := imapT_run ht
  cases h
  exact look_with (key_i _) hu hk hz hr x hx
 ·cases h
theorem look_sound (hH : Holds g s w) {t : TypeId} {x k r : PV} {u v : Value} {c : Bool} (hx : VR w g x u) (hk : VR w g k v) (h : lookV P s t x k c = some r) : ∃ q, (Instr.lookup t u v c).run P w = .ok q w ∧ VR w g r q := by
 unfold lookV at h
 split at h
 ·rename_i i b
  split at h
  ·rename_i es hs
   obtain ⟨rfl, _⟩ := hk.lit_inv
   cases hx with
   | mp _ hi =>
    cases hH.blk i _ hs with
    | dict _ ents clock hb hl hd _ =>
     exact lookR_ok (ents := ents) ⟨by simpa using hl, fun j k p m hj hm => hd j k p m hj (by simpa using hm)⟩ h _ (.inr ⟨_, clock, rfl, hb⟩)
  ·cases h
 ·rename_i i kd b
  split at h
  ·rename_i kd' es hs
   split at h
   ·rename_i hkd
    subst hkd
    obtain ⟨rfl, _⟩ := hk.lit_inv
    cases hx with
    | mp _ hi =>
     cases hH.blk i _ hs with
     | idict _ _ ents clock hb hl hd =>
      exact lookI_ok (ents := ents) ⟨by simpa using hl, fun j k p m hj hm => hd j k p m hj (by simpa using hm)⟩ h _ (.inr ⟨_, clock, rfl, hb⟩)
   ·cases h
  ·cases h
 ·rename_i b
  obtain ⟨rfl, _⟩ := hx.lit_inv
  obtain ⟨rfl, _⟩ := hk.lit_inv
  exact lookR_ok (ents := #[]) ⟨rfl, fun j k p m hj => by simp at hj⟩ h _ (.inl ⟨rfl, rfl⟩)
 ·rename_i kd b
  obtain ⟨rfl, _⟩ := hx.lit_inv
  obtain ⟨rfl, _⟩ := hk.lit_inv
  exact lookI_ok (ents := #[]) ⟨rfl, fun j k p m hj => by simp at hj⟩ h _ (.inl ⟨rfl, rfl⟩)
 ·cases h
theorem qop_sound (hH : Holds g s w) (hE : ER w g N e a) (o : Oper) {r : PV} (h : qop P e s o.op = some r) : ∃ u, (execOp a.eval o).run P w = .ok (.value u) w ∧ VR w g r u := by
 obtain ⟨dst, op, ty, pos, after, guard⟩ := o
 simp only at h
 unfold qop at h
 split at h
 ·cases h; exact ⟨_, rfl, hE.ev _⟩
 ·cases h; exact ⟨_, rfl, hE.ev _⟩
 ·rename_i t x
  replace h := Option.bind_eq_some_iff.1 h; obtain ⟨n, hn, h⟩ := h
  replace h := Option.bind_eq_some_iff.1 h; obtain ⟨ag, ha, h⟩ := h
  replace h := Option.bind_eq_some_iff.1 h; obtain ⟨cs, hc, h⟩ := h
  obtain ⟨u, hu, hv⟩ := run_load_pv hH (hE.ev x) hn ha hc h
  exact ⟨u, by simp only [execOp, Sem.run_bind, hu, Result.andThen_ok, Sem.run_pure], hv⟩
 ·rename_i x
  have hx := hE.ev x
  generalize hp : e.ev x = p at h hx
  split at h
  ·cases h
   obtain ⟨_, hu⟩ := hx.pt_inv
   exact ⟨_, by simp only [execOp, hu]; rfl, by rw [hu] at hx; exact hx⟩
  ·cases h
   obtain ⟨ad, hu⟩ := hx.ep_inv
   exact ⟨_, by simp only [execOp, hu]; rfl, by rw [hu] at hx; exact hx⟩
  ·cases h
   generalize hu : a.eval x = u at hx
   cases hx with
   | fn _ _ _ fv cv h1 h2 h3 h4 => exact ⟨_, by simp only [execOp, hu]; rfl, .fn _ _ _ fv cv h1 h2 h3 h4⟩
  ·cases h
 ·rename_i op t x y _
  obtain ⟨q, hq, hv⟩ := bin_sound (P := P) (hE.ev x) (hE.ev y) h x y
  exact ⟨q, by simp only [execOp, Sem.run_bind, Sem.run_pure] at hq ⊢; rw [hq]; rfl, hv⟩
 ·rename_i op _ x
  obtain ⟨q, hq, hv⟩ := un_sound (P := P) (hE.ev x) h
  exact ⟨q, by simp only [execOp, Sem.run_bind, hq, Result.andThen_ok, Sem.run_pure], hv⟩
 ·rename_i src dst' x
  have hx := hE.ev x
  generalize e.ev x = p at h hx
  split at h
  ·replace h := Option.bind_eq_some_iff.1 h; obtain ⟨d, hd, h⟩ := h
   cases hk : intT P dst' with
   | none => rw [hk] at h; cases h
   | some k =>
    rw [hk] at h
    cases h
    obtain ⟨hu, _⟩ := hx.lit_inv
    exact ⟨_, by simp only [execOp, Sem.run_bind, convert, run_underlying hd, intT_run hk, Result.andThen_ok, hu]; rfl, .lit _ rfl⟩
  ·rename_i b
   replace h := Option.bind_eq_some_iff.1 h; obtain ⟨d, hd, h⟩ := h
   split at h
   ·rename_i hs
    cases h
    obtain ⟨hu, _⟩ := hx.lit_inv
    exact ⟨.string b, by simp only [execOp, Sem.run_bind, convert, run_underlying hd, isStrT_run hs, Result.andThen_ok, hu]; cases d <;> rfl, .lit _ rfl⟩
   ·cases h
  ·cases h
 ·rename_i t x k c
  obtain ⟨q, hq, hv⟩ := look_sound (P := P) hH (hE.ev x) (hE.ev k) h
  exact ⟨q, by simp only [execOp, Sem.run_bind, hq, Result.andThen_ok, Sem.run_pure], hv⟩
 ·rename_i f fs cs
  cases h
  obtain ⟨h1, h3⟩ := args_map hE fs
  obtain ⟨h2, h4⟩ := args_map hE cs
  exact ⟨_, rfl, .fn _ _ _ _ _ h1 h2 h3 h4⟩
 ·rename_i t x lo hi
  obtain ⟨q, hq, hv⟩ := slc_sound (P := P) hE (hE.ev x) h
  exact ⟨q, by simp only [execOp, Sem.run_bind, Option.map_none, slc_at h, hq, Result.andThen_ok, Sem.run_pure], hv⟩
 ·rename_i t x hi mx
  replace h := Option.bind_eq_some_iff.1 h; obtain ⟨el, hel, h⟩ := h
  replace h := Option.bind_eq_some_iff.1 h; obtain ⟨n, hn, h⟩ := h
  have hx := hE.ev x
  have h1 := hE.ev hi
  have h2 := hE.ev mx
  generalize e.ev x = px at h hx
  generalize e.ev hi = ph at h h1
  generalize e.ev mx = pm at h h2
  split at h
  ·split at h
   ·rename_i hz
    obtain ⟨rfl, rfl⟩ := hz
    cases h
    obtain ⟨hv1, _⟩ := h1.lit_inv
    obtain ⟨hv2, _⟩ := h2.lit_inv
    generalize hvx : a.eval x = vx at hx
    cases hx with
    | vec k xs A cap sz f hc hk hnn h0 hs hm hr =>
     refine ⟨.slice A 0 0, ?_, .vec .tight [] A 0 0 (fun _ _ => undef) (Nat.le_refl _) (fun _ => rfl) (fun h => by cases h) (fun _ => rfl) (by simp) (by simp) (by simp)⟩
     simp only [execOp, Sem.run_bind, Option.map_none, Option.map_some, Instr.sliceAt, sliceT_run hel, Result.andThen_ok, hvx, Instr.slice, hv1, hv2, Instr.sliceBounds, Instr.sliceBound, asIntOf, Sem.run_pure, run_sizeOf hn]
     simp
   ·cases h
  ·cases h
 ·rename_i t x f
  replace h := Option.bind_eq_some_iff.1 h; obtain ⟨⟨o, ft⟩, hf, h⟩ := h
  replace h := Option.bind_eq_some_iff.1 h; obtain ⟨n, hn, h⟩ := h
  split at h
  ·cases h
  ·rename_i hn0
   obtain ⟨fs, fd, hu, hfd, ho, hft⟩ := fld_run (w := w) hf
   subst ho hft
   have hx := hE.ev x
   have hrun : ∀ ad, a.eval x = .pointer (some ad) → (execOp a.eval ⟨dst, .fieldAddr t x f, ty, pos, after, guard⟩).run P w = .ok (.value (.pointer (some (ad.add fd.offset)))) w := by
    intro ad had
    simp only [execOp, Sem.run_bind, Instr.fieldAt, hu, Result.andThen_ok, hfd, had, Instr.sureAddr, Sem.run_pure, fieldPlace, run_sizeOf hn, hn0, if_false]
   generalize e.ev x = p at h hx
   split at h
   ·cases h
    obtain ⟨hi, hp⟩ := hx.pt_inv
    exact ⟨_, hrun _ hp, by rw [pt_add]; exact .pt _ _ _ hi⟩
   ·cases h
    obtain ⟨ad, hp⟩ := hx.ep_inv
    rw [hp] at hx
    exact ⟨_, hrun _ hp, hx.ep_drop _⟩
   ·cases h
 ·rename_i t x f
  replace h := Option.bind_eq_some_iff.1 h; obtain ⟨⟨o, ft⟩, hf, h⟩ := h
  replace h := Option.bind_eq_some_iff.1 h; obtain ⟨n, hn, h⟩ := h
  replace h := Option.bind_eq_some_iff.1 h; obtain ⟨ag, ha, h⟩ := h
  obtain ⟨fs, fd, hu, hfd, ho, hft⟩ := fld_run (w := w) hf
  subst ho hft
  have hx := hE.ev x
  generalize e.ev x = p at h hx
  split at h
  ·generalize hv : a.eval x = v at hx
   obtain ⟨vs, rfl, _⟩ := hx.cells_agg
   obtain ⟨q, hq, hr⟩ := part_run hx hn ha h
   exact ⟨q, by simp only [execOp, Sem.run_bind, Instr.field, hu, Result.andThen_ok, hfd, hv, asAgg, Sem.run_pure, hq], hr⟩
  ·cases h
 ·rename_i t x i
  obtain ⟨q, hq, hv⟩ := idxAddr_sound (P := P) (hE.ev x) (hE.ev i) h
  exact ⟨q, by simp only [execOp, Sem.run_bind, hq, Result.andThen_ok, Sem.run_pure], hv⟩
 ·rename_i t x i
  obtain ⟨q, hq, hv⟩ := idx_sound (P := P) (hE.ev x) (hE.ev i) h
  exact ⟨q, by simp only [execOp, Sem.run_bind, hq, Result.andThen_ok, Sem.run_pure], hv⟩
 ·rename_i x k
  have hx := hE.ev x
  generalize e.ev x = p at h hx
  split at h
  ·rename_i vs
   generalize hv : a.eval x = v at hx
   cases hx with
   | tup _ us hl h2 =>
    have hlt := (List.getElem?_eq_some_iff.1 h).1
    refine ⟨us[k], ?_, h2 k r _ h (Array.getElem?_eq_getElem (by omega))⟩
    simp only [execOp, Sem.run_bind, Instr.extract, hv, Array.getElem?_eq_getElem (show k < us.size by omega), Sem.run_pure, Result.andThen_ok]
  ·cases h
 ·rename_i c
  obtain ⟨q, hq, hv⟩ := qcall_sound (P := P) hE dst ty pos after guard c h
  exact ⟨q, hq, hv⟩
 ·cases h
end
end Go.Pv

namespace Go.Pv
set_option linter.unusedVariables false
set_option linter.unusedSimpArgs false
def PV.solid : PV → Bool
 | .junk | .tup _ => false
 | _ => true
section
variable {P : Program} {w : World} {g : G} {s : St} {N : Nat} {e : Env} {a : Act}
theorem VR.cells {p : PV} {v : Value} (h : VR w g p v) (hs : p.solid = true) : v.cells.size = p.cells.length ∧ (∀ u ∈ v.cells.toList, Value.oneCell' u = true) ∧
  ∀ (j : Nat) (c : PV), p.cells[j]? = some c → ∃ u, v.cells[j]? = some u ∧ Value.oneCell' u = true ∧ VR w g c u := by
 have one : ∀ (p : PV) (v : Value), VR w g p v → p.cells = [p] → v.cells = #[v] → Value.oneCell' v = true → v.cells.size = p.cells.length ∧ (∀ u ∈ v.cells.toList, Value.oneCell' u = true) ∧
   ∀ (j : Nat) (c : PV), p.cells[j]? = some c → ∃ u, v.cells[j]? = some u ∧ Value.oneCell' u = true ∧ VR w g c u := by
  intro p v h h1 h2 h3
  rw [h1, h2]
  refine ⟨rfl, by simpa using h3, fun j c hj => ?_⟩
  cases j with
  | zero => cases hj; exact ⟨v, rfl, h3, h⟩
  | succ j => simp at hj
 cases h with
 | junk => cases hs
 | tup => cases hs
 | agg cs vs hl h1 h2 =>
  refine ⟨hl, fun u hu => ?_, fun j c hj => ?_⟩
  ·obtain ⟨i, hi⟩ := List.getElem?_of_mem hu
   exact h1 i u (by simpa [Value.cells] using hi)
  ·have hlt := (List.getElem?_eq_some_iff.1 hj).1
   have : j < vs.size := by rw [hl]; exact hlt
   exact ⟨vs[j], Array.getElem?_eq_getElem this, h1 j _ (Array.getElem?_eq_getElem this), h2 j c _ hj (Array.getElem?_eq_getElem this)⟩
 | lit v h => exact one _ _ (.lit v h) rfl (scal_cells h) (scal_one h)
 | vec k xs A cap sz f hc hk hn h0 hw hm h2 => exact one _ _ (.vec k xs A cap sz f hc hk hn h0 hw hm h2) rfl rfl rfl
 | sl i sz off len cap hi hc hz hb => exact one _ _ (.sl i sz off len cap hi hc hz hb) rfl rfl rfl
 | pt i j f hi => exact one _ _ (.pt i j f hi) rfl rfl rfl
 | ep cs a f hm h2 => exact one _ _ (.ep cs a f hm h2) rfl rfl rfl
 | fn f fs cs fv cv h1 h2 h3 h4 => exact one _ _ (.fn f fs cs fv cv h1 h2 h3 h4) rfl rfl rfl
 | mp i hi => exact one _ _ (.mp i hi) rfl rfl rfl
 | yld i hi => exact one _ _ (.yld i hi) rfl rfl rfl
def G.more (g : G) (m : Mu) : G := ⟨g.Z, fun k => if k = g.n then m else g.mu k, g.n + 1, fun k hk => by
 have h := g.gl k hk
 refine ⟨Nat.lt_succ_of_lt h.1, ?_⟩
 rw [if_neg (Nat.ne_of_lt h.1)]
 exact h.2⟩
def pushed (w : World) (o : Obj) : World := { w with heap := w.heap.push o }
theorem pushed_old (w : World) (o : Obj) {k : Nat} (h : k < w.heap.size) : (pushed w o).heap[k]? = w.heap[k]? := by
 show (w.heap.push o)[k]? = _
 rw [Array.getElem?_push, if_neg (by omega)]
theorem pushed_new (w : World) (o : Obj) : (pushed w o).heap[w.heap.size]? = some o := by
 show (w.heap.push o)[w.heap.size]? = _
 rw [Array.getElem?_push, if_pos rfl]
theorem pushed_size (w : World) (o : Obj) : (pushed w o).heap.size = w.heap.size + 1 := by
 show (w.heap.push o).size = _
 rw [Array.size_push]
theorem LEv.more (hH : Holds g s w) (m : Mu) (o : Obj) : LEv g w (g.more m) (pushed w o) :=
 ⟨Nat.le_succ _, fun i hi => by simp [G.more, Nat.ne_of_lt hi], fun _ h => h, fun k hk => pushed_old w o (hH.zlt k hk)⟩
theorem LE.more (hH : Holds g s w) (m : Mu) (o : Obj) : LE g w (g.more m) (pushed w o) := ⟨LEv.more hH m o, rfl, rfl, rfl, by rw [pushed_size]; omega⟩
theorem Holds.new (hH : Holds g s w) (arr : Array Value) (ty : TypeId) (sz : Nat) (els : List (List PV)) (hl : els.length * sz ≤ arr.size) (he : ∀ (j : Nat) (cs : List PV), els[j]? = some cs → cs.length = sz)
  (h : ∀ (j : Nat) (cs : List PV) (f : Nat) (c : PV), els[j]? = some cs → cs[f]? = some c → ∃ v, arr[j * sz + f]? = some v ∧ Value.oneCell' v = true ∧ VR w g c v) :
  Holds (g.more ⟨w.heap.size, arr.size, sz⟩) (s.upd g.n (some (.row ty sz els))) (pushed w (.cells arr ty (0, 0))) := by
 have hle := LEv.more hH ⟨w.heap.size, arr.size, sz⟩ (.cells arr ty (0, 0))
 have hmun : (g.more ⟨w.heap.size, arr.size, sz⟩).mu g.n = ⟨w.heap.size, arr.size, sz⟩ := by simp [G.more]
 have hmu : ∀ i, i < g.n → (g.more ⟨w.heap.size, arr.size, sz⟩).mu i = g.mu i := fun i hi => by simp [G.more, Nat.ne_of_lt hi]
 have hold : ∀ i, i ≠ g.n → (s.upd g.n (some (.row ty sz els))) i ≠ none → s i ≠ none := fun i hi hn => by rwa [St.upd_ne _ _ hi] at hn
 refine ⟨fun i hi => ?_, fun k hk => ?_, fun i b hb => ?_, fun i j hi hj hij => ?_, fun i bb hi hr => ?_⟩
 ·have : g.n + 1 ≤ i := hi
  rw [St.upd_ne _ _ (by omega)]
  exact hH.fresh i (by omega)
 ·have := hH.zlt k hk
  rw [pushed_size]; omega
 ·by_cases hin : i = g.n
  ·subst hin
   rw [St.upd_same] at hb
   cases hb
   refine .row ty sz els arr (by rw [hmun]) (by rw [hmun]; exact pushed_new _ _) (by rw [hmun]) hl he (fun j cs f c hj hf => ?_)
   obtain ⟨v, h1, h2, h3⟩ := h j cs f c hj hf
   exact ⟨v, h1, h2, h3.le hle⟩
  ·rw [St.upd_ne _ _ hin] at hb
   have hlt := hH.lt (i := i) (by rw [hb]; simp)
   exact (hH.blk i b hb).le hle hlt (pushed_old _ _ (hH.blk i b hb).lt)
 ·by_cases h1 : i = g.n
  ·by_cases h2 : j = g.n
   ·rw [h1, h2]
   ·have hj' := hold j h2 hj
    obtain ⟨b, hb⟩ := Option.ne_none_iff_exists'.1 hj'
    have := (hH.blk j b hb).lt
    rw [h1, hmun, hmu j (hH.lt hj')] at hij
    simp only at hij
    omega
  ·have hi' := hold i h1 hi
   by_cases h2 : j = g.n
   ·obtain ⟨b, hb⟩ := Option.ne_none_iff_exists'.1 hi'
    have := (hH.blk i b hb).lt
    rw [h2, hmun, hmu i (hH.lt hi')] at hij
    simp only at hij
    omega
   ·have hj' := hold j h2 hj
    rw [hmu i (hH.lt hi'), hmu j (hH.lt hj')] at hij
    exact hH.inj i j hi' hj' hij
 ·by_cases h1 : i = g.n
  ·rw [h1, hmun]
   intro hz
   have := hH.zlt _ hz
   simp only at this
   omega
  ·rw [St.upd_ne _ _ h1] at hi
   rw [hmu i (hH.lt (by rw [hi]; simp))]
   exact hH.apart i bb hi hr
theorem withCells_get (w : World) (k : Nat) (arr : Array Value) (ty : TypeId) (j : Nat) (h : j ≠ k) : (withCells w k arr ty).heap[j]? = w.heap[j]? := by
 simp [withCells, Array.getElem?_setIfInBounds, Ne.symm h]
theorem LE.write (hH : Holds g s w) {i : Nat} {b : Blk} (hi : s i = some b) (hr : b.isRo = false) (arr : Array Value) (ty : TypeId) : LE g w g (withCells w (g.mu i).blk arr ty) :=
 ⟨⟨Nat.le_refl _, fun _ _ => rfl, fun _ h => h, fun k hk => withCells_get _ _ _ _ _ (fun e => hH.apart i b hi hr (e ▸ hk))⟩, rfl, rfl, rfl, by simp [withCells]⟩
theorem Holds.write (hH : Holds g s w) {i : Nat} {ty : TypeId} {sz : Nat} {els els' : List (List PV)} (hi : s i = some (.row ty sz els)) (arr : Array Value) (hs : arr.size = (g.mu i).cap) (hl : els'.length * sz ≤ arr.size)
  (he : ∀ (j : Nat) (cs : List PV), els'[j]? = some cs → cs.length = sz)
  (h : ∀ (j : Nat) (cs : List PV) (f : Nat) (c : PV), els'[j]? = some cs → cs[f]? = some c → ∃ v, arr[j * sz + f]? = some v ∧ Value.oneCell' v = true ∧ VR w g c v) :
  Holds g (s.upd i (some (.row ty sz els'))) (withCells w (g.mu i).blk arr ty) := by
 have hne : s i ≠ none := by rw [hi]; simp
 have hle := (LE.write hH hi rfl arr ty).toLEv
 have hlt := hH.lt hne
 have hblt := (hH.blk i _ hi).lt
 have hold : ∀ k, (s.upd i (some (.row ty sz els'))) k ≠ none → s k ≠ none := fun k hk => by
  by_cases h1 : k = i
  ·rw [h1]; exact hne
  ·rwa [St.upd_ne _ _ h1] at hk
 have hole : ∀ k bb, (s.upd i (some (.row ty sz els'))) k = some bb → bb.isRo = false → ∃ b', s k = some b' ∧ b'.isRo = false := fun k bb hk hr => by
  by_cases h1 : k = i
  ·rw [h1]; exact ⟨_, hi, rfl⟩
  ·rw [St.upd_ne _ _ h1] at hk; exact ⟨bb, hk, hr⟩
 refine ⟨fun k hk => ?_, fun k hk => by simpa [withCells] using hH.zlt k hk, fun k b hb => ?_, fun k j hk hj => hH.inj k j (hold k hk) (hold j hj), fun k bb hk hr => (hole k bb hk hr).elim fun b' h => hH.apart k b' h.1 h.2⟩
 ·rw [St.upd_ne _ _ (by omega)]; exact hH.fresh k hk
 ·by_cases hki : k = i
  ·subst hki
   rw [St.upd_same] at hb
   cases hb
   obtain ⟨_, _, _, arr0, hz, hb, hs0, _, _, _⟩ := hH.blk k _ hi
   refine .row ty sz els' arr hz (by simp [withCells, hblt]) hs hl he (fun j cs f c hj hf => ?_)
   obtain ⟨v, h1, h2, h3⟩ := h j cs f c hj hf
   exact ⟨v, h1, h2, h3.le hle⟩
  ·rw [St.upd_ne _ _ hki] at hb
   have hk : s k ≠ none := by rw [hb]; simp
   refine (hH.blk k b hb).le hle (hH.lt hk) (withCells_get _ _ _ _ _ (fun e => hki (hH.inj k i hk hne e)))
def G.freeze (g : G) (k : Nat) : G := ⟨fun j => g.Z j ∨ j = k, g.mu, g.n, g.gl⟩
theorem LEv.freeze (k : Nat) : LEv g w (g.freeze k) w := ⟨Nat.le_refl _, fun _ _ => rfl, fun _ h => .inl h, fun _ _ => rfl⟩
theorem LE.freeze (k : Nat) : LE g w (g.freeze k) w := ⟨LEv.freeze k, rfl, rfl, rfl, Nat.le_refl _⟩
theorem Holds.freeze (hH : Holds g s w) {k : Nat} (hk : k < w.heap.size) (hs : ∀ i, s i ≠ none → (g.mu i).blk ≠ k) : Holds (g.freeze k) s w :=
 ⟨hH.fresh, fun j hj => by rcases hj with hj | rfl <;> first | exact hH.zlt _ hj | exact hk, fun i b hb => (hH.blk i b hb).le (LEv.freeze k) (hH.lt (by rw [hb]; simp)) rfl, hH.inj, fun i b hi hr hz => by
  rcases hz with hz | hz
  ·exact hH.apart i b hi hr hz
  ·exact hs i (by rw [hi]; simp) hz⟩
theorem Holds.pushed (hH : Holds g s w) (o : Obj) : Holds g s (pushed w o) ∧ LE g w g (Pv.pushed w o) := by
 have hle : LE g w g (Pv.pushed w o) := ⟨⟨Nat.le_refl _, fun _ _ => rfl, fun _ h => h, fun k hk => pushed_old w o (hH.zlt k hk)⟩, rfl, rfl, rfl, by rw [pushed_size]; omega⟩
 refine ⟨⟨hH.fresh, fun k hk => (by have := hH.zlt k hk; rw [pushed_size]; omega), fun i b hb => ?_, hH.inj, hH.apart⟩, hle⟩
 exact (hH.blk i b hb).le hle.toLEv (hH.lt (by rw [hb]; simp)) (pushed_old _ _ (hH.blk i b hb).lt)
theorem Holds.heap (hH : Holds g s w) {w' : World} (h : w'.heap = w.heap) : Holds g s w' := by
 have hle : LEv g w g w' := ⟨Nat.le_refl _, fun _ _ => rfl, fun _ h => h, fun k _ => by rw [h]⟩
 exact ⟨hH.fresh, fun k hk => by rw [h]; exact hH.zlt k hk, fun i b hb => (hH.blk i b hb).le hle (hH.lt (by rw [hb]; simp)) (by rw [h]), hH.inj, hH.apart⟩
def withObj (w : World) (k : Nat) (o : Obj) : World := { w with heap := w.heap.setIfInBounds k o }
theorem withObj_get (w : World) (k : Nat) (o : Obj) (j : Nat) (h : j ≠ k) : (withObj w k o).heap[j]? = w.heap[j]? := by
 simp [withObj, Array.getElem?_setIfInBounds, Ne.symm h]
theorem LE.writeO (hH : Holds g s w) {i : Nat} {b : Blk} (hi : s i = some b) (hr : b.isRo = false) (o : Obj) : LE g w g (withObj w (g.mu i).blk o) :=
 ⟨⟨Nat.le_refl _, fun _ _ => rfl, fun _ h => h, fun k hk => withObj_get _ _ _ _ (fun e => hH.apart i b hi hr (e ▸ hk))⟩, rfl, rfl, rfl, by simp [withObj]⟩
theorem Holds.writeO (hH : Holds g s w) {i : Nat} {b0 : Blk} (hi : s i = some b0) (hr : b0.isRo = false) (o : Obj) (b' : Blk) (hb' : BR (withObj w (g.mu i).blk o) g i b') : Holds g (s.upd i (some b')) (withObj w (g.mu i).blk o) := by
 have hne : s i ≠ none := by rw [hi]; simp
 have hle := (LE.writeO hH hi hr o).toLEv
 have hlt := hH.lt hne
 have hold : ∀ k, (s.upd i (some b')) k ≠ none → s k ≠ none := fun k hk => by
  by_cases h1 : k = i
  ·rw [h1]; exact hne
  ·rwa [St.upd_ne _ _ h1] at hk
 have hole : ∀ k bb, (s.upd i (some b')) k = some bb → bb.isRo = false → ∃ b', s k = some b' ∧ b'.isRo = false := fun k bb hk hr' => by
  by_cases h1 : k = i
  ·rw [h1]; exact ⟨b0, hi, hr⟩
  ·rw [St.upd_ne _ _ h1] at hk; exact ⟨bb, hk, hr'⟩
 refine ⟨fun k hk => ?_, fun k hk => by simpa [withObj] using hH.zlt k hk, fun k b hb => ?_, fun k j hk hj => hH.inj k j (hold k hk) (hold j hj), fun k bb hk hr => (hole k bb hk hr).elim fun b' h => hH.apart k b' h.1 h.2⟩
 ·rw [St.upd_ne _ _ (by omega)]; exact hH.fresh k hk
 ·by_cases hki : k = i
  ·subst hki
   rw [St.upd_same] at hb
   cases hb
   exact hb'
  ·rw [St.upd_ne _ _ hki] at hb
   have hk : s k ≠ none := by rw [hb]; simp
   exact (hH.blk k b hb).le hle (hH.lt hk) (withObj_get _ _ _ _ (fun e => hki (hH.inj k i hk hne e)))
theorem Holds.newO (hH : Holds g s w) (o : Obj) (c z : Nat) (b : Blk) (hb : BR (Pv.pushed w o) (g.more ⟨w.heap.size, c, z⟩) g.n b) : Holds (g.more ⟨w.heap.size, c, z⟩) (s.upd g.n (some b)) (Pv.pushed w o) := by
 have hle := LEv.more hH ⟨w.heap.size, c, z⟩ o
 have hmun : (g.more ⟨w.heap.size, c, z⟩).mu g.n = ⟨w.heap.size, c, z⟩ := by simp [G.more]
 have hmu : ∀ i, i < g.n → (g.more ⟨w.heap.size, c, z⟩).mu i = g.mu i := fun i hi => by simp [G.more, Nat.ne_of_lt hi]
 have hold : ∀ i, i ≠ g.n → (s.upd g.n (some b)) i ≠ none → s i ≠ none := fun i hi hn => by rwa [St.upd_ne _ _ hi] at hn
 refine ⟨fun i hi => ?_, fun k hk => ?_, fun i b' hb' => ?_, fun i j hi hj hij => ?_, fun i bb hi hr => ?_⟩
 ·have : g.n + 1 ≤ i := hi
  rw [St.upd_ne _ _ (by omega)]
  exact hH.fresh i (by omega)
 ·have := hH.zlt k hk
  rw [pushed_size]; omega
 ·by_cases hin : i = g.n
  ·subst hin
   rw [St.upd_same] at hb'
   cases hb'
   exact hb
  ·rw [St.upd_ne _ _ hin] at hb'
   have hlt := hH.lt (i := i) (by rw [hb']; simp)
   exact (hH.blk i b' hb').le hle hlt (pushed_old _ _ (hH.blk i b' hb').lt)
 ·by_cases h1 : i = g.n
  ·by_cases h2 : j = g.n
   ·rw [h1, h2]
   ·have hj' := hold j h2 hj
    obtain ⟨b', hb'⟩ := Option.ne_none_iff_exists'.1 hj'
    have := (hH.blk j b' hb').lt
    rw [h1, hmun, hmu j (hH.lt hj')] at hij
    simp only at hij
    omega
  ·have hi' := hold i h1 hi
   by_cases h2 : j = g.n
   ·obtain ⟨b', hb'⟩ := Option.ne_none_iff_exists'.1 hi'
    have := (hH.blk i b' hb').lt
    rw [h2, hmun, hmu i (hH.lt hi')] at hij
    simp only at hij
    omega
   ·have hj' := hold j h2 hj
    rw [hmu i (hH.lt hi'), hmu j (hH.lt hj')] at hij
    exact hH.inj i j hi' hj' hij
 ·by_cases h1 : i = g.n
  ·rw [h1, hmun]
   intro hz
   have := hH.zlt _ hz
   simp only at this
   omega
  ·rw [St.upd_ne _ _ h1] at hi
   rw [hmu i (hH.lt (by rw [hi]; simp))]
   exact hH.apart i bb hi hr
theorem makeMap_sound (hH : Holds g s w) (t : TypeId) : ∃ g' w', (Instr.makeMap t none).run P w = .ok (.map (some (g'.mu g.n).blk)) w' ∧ LE g w g' w' ∧ Holds g' (s.upd g.n (some (.dict []))) w' ∧ VR w' g' (.mp g.n) (.map (some (g'.mu g.n).blk)) := by
 refine ⟨g.more ⟨w.heap.size, 0, 0⟩, Pv.pushed w (.map #[] 0), ?_, LE.more hH _ _, hH.newO _ 0 0 _ (.dict [] #[] 0 ?_ rfl (fun j k p m hj => by simp at hj) (Go.MapKept.stamped_empty 0)), .mp _ (by simp [G.more])⟩
 ·have hmun : (g.more ⟨w.heap.size, 0, 0⟩).mu g.n = ⟨w.heap.size, 0, 0⟩ := by simp [G.more]
  rw [hmun]
  rfl
 ·have hmun : (g.more ⟨w.heap.size, 0, 0⟩).mu g.n = ⟨w.heap.size, 0, 0⟩ := by simp [G.more]
  rw [hmun]
  exact pushed_new _ _
theorem makeMapI_sound (hH : Holds g s w) (t : TypeId) (kd : IntKind) : ∃ g' w', (Instr.makeMap t none).run P w = .ok (.map (some (g'.mu g.n).blk)) w' ∧ LE g w g' w' ∧ Holds g' (s.upd g.n (some (.idict kd []))) w' ∧ VR w' g' (.mp g.n) (.map (some (g'.mu g.n).blk)) := by
 refine ⟨g.more ⟨w.heap.size, 0, 0⟩, Pv.pushed w (.map #[] 0), ?_, LE.more hH _ _, hH.newO _ 0 0 _ (.idict kd [] #[] 0 ?_ rfl (fun j k p m hj => by simp at hj)), .mp _ (by simp [G.more])⟩
 ·have hmun : (g.more ⟨w.heap.size, 0, 0⟩).mu g.n = ⟨w.heap.size, 0, 0⟩ := by simp [G.more]
  rw [hmun]
  rfl
 ·have hmun : (g.more ⟨w.heap.size, 0, 0⟩).mu g.n = ⟨w.heap.size, 0, 0⟩ := by simp [G.more]
  rw [hmun]
  exact pushed_new _ _
theorem dget_none {α : Type} [DecidableEq α] {b : α} : ∀ {es : List (α × PV)}, dget es b = none → ∀ x ∈ es, x.1 ≠ b
 | [], _, _, hx => by cases hx
 | (k, p) :: es, h, x, hx => by
  by_cases hb : b = k
  ·subst hb; simp [dget] at h
  ·have h' : dget es b = none := by simpa [dget, hb] using h
   rcases List.mem_cons.1 hx with rfl | hx
   ·exact fun e => hb e.symm
   ·exact dget_none h' x hx
theorem KeyF.inj {α : Type} [DecidableEq α] {f : α → Value} {U : TypeDesc} (hK : KeyF f U) {a b : α} (h : f a = f b) : a = b := by
 have h1 := hK.same a b
 rw [h, hK.same b b] at h1
 simpa using h1.symm
theorem mapUp {α : Type} [DecidableEq α] {f : α → Value} {U : TypeDesc} (hK : KeyF f U) (hH : Holds g s w) {t kt el : TypeId} {i : Nat} {bl : Blk} {es : List (α × PV)} {b : α} {p : PV} {v : Value} {ents : Array MapEntry} {clock : Nat} (hv : VR w g p v) (hu : P.underlying t = some (.map kt el)) (hkt : P.underlying kt = some U)
  (hs : s i = some bl) (hro : bl.isRo = false) (hb : w.heap[(g.mu i).blk]? = some (.map ents clock)) (hDR : DR f w g ents.toList es) (mk : List (α × PV) → Blk) (hmr : ∀ es, (mk es).isRo = false)
  (hmk : ∀ (w' : World) (es' : List (α × PV)) (ents' : Array MapEntry) (clock' : Nat), w'.heap[(g.mu i).blk]? = some (.map ents' clock') → ents'.size = es'.length → (∀ (j : Nat) (k : α) (p : PV) (m : MapEntry), es'[j]? = some (k, p) → ents'[j]? = some m → m.key = f k ∧ VR w' g p m.val) → (Go.MapKept.Stamped ents clock → Go.MapKept.Stamped ents' clock') → BR w' g i (mk es')) :
  ∃ w', (Instr.mapUpdate t (.map (some (g.mu i).blk)) (f b) v).run P w = .ok () w' ∧ LE g w g w' ∧ Holds g (s.upd i (some (mk (dset es b p)))) w' := by
 have hblt : (g.mu i).blk < w.heap.size := (hH.blk i _ hs).lt
 have hl : ents.size = es.length := by simpa using hDR.1
 have hd : ∀ (j : Nat) (k : α) (p : PV) (m : MapEntry), es[j]? = some (k, p) → ents[j]? = some m → m.key = f k ∧ VR w g p m.val := fun j k p m hj hm => hDR.2 j k p m hj (by simpa using hm)
 have hck : (Instr.checkKey false 10000 kt (f b)).run P w = .ok () w := hK.chk P w kt false 9999 b hkt
 have hset : ∀ o, (setObj (g.mu i).blk o).run P w = .ok () (withObj w (g.mu i).blk o) := fun o => by simp [setObj, Sem.run, hb, withObj]
 have hget : (getObj (g.mu i).blk).run P w = .ok (.map ents clock) w := by simp [getObj, Sem.run, hb]
 rcases find_rel hK b ents.toList es 0 hDR with ⟨h1, h2, h3⟩ | ⟨p', n, m, h1, h2, h3, h4, h5, h6⟩
 ·refine ⟨withObj w (g.mu i).blk (.map (ents.push { key := f b, val := v, born := clock }) (clock + 1)), ?_, LE.writeO hH hs hro _, ?_⟩
  ·simp [Instr.mapUpdate, run_underlying hu, hget, hck, findKey_run (w := w) hkt h2, hset]
  ·refine hH.writeO hs hro _ _ ?_
   rw [h3]
   refine hmk _ _ (ents.push { key := f b, val := v, born := clock }) (clock + 1) (by simp [withObj, hblt]) (by simp [hl]) (fun j k q mm hj hmm => ?_) (fun h => Go.MapKept.stamped_push h (fun x hx => ?_))
   ·have hle := (LE.writeO hH hs hro (.map (ents.push { key := f b, val := v, born := clock }) (clock + 1))).toLEv
    by_cases hjl : j < es.length
    ·rw [List.getElem?_append_left hjl] at hj
     rw [Array.getElem?_push, if_neg (by omega)] at hmm
     exact ⟨(hd j k q mm hj hmm).1, (hd j k q mm hj hmm).2.le hle⟩
    ·rw [List.getElem?_append_right (by omega)] at hj
     have hj0 : j - es.length = 0 := by
      have := (List.getElem?_eq_some_iff.1 hj).1
      simp at this; omega
     rw [hj0] at hj
     cases hj
     rw [Array.getElem?_push, if_pos (by omega)] at hmm
     cases hmm
     exact ⟨rfl, hv.le hle⟩
   ·obtain ⟨j, hj⟩ := List.getElem?_of_mem hx
    have hjl : j < es.length := by
     have := (List.getElem?_eq_some_iff.1 hj).1
     simp at this; omega
    obtain ⟨⟨k1, p1⟩, hej⟩ : ∃ q, es[j]? = some q := ⟨_, List.getElem?_eq_getElem hjl⟩
    rw [(hDR.2 j k1 p1 x hej hj).1]
    intro e
    exact dget_none h1 _ (List.mem_of_getElem? hej) (hK.inj e)
 ·have hn : ents[n]? = some m := by simpa using h2
  have hstay : (Instr.keyThatStays (((ents[n]?).map (·.key)).getD (f b)) (f b)).run P w = .ok (f b) w := by
   simp [hn, h5, Instr.keyThatStays, hK.bits]
  refine ⟨withObj w (g.mu i).blk (.map (ents.modify n fun e => { e with key := f b, val := v }) clock), ?_, LE.writeO hH hs hro _, ?_⟩
  ·have h3' : Instr.findNow U (f b) ents.toList 0 = some (some (n, m.val)) := by rw [h3]; simp
   simp [Instr.mapUpdate, run_underlying hu, hget, hck, findKey_run (w := w) hkt h3', hstay, hset]
  ·refine hH.writeO hs hro _ _ ?_
   rw [h6]
   refine hmk _ _ (ents.modify n fun e => { e with key := f b, val := v }) clock (by simp [withObj, hblt]) (by simp [hl]) (fun j k q mm hj hmm => ?_) (fun h => Go.MapKept.stamped_modify h _ _ (fun _ _ => rfl) (fun e' _ he' => ?_))
   ·have hle := (LE.writeO hH hs hro (.map (ents.modify n fun e => { e with key := f b, val := v }) clock)).toLEv
    rw [Array.getElem?_modify] at hmm
    by_cases hjn : n = j
    ·subst hjn
     rw [if_pos rfl, hn] at hmm
     have hnl : n < es.length := by
      have := (Array.getElem?_eq_some_iff.1 hn).1; omega
     rw [List.getElem?_set_self hnl] at hj
     cases hj
     cases hmm
     exact ⟨rfl, hv.le hle⟩
    ·rw [if_neg hjn] at hmm
     rw [List.getElem?_set_ne hjn] at hj
     exact ⟨(hd j k q mm hj hmm).1, (hd j k q mm hj hmm).2.le hle⟩
   ·rw [hn] at he'
    cases he'
    exact h5.symm
theorem mapUpdate_sound (hH : Holds g s w) {t : TypeId} {i : Nat} {es : List (ByteArray × PV)} {b : ByteArray} {p : PV} {u kv v : Value} (hm : VR w g (.mp i) u) (hk : VR w g (.lit (.string b)) kv) (hv : VR w g p v) (ht : (mapT P t).isSome = true) (hs : s i = some (.dict es)) :
  ∃ w', (Instr.mapUpdate t u kv v).run P w = .ok () w' ∧ LE g w g w' ∧ Holds g (s.upd i (some (.dict (dset es b p)))) w' := by
 obtain ⟨⟨kt, el⟩, ht⟩ := Option.isSome_iff_exists.1 ht
 obtain ⟨hu, hkt⟩ := mapT_run ht
 obtain ⟨rfl, _⟩ := hk.lit_inv
 cases hm with
 | mp _ hi =>
 cases hH.blk i _ hs with
 | dict _ ents clock hb hl hd hst =>
 exact mapUp key_s hH hv hu hkt hs rfl hb ⟨by simpa using hl, fun j k p m hj hm => hd j k p m hj (by simpa using hm)⟩ (fun es => .dict es) (fun _ => rfl) (fun w' es' ents' clock' h1 h2 h3 h4 => .dict es' ents' clock' h1 h2 h3 (h4 hst))
theorem mapUpdateI_sound (hH : Holds g s w) {t : TypeId} {i : Nat} {kd : IntKind} {es : List (Int × PV)} {b : Int} {p : PV} {u kv v : Value} {x : TypeId × TypeId} (hm : VR w g (.mp i) u) (hk : VR w g (.lit (.int kd b)) kv) (hv : VR w g p v) (ht : imapT P t = some (kd, x)) (hs : s i = some (.idict kd es)) :
  ∃ w', (Instr.mapUpdate t u kv v).run P w = .ok () w' ∧ LE g w g w' ∧ Holds g (s.upd i (some (.idict kd (dset es b p)))) w' := by
 obtain ⟨kt, el⟩ := x
 obtain ⟨hu, hkt⟩ := imapT_run ht
 obtain ⟨rfl, _⟩ := hk.lit_inv
 cases hm with
 | mp _ hi =>
 cases hH.blk i _ hs with
 | idict _ _ ents clock hb hl hd =>
 exact mapUp (key_i kd) hH hv hu hkt hs rfl hb ⟨by simpa using hl, fun j k p m hj hm => hd j k p m hj (by simpa using hm)⟩ (fun es => .idict kd es) (fun _ => rfl) (fun w' es' ents' clock' h1 h2 h3 _ => .idict kd es' ents' clock' h1 h2 h3)
end
end Go.Pv

namespace Go.Pv
set_option linter.unusedVariables false
set_option linter.unusedSimpArgs false
def spl (cs : List PV) (f : Nat) (ps : List PV) : List PV := cs.take f ++ ps ++ cs.drop (f + ps.length)
theorem spl_get {cs : List PV} {f : Nat} {ps : List PV} (h : f + ps.length ≤ cs.length) (k : Nat) : (spl cs f ps)[k]? = if f ≤ k ∧ k < f + ps.length then ps[k - f]? else cs[k]? := by
 unfold spl
 have ht : (cs.take f).length = f := by simp; omega
 by_cases h1 : k < f
 ·rw [if_neg (by omega), List.append_assoc, List.getElem?_append_left (by omega), List.getElem?_take, if_pos h1]
 ·by_cases h2 : k < f + ps.length
  ·rw [if_pos ⟨by omega, h2⟩, List.append_assoc, List.getElem?_append_right (by omega), ht, List.getElem?_append_left (by omega)]
  ·rw [if_neg (by omega), List.getElem?_append_right (by simp [ht]; omega), List.getElem?_drop]
   congr 1
   simp [ht]
   omega
theorem spl_length {cs : List PV} {f : Nat} {ps : List PV} (h : f + ps.length ≤ cs.length) : (spl cs f ps).length = cs.length := by
 unfold spl; simp; omega
section
variable {P : Program} {w : World} {g : G} {s : St} {N : Nat} {e : Env} {a : Act}
theorem mul_lt_of {j j' sz f f' : Nat} (h : j < j') (hf : f < sz) : j * sz + f < j' * sz + f' := by
 have : (j + 1) * sz ≤ j' * sz := Nat.mul_le_mul_right _ h
 rw [Nat.succ_mul] at this
 omega
theorem store_sound (hH : Holds g s w) {i j f : Nat} {u v : Value} {p : PV} (hu : VR w g (.pt i j f) u) (hv : VR w g p v) (hso : p.solid = true) {t : TypeId} {ty : TypeId} {sz : Nat} {els : List (List PV)} {cs : List PV}
  (hn : tsz P t = some p.width) (hs : s i = some (.row ty sz els)) (hj : els[j]? = some cs) (hf : f + p.width ≤ cs.length) :
  ∃ w', (Instr.storeAt t u v).run P w = .ok () w' ∧ LE g w g w' ∧ Holds g (s.upd i (some (.row ty sz (els.set j (spl cs f p.cells))))) w' := by
 obtain ⟨hi, rfl⟩ := hu.pt_inv
 obtain ⟨h1, h2, h3⟩ := hv.cells hso
 obtain ⟨_, _, _, arr, hz, hb, hsz, hl, he, h5⟩ := hH.blk i _ hs
 have hne : s i ≠ none := by rw [hs]; simp
 have hlen := he j cs hj
 have hjl := (List.getElem?_eq_some_iff.1 hj).1
 have hw : p.width = p.cells.length := rfl
 have hmul : j * sz + sz ≤ els.length * sz := by rw [← Nat.succ_mul]; exact Nat.mul_le_mul_right _ hjl
 have hrun := run_storeCells (P := P) (g.mu i).blk ty v.cells.toList w arr (j * sz + f) 0 hb (by simp; omega) h2
 refine ⟨withCells w (g.mu i).blk (spliceA arr (j * sz + f) v.cells.toList) ty, ?_, LE.write hH hs rfl _ _, Holds.write hH hs (spliceA arr (j * sz + f) v.cells.toList) (by rw [spliceA_size]; exact hsz) (by rw [spliceA_size]; simpa using hl) ?_ ?_⟩
 ·rw [hz]
  simp only [Instr.storeAt, Instr.sureAddr, storeVar, Sem.run_bind, Sem.run_pure, Result.andThen_ok, run_sizeOf hn, h1, hw, ne_eq, not_true_eq_false, if_false]
  exact hrun
 ·intro k cs' hk
  by_cases hkj : k = j
  ·subst hkj
   rw [List.getElem?_set_self hjl] at hk
   cases hk
   rw [spl_length (by omega)]; exact hlen
  ·rw [List.getElem?_set_ne (Ne.symm hkj)] at hk
   exact he k cs' hk
 ·intro k cs' f' c hk hc
  have hspl := spliceA_get v.cells.toList arr (j * sz + f) (by simp; omega)
  by_cases hkj : k = j
  ·subst hkj
   rw [List.getElem?_set_self hjl] at hk
   cases hk
   rw [spl_get (by omega)] at hc
   split at hc
   ·rename_i hff
    obtain ⟨u, hu, h1', hr⟩ := h3 _ c hc
    refine ⟨u, ?_, h1', hr⟩
    rw [hspl, if_pos (by simp; omega), Array.getElem?_toList, ← hu]
    congr 1
    omega
   ·rename_i hff
    obtain ⟨v', q1, q2, q3⟩ := h5 k cs f' c hj hc
    refine ⟨v', ?_, q2, q3⟩
    rw [hspl, if_neg (by simp; omega)]
    exact q1
  ·rw [List.getElem?_set_ne (Ne.symm hkj)] at hk
   obtain ⟨v', q1, q2, q3⟩ := h5 k cs' f' c hk hc
   refine ⟨v', ?_, q2, q3⟩
   have hf' : f' < sz := by rw [← he k cs' hk]; exact (List.getElem?_eq_some_iff.1 hc).1
   rw [hspl, if_neg ?_]
   ·exact q1
   ·simp only [Array.length_toList, h1]
    intro ⟨a1, a2⟩
    rcases Nat.lt_or_gt_of_ne hkj with h | h
    ·have := mul_lt_of (f' := f) h hf'
     omega
    ·have := mul_lt_of (f := f + p.cells.length - 1) (f' := f') h (sz := sz) (by omega)
     omega
theorem box_sound (hH : Holds g s w) {p : PV} {v : Value} (hv : VR w g p v) (hso : p.solid = true) (t : TypeId) :
  ∃ w' g', (newVar t v).run P w = .ok ⟨w.heap.size, 0, none⟩ w' ∧ LE g w g' w' ∧ Holds g' (s.upd g.n (some (.row t p.width [p.cells]))) w' ∧ VR w' g' (.pt g.n 0 0) (.pointer (some ⟨w.heap.size, 0, none⟩)) := by
 obtain ⟨h1, h2, h3⟩ := hv.cells hso
 have hw : p.width = p.cells.length := rfl
 refine ⟨_, _, rfl, LE.more hH ⟨w.heap.size, v.cells.size, p.width⟩ _, Holds.new hH v.cells t p.width [p.cells] (by simp; omega) ?_ ?_, ?_⟩
 ·intro j cs hj
  cases j with
  | zero => cases hj; rfl
  | succ j => simp at hj
 ·intro j cs f c hj hf
  cases j with
  | zero => cases hj; simp only [Nat.zero_mul, Nat.zero_add]; exact h3 f c hf
  | succ j => simp at hj
 ·have := VR.pt (w := pushed w (.cells v.cells t (0, 0))) (g := g.more ⟨w.heap.size, v.cells.size, p.width⟩) g.n 0 0 (by simp [G.more])
  have hmu : (g.more ⟨w.heap.size, v.cells.size, p.width⟩).mu g.n = ⟨w.heap.size, v.cells.size, p.width⟩ := by simp [G.more]
  rw [hmu] at this
  simp only [Nat.zero_mul, Nat.zero_add] at this
  exact this
def elemsOf (s : St) (n : Nat) : PV → Option (List (List PV))
 | .vec _ ys => if ys.all (fun y => y.width == n && y.solid) = true then some (ys.map PV.cells) else none
 | .sl i sz off len => match s i with
  | some (.row _ _ els) => if sz = n ∧ off + len ≤ els.length then some ((els.drop off).take len) else none
  | _ => none
 | .lit (.string b) => if n = 1 then some (b.toList.map fun c => [.lit (.int .u8 c.toNat)]) else none
 | _ => none
def grid (n len : Nat) (f : Nat → Nat → Value) : List Value := (List.range (len * n)).map fun k => f (k / n) (k % n)
theorem grid_length (n len : Nat) (f : Nat → Nat → Value) : (grid n len f).length = len * n := by simp [grid]
theorem grid_get {n len : Nat} {f : Nat → Nat → Value} {k : Nat} {u : Value} (h : (grid n len f)[k]? = some u) : k < len * n ∧ k / n < len ∧ k % n < n ∧ u = f (k / n) (k % n) := by
 have hk := (List.getElem?_eq_some_iff.1 h).1
 rw [grid_length] at hk
 have hn : 0 < n := by
  rcases Nat.eq_zero_or_pos n with h | h
  ·subst h; simp at hk
  ·exact h
 refine ⟨hk, (Nat.div_lt_iff_lt_mul hn).2 hk, Nat.mod_lt _ hn, ?_⟩
 unfold grid at h
 rw [List.getElem?_map, List.getElem?_range hk] at h
 cases h
 rfl
theorem grid_at {n len : Nat} {f : Nat → Nat → Value} {i j : Nat} (hi : i < len) (hj : j < n) : (grid n len f)[i * n + j]? = some (f i j) := by
 have hk : i * n + j < len * n := by
  have := Nat.mul_le_mul_right n (show i + 1 ≤ len from hi)
  rw [Nat.succ_mul] at this
  omega
 unfold grid
 rw [List.getElem?_map, List.getElem?_range hk]
 simp only [Option.map_some]
 have h1 : (i * n + j) / n = i := by rw [Nat.mul_comm, Nat.mul_add_div (by omega), Nat.div_eq_of_lt hj]; rfl
 have h2 : (i * n + j) % n = j := by rw [Nat.mul_comm, Nat.mul_add_mod, Nat.mod_eq_of_lt hj]
 rw [h1, h2]
theorem elemsOf_sound (hH : Holds g s w) {p : PV} {v : Value} (hv : VR w g p v) {n : Nat} {ys : List (List PV)} (h : elemsOf s n p = some ys) :
  (∀ y ∈ ys, y.length = n) ∧ (∀ w' : World, w'.heap = w.heap → (Builtin.lenOf v).run P w' = .ok ys.length w') ∧ ∃ vs : Array Value, (∀ w' : World, w'.heap = w.heap → (Builtin.firstCells n ys.length v).run P w' = .ok vs w') ∧ vs.size = ys.length * n ∧ (∀ u ∈ vs.toList, Value.oneCell' u = true) ∧
   ∀ (j : Nat) (cs : List PV) (f : Nat) (c : PV), ys[j]? = some cs → cs[f]? = some c → ∃ u, vs[j * n + f]? = some u ∧ Value.oneCell' u = true ∧ VR w g c u := by
 unfold elemsOf at h
 split at h
 ·rename_i k xs
  split at h
  ·rename_i hall
   cases h
   have hw : ∀ (i : Nat) (x : PV), xs[i]? = some x → x.width = n := fun i x hi => by
    rw [List.all_eq_true] at hall
    have := hall x (List.mem_of_getElem? hi)
    simp only [Bool.and_eq_true, beq_iff_eq] at this
    exact this.1
   cases hv with
   | vec _ _ A cap sz f hc hk hn h0 hs hm hr =>
    refine ⟨fun y hy => ?_, fun w' _ => by simp [Builtin.lenOf], ?_⟩
    ·obtain ⟨i, hi⟩ := List.getElem?_of_mem hy
     rw [List.getElem?_map] at hi
     cases hx : xs[i]? with
     | none => rw [hx] at hi; cases hi
     | some x => rw [hx] at hi; cases hi; exact hw i x hx
    ·have hcell : ∀ (k : Nat) (u : Value), (grid n xs.length f)[k]? = some u → ∃ x c, xs[k / n]? = some x ∧ x.cells[k % n]? = some c ∧ u = f (k / n) (k % n) ∧ (k / n) * n + k % n = k := by
      intro k u hk
      obtain ⟨h1, h2, h3, h4⟩ := grid_get hk
      have hx := List.getElem?_eq_getElem h2
      have hwx := hw _ _ hx
      have : k % n < (xs[k / n]).cells.length := by show _ < PV.width _; rw [hwx]; exact h3
      exact ⟨_, _, hx, List.getElem?_eq_getElem this, h4, by rw [Nat.mul_comm]; exact Nat.div_add_mod k n⟩
     refine ⟨(grid n xs.length f).toArray, ?_, by simp [grid_length], fun u hu => ?_, fun j cs f' c hj hf => ?_⟩
     ·intro w' hw'
      simp only [List.length_map]
      cases A with
      | none =>
       have : xs = [] := by
        have := h0 rfl
        exact List.eq_nil_of_length_eq_zero (by omega)
       subst this
       simp [Builtin.firstCells, grid]
      | some ad =>
       simp only [Builtin.firstCells]
       refine run_loadCells _ (fun k u hk => ?_) _ (by rw [grid_length])
       obtain ⟨x, c, hx, hc', hu, he⟩ := hcell k u hk
       obtain ⟨ad', ha, _, hcl, _⟩ := hm _ x _ c hx hc'
       cases ha
       have hsn : sz = n := by rw [← hs _ x hx]; exact hw _ x hx
       rw [hsn, he] at hcl
       rw [hu, World.cell?_of_block (w := w) (by rw [hw'])]
       exact hcl
     ·obtain ⟨k, hk⟩ := List.getElem?_of_mem hu
      obtain ⟨x, c, hx, hc', hu, he⟩ := hcell k u hk
      obtain ⟨ad', ha, _, hcl, h1⟩ := hm _ x _ c hx hc'
      rw [hu]; exact h1
     ·rw [List.getElem?_map] at hj
      cases hx : xs[j]? with
      | none => rw [hx] at hj; cases hj
      | some x =>
       rw [hx] at hj
       cases hj
       have hjl := (List.getElem?_eq_some_iff.1 hx).1
       have hfl : f' < n := by rw [← hw j x hx]; exact (List.getElem?_eq_some_iff.1 hf).1
       obtain ⟨ad', ha, _, hcl, h1⟩ := hm _ x _ c hx hf
       exact ⟨f j f', by rw [List.getElem?_toArray]; exact grid_at hjl hfl, h1, hr _ x _ c hx hf⟩
  ·cases h
 ·rename_i i sz off len
  split at h
  ·rename_i ty sz' els hs
   split at h
   ·rename_i hb
    obtain ⟨rfl, hb⟩ := hb
    cases h
    obtain ⟨_, _, _, arr, hz, hbk, hsz, hl, he, h5⟩ := hH.blk i _ hs
    cases hv with
    | sl _ _ _ _ cap hi hc hz' hbd =>
     have hsz' : sz' = sz := by rw [← hz, hz']
     subst hsz'
     have hlen : ((els.drop off).take len).length = len := by simp; omega
     have hget : ∀ (j : Nat) (cs : List PV), ((els.drop off).take len)[j]? = some cs → els[off + j]? = some cs ∧ j < len := by
      intro j cs hj
      rw [List.getElem?_take] at hj
      split at hj
      ·rw [List.getElem?_drop] at hj; exact ⟨hj, ‹_›⟩
      ·cases hj
     have hbig : (off + len) * sz' ≤ arr.size := Nat.le_trans (Nat.mul_le_mul_right _ hb) hl
     rw [Nat.add_mul] at hbig
     refine ⟨fun y hy => ?_, fun w' _ => by rw [hlen]; simp [Builtin.lenOf], ?_⟩
     ·obtain ⟨j, hj⟩ := List.getElem?_of_mem hy
      exact he _ y (hget j y hj).1
     ·have hvs : ∀ (k : Nat) (u : Value), ((arr.toList.drop (off * sz')).take (len * sz'))[k]? = some u → arr[off * sz' + k]? = some u ∧ k < len * sz' := by
       intro k u hk
       rw [List.getElem?_take] at hk
       split at hk
       ·rw [List.getElem?_drop, Array.getElem?_toList] at hk; exact ⟨hk, ‹_›⟩
       ·cases hk
      refine ⟨((arr.toList.drop (off * sz')).take (len * sz')).toArray, ?_, by rw [hlen]; simp; omega, fun u hu => ?_, fun j cs f c hj hf => ?_⟩
      ·intro w' hw'
       rw [hlen]
       simp only [Builtin.firstCells]
       refine run_loadCells _ (fun k u hk => ?_) _ (by simp; omega)
       rw [add_plain]
       simp only [World.cell?, hw', hbk]
       exact (hvs k u hk).1
      ·obtain ⟨k, hk⟩ := List.getElem?_of_mem hu
       obtain ⟨h1, h2⟩ := hvs k u hk
       have hn : 0 < sz' := by
        rcases Nat.eq_zero_or_pos sz' with h | h
        ·subst h; simp at h2
        ·exact h
       have hkl : k / sz' < len := (Nat.div_lt_iff_lt_mul hn).2 h2
       have hex : els[off + k / sz']? = some els[off + k / sz'] := List.getElem?_eq_getElem (by omega)
       have hln := he _ _ hex
       have hmod := Nat.mod_lt k hn
       obtain ⟨v, q1, q2, q3⟩ := h5 _ _ (k % sz') _ hex (List.getElem?_eq_getElem (by omega))
       have : (off + k / sz') * sz' + k % sz' = off * sz' + k := by
        rw [Nat.add_mul, Nat.add_assoc, Nat.mul_comm (k / sz'), Nat.div_add_mod]
       rw [this, h1] at q1
       cases q1
       exact q2
      ·obtain ⟨h1, h2⟩ := hget j cs hj
       obtain ⟨v, q1, q2, q3⟩ := h5 _ _ f c h1 hf
       refine ⟨v, ?_, q2, q3⟩
       have hfl : f < sz' := by rw [← he _ cs h1]; exact (List.getElem?_eq_some_iff.1 hf).1
       have hlt : j * sz' + f < len * sz' := by
        have := mul_lt_of (f' := 0) h2 hfl
        omega
       rw [List.getElem?_toArray, List.getElem?_take, if_pos hlt, List.getElem?_drop, Array.getElem?_toList, ← q1]
       congr 1
       rw [Nat.add_mul]; omega
   ·cases h
  ·cases h
 ·rename_i b
  split at h
  ·rename_i hn
   subst hn
   cases h
   obtain ⟨rfl, _⟩ := hv.lit_inv
   have hsz : b.toList.length = b.size := by rw [ByteArray.toList_eq]; rfl
   refine ⟨fun y hy => ?_, fun w' _ => by simp [Builtin.lenOf, hsz], ?_⟩
   ·obtain ⟨c, _, rfl⟩ := List.mem_map.1 hy; rfl
   ·have hx : b.extract 0 b.size = b := by
     apply ByteArray.ext
     simp
    refine ⟨b.data.map fun c => .int .u8 c.toNat, fun w' _ => by simp only [Builtin.firstCells, Sem.run_pure, List.length_map, hsz, hx], by simp [hsz], fun u hu => ?_, fun j cs f c hj hf => ?_⟩
    ·simp only [Array.toList_map, List.mem_map] at hu
     obtain ⟨c, _, rfl⟩ := hu
     rfl
    ·rw [List.getElem?_map, ByteArray.toList_eq] at hj
     cases hc : b.data.toList[j]? with
     | none => rw [hc] at hj; cases hj
     | some x =>
      rw [hc] at hj
      cases hj
      cases f with
      | succ f => simp at hf
      | zero =>
       cases hf
       rw [Array.getElem?_toList] at hc
       exact ⟨.int .u8 x.toNat, by rw [Array.getElem?_map, Nat.mul_one, Nat.add_zero, hc]; rfl, rfl, .lit _ rfl⟩
  ·cases h
 ·cases h
end
end Go.Pv

namespace Go.Pv
set_option linter.unusedVariables false
set_option linter.unusedSimpArgs false
theorem growBy_le (need : Nat) : ∀ (r c : Nat), c ≤ need + (need + 768) / 4 → Builtin.growBy need r c ≤ need + (need + 768) / 4
 | 0, c, h => h
 | r + 1, c, h => by
  unfold Builtin.growBy
  split
  ·exact h
  ·exact growBy_le need r _ (by omega)
theorem nextcap_le {need cap : Nat} (h : cap < need) : Builtin.nextslicecap need cap ≤ 2 * need + 1000 := by
 unfold Builtin.nextslicecap
 split
 ·omega
 ·split
  ·omega
  ·have := growBy_le need 4 cap (by omega)
   omega
theorem zeroCells_size (z : Array Value) (k : Nat) : (Builtin.zeroCells z k).size = k * z.size := by simp [Builtin.zeroCells]
section
variable {P : Program} {w : World} {g : G} {s : St} {N : Nat} {e : Env} {a : Act}
theorem run_append_moves {t t2 ty el : TypeId} {n b : Nat} {z : Value} {base : Option Addr} {len cap m : Nat} {y : Value} {old new : Array Value} (hel : sliceT P t = some el) (hn : tsz P el = some n) (hb : tby P el = some b) (hz : tzero P el = some z)
  (hb0 : b ≠ 0) (h2 : ((sliceT P t2).isSome || isStrT P t2) = true) (hy : ∀ w', w'.heap = w.heap → (Builtin.lenOf y).run P w' = .ok m w') (hnew : ∀ w', w'.heap = w.heap → (Builtin.firstCells n m y).run P w' = .ok new w')
  (hold : ∀ w', w'.heap = w.heap → (Builtin.firstCells n len (.slice base len cap)).run P w' = .ok old w') (hlt : cap < len + m) (hbd : (2 * (len + m) + 1000) * b ≤ 281474976710656) :
  ∃ c w0, (Builtin.append_ #[t, t2] ty #[.slice base len cap, y]).run P w = .ok (.slice (some ⟨w.heap.size, 0, none⟩) (len + m) c) (pushed w0 (.cells (old ++ new ++ Builtin.zeroCells z.cells (c - (len + m))) el (0, 0))) ∧ len + m ≤ c ∧ w0.heap = w.heap ∧ w0.os = w.os ∧ w0.tape = w.tape ∧ w0.output = w.output := by
 have hi : ∃ i, P.info? el = some i ∧ i.size = n ∧ i.bytes = b ∧ i.zero = some z := by
  unfold tsz at hn; unfold tby at hb; unfold tzero at hz
  cases hi : P.info? el with
  | none => rw [hi] at hn; cases hn
  | some i => rw [hi] at hn hb hz; cases hn; cases hb; exact ⟨i, rfl, rfl, rfl, hz⟩
 obtain ⟨i, hi, hi1, hi2, hi3⟩ := hi
 have hty : ∀ w, (typeInfo el).run P w = .ok i w := fun w => by simp [typeInfo, hi]
 let w0 : World := w.drew
 let c := (Question.appendCap (len + m) cap el).cut (w.tape w.drawn (.appendCap (len + m) cap el))
 have hneed : ¬ ((len + m : Nat) : Int) > IntKind.i64.max := by
  have hm : IntKind.i64.max = 9223372036854775807 := by decide
  rw [hm]
  have : len + m ≤ (2 * (len + m) + 1000) * b := Nat.le_trans (by omega) (Nat.le_mul_of_pos_right _ (by omega))
  omega
 have hcap : ¬ Builtin.nextslicecap (len + m) cap * i.bytes > 2 ^ 48 := by
  have := Nat.mul_le_mul_right b (nextcap_le hlt)
  rw [hi2]
  have h48 : (2 : Nat) ^ 48 = 281474976710656 := by decide
  rw [h48]
  omega
 have hnl : ¬ (len + m ≤ cap) := by omega
 refine ⟨c, w0, ?_, ?_, rfl, rfl, rfl, rfl⟩
 ·have e1 := hy w rfl
  have e2 := hnew w.drew rfl
  have e3 := hold w.drew rfl
  have hnl' : ¬ (len + m ≤ cap) := hnl
  have hneed2 : ¬ (9223372036854775807 : Int) < (len : Int) + m := by
   have : len + m ≤ (2 * (len + m) + 1000) * b := Nat.le_trans (by omega) (Nat.le_mul_of_pos_right _ (by omega))
   omega
  have hcap2 : ¬ 281474976710656 < Builtin.nextslicecap (len + m) cap * i.bytes := by simpa using hcap
  rw [Bool.or_eq_true] at h2
  rcases h2 with h2 | h2
  ·obtain ⟨el2, he2⟩ := Option.isSome_iff_exists.1 h2
   simp only [Builtin.append_, List.getElem?_toArray]
   simp [sliceT_run hel, sliceT_run he2, run_sizeOf hn, e1, hnl', hty, hneed2, hcap2, e2, e3, run_zeroValue hz, Question.forced, newRow]
   exact ⟨rfl, by simp only [pushed, Array.append_assoc]; rfl⟩
  ·simp only [Builtin.append_, List.getElem?_toArray]
   simp [sliceT_run hel, isStrT_run h2, run_sizeOf hn, e1, hnl', hty, hneed2, hcap2, e2, e3, run_zeroValue hz, Question.forced, newRow]
   exact ⟨rfl, by simp only [pushed, Array.append_assoc]; rfl⟩
 ·show len + m ≤ len + m + _ % _
  omega
theorem run_append_room {t t2 ty el : TypeId} {n : Nat} {base : Option Addr} {len cap m : Nat} {y : Value} {new : Array Value} {w' : World} (hel : sliceT P t = some el) (hn : tsz P el = some n)
  (h2 : ((sliceT P t2).isSome || isStrT P t2) = true) (hy : (Builtin.lenOf y).run P w = .ok m w) (hnew : (Builtin.firstCells n m y).run P w = .ok new w) (hroom : len + m ≤ cap)
  (hst : ∀ a, base = some a → (storeCells (a.add (len * n)) new.toList).run P w = .ok () w') (hno : base = none → w' = w) :
  (Builtin.append_ #[t, t2] ty #[.slice base len cap, y]).run P w = .ok (.slice base (len + m) cap) w' := by
 rw [Bool.or_eq_true] at h2
 rcases h2 with h2 | h2
 ·obtain ⟨el2, he2⟩ := Option.isSome_iff_exists.1 h2
  cases base with
  | none => simp only [Builtin.append_, List.getElem?_toArray]; simp [sliceT_run hel, sliceT_run he2, run_sizeOf hn, hy, hroom, hnew, hno rfl]
  | some a => simp only [Builtin.append_, List.getElem?_toArray]; simp [sliceT_run hel, sliceT_run he2, run_sizeOf hn, hy, hroom, hnew, hst a rfl]
 ·cases base with
  | none => simp only [Builtin.append_, List.getElem?_toArray]; simp [sliceT_run hel, isStrT_run h2, run_sizeOf hn, hy, hroom, hnew, hno rfl]
  | some a => simp only [Builtin.append_, List.getElem?_toArray]; simp [sliceT_run hel, isStrT_run h2, run_sizeOf hn, hy, hroom, hnew, hst a rfl]
def PV.isSlice : PV → Bool
 | .vec _ _ | .sl _ _ _ _ => true
 | _ => false
def okv {α : Type} (x : Option α) (K : α → Prop) : Prop := match x with
 | some v => K v
 | none => False
theorem okv_ex {α : Type} {x : Option α} {K : α → Prop} (h : okv x K) : ∃ v, x = some v ∧ K v := by
 cases x with
 | none => exact h.elim
 | some v => exact ⟨v, rfl, h⟩
theorem ex_okv {α : Type} {x : Option α} {K : α → Prop} {v : α} (h : x = some v) (hK : K v) : okv x K := by rw [h]; exact hK
def appW (P : Program) (s : St) (t t2 : TypeId) (x y : PV) (K : PV → St → Prop) : Prop :=
 okv (sliceT P t) fun el => okv (tsz P el) fun n => okv (tby P el) fun b => okv (tzero P el) fun z => okv (elemsOf s n y) fun ys => z.cells.size = n ∧ b ≠ 0 ∧ ((sliceT P t2).isSome || isStrT P t2) = true ∧ (ys = [] → x.isSlice = true ∧ K x s) ∧ (ys ≠ [] →
  match x with
  | .vec k xs => okv (elemsOf s n (.vec k xs)) fun xe => k ≠ .any ∧ (2 * (xs.length + ys.length) + 1000) * b ≤ 281474976710656 ∧ ∀ i, s i = none → K (.sl i n 0 (xs.length + ys.length)) (s.upd i (some (.row el n (xe ++ ys))))
  | .sl i sz off len => (match s i with
   | some (.row el' n' els) => el' = el ∧ n' = n ∧ off = 0 ∧ els.length = len ∧ sz = n ∧ (2 * (len + ys.length) + 1000) * b ≤ 281474976710656 ∧ ∀ j, s j = none → K (.sl j n 0 (len + ys.length)) ((s.upd i none).upd j (some (.row el n (els ++ ys))))
   | _ => False)
  | _ => False)
def appW0 (P : Program) (s : St) (t t2 : TypeId) (x y : PV) (K : PV → St → Prop) : Prop :=
 ∃ el n b z, sliceT P t = some el ∧ tsz P el = some n ∧ tby P el = some b ∧ tzero P el = some z ∧ z.cells.size = n ∧ b ≠ 0 ∧ ((sliceT P t2).isSome || isStrT P t2) = true ∧ ∃ ys, elemsOf s n y = some ys ∧ (ys = [] → x.isSlice = true ∧ K x s) ∧ (ys ≠ [] →
  match x with
  | .vec k xs => ∃ xe, elemsOf s n (.vec k xs) = some xe ∧ k ≠ .any ∧ (2 * (xs.length + ys.length) + 1000) * b ≤ 281474976710656 ∧ ∀ i, s i = none → K (.sl i n 0 (xs.length + ys.length)) (s.upd i (some (.row el n (xe ++ ys))))
  | .sl i sz off len => ∃ els, s i = some (.row el n els) ∧ off = 0 ∧ els.length = len ∧ sz = n ∧ (2 * (len + ys.length) + 1000) * b ≤ 281474976710656 ∧ ∀ j, s j = none → K (.sl j n 0 (len + ys.length)) ((s.upd i none).upd j (some (.row el n (els ++ ys))))
  | _ => False)
theorem appW_iff {P : Program} {s : St} {t t2 : TypeId} {x y : PV} {K : PV → St → Prop} : appW P s t t2 x y K ↔ appW0 P s t t2 x y K := by
 constructor
 ·intro h
  obtain ⟨el, h1, h⟩ := okv_ex h
  obtain ⟨n, h2, h⟩ := okv_ex h
  obtain ⟨b, h3, h⟩ := okv_ex h
  obtain ⟨z, h4, h⟩ := okv_ex h
  obtain ⟨ys, h5, h6, h7, h8, h9, h⟩ := okv_ex h
  refine ⟨el, n, b, z, h1, h2, h3, h4, h6, h7, h8, ys, h5, h9, fun hy => ?_⟩
  have q := h hy
  cases x with
  | vec k xs => obtain ⟨xe, q1, q2⟩ := okv_ex q; exact ⟨xe, q1, q2⟩
  | sl i sz off len =>
   simp only at q ⊢
   split at q
   ·rename_i el' n' els hs
    obtain ⟨rfl, rfl, q⟩ := q
    exact ⟨els, hs, q⟩
   ·exact q.elim
  | _ => exact q.elim
 ·rintro ⟨el, n, b, z, h1, h2, h3, h4, h6, h7, h8, ys, h5, h9, h⟩
  refine ex_okv h1 (ex_okv h2 (ex_okv h3 (ex_okv h4 (ex_okv h5 ⟨h6, h7, h8, h9, fun hy => ?_⟩))))
  have q := h hy
  cases x with
  | vec k xs => obtain ⟨xe, q1, q2⟩ := q; exact ex_okv q1 q2
  | sl i sz off len =>
   obtain ⟨els, q1, q⟩ := q
   simp only [q1]
   exact ⟨trivial, trivial, q⟩
  | _ => exact q.elim
theorem Holds.rename (hH : Holds g s w) {i : Nat} {b : Blk} (hi : s i = some b) : LE g w (g.more (g.mu i)) w ∧ Holds (g.more (g.mu i)) ((s.upd i none).upd g.n (some b)) w := by
 have hne : s i ≠ none := by rw [hi]; simp
 have hin := hH.lt hne
 have hle : LEv g w (g.more (g.mu i)) w := ⟨Nat.le_succ _, fun j hj => by simp [G.more, Nat.ne_of_lt hj], fun _ h => h, fun _ _ => rfl⟩
 have hmu : ∀ j, j < g.n → (g.more (g.mu i)).mu j = g.mu j := fun j hj => by simp [G.more, Nat.ne_of_lt hj]
 have hmun : (g.more (g.mu i)).mu g.n = g.mu i := by simp [G.more]
 have hold : ∀ j, j ≠ g.n → ((s.upd i none).upd g.n (some b)) j ≠ none → s j ≠ none ∧ j ≠ i := fun j hj hn => by
  rw [St.upd_ne _ _ hj] at hn
  by_cases hji : j = i
  ·subst hji; simp at hn
  ·rw [St.upd_ne _ _ hji] at hn; exact ⟨hn, hji⟩
 refine ⟨⟨hle, rfl, rfl, rfl, Nat.le_refl _⟩, ⟨fun j hj => ?_, hH.zlt, fun j c hc => ?_, fun j k hj hk hjk => ?_, fun j bb hj hr => ?_⟩⟩
 ·have : g.n + 1 ≤ j := hj
  rw [St.upd_ne _ _ (by omega), St.upd_ne _ _ (by omega)]
  exact hH.fresh j (by omega)
 ·by_cases hjn : j = g.n
  ·subst hjn
   rw [St.upd_same] at hc
   cases hc
   cases hH.blk i _ hi with
   | row ty sz els arr hz h1 h2 h3 h4 h5 =>
    exact .row ty sz els arr (by rw [hmun]; exact hz) (by rw [hmun]; exact h1) (by rw [hmun]; exact h2) h3 h4 (fun j cs f c hj hf => by
     obtain ⟨v, q1, q2, q3⟩ := h5 j cs f c hj hf
     exact ⟨v, q1, q2, q3.le hle⟩)
   | dict es ents clock h1 h2 h3 h4 => exact .dict es ents clock (by rw [hmun]; exact h1) h2 (fun j k p m hj hm => ⟨(h3 j k p m hj hm).1, (h3 j k p m hj hm).2.le hle⟩) h4
   | idict kd es ents clock h1 h2 h3 => exact .idict kd es ents clock (by rw [hmun]; exact h1) h2 (fun j k p m hj hm => ⟨(h3 j k p m hj hm).1, (h3 j k p m hj hm).2.le hle⟩)
   | loop L rec h1 h2 h3 h4 h5 h6 h7 h8 => exact .loop L rec (by rw [hmun]; exact h1) h2 h3 h4 h5 h6 h7 (fun t => (h8 t).le hle)
   | ro cs arr ty fr hz h1 h0 h2 => exact .ro cs arr ty fr (by rw [hmun]; exact hz) (by rw [hmun]; exact h1) h0 (fun f c hf => by
     obtain ⟨v, q1, q2, q3⟩ := h2 f c hf
     exact ⟨v, by rw [hmun]; exact q1, q2, q3.le hle⟩)
  ·obtain ⟨h1, h2⟩ := hold j hjn (by rw [hc]; simp)
   rw [St.upd_ne _ _ hjn, St.upd_ne _ _ h2] at hc
   exact (hH.blk j c hc).le hle (hH.lt h1) rfl
 ·by_cases h1 : j = g.n
  ·by_cases h2 : k = g.n
   ·rw [h1, h2]
   ·obtain ⟨q1, q2⟩ := hold k h2 hk
    rw [h1, hmun, hmu k (hH.lt q1)] at hjk
    exact absurd (hH.inj i k hne q1 hjk).symm q2
  ·obtain ⟨p1, p2⟩ := hold j h1 hj
   by_cases h2 : k = g.n
   ·rw [h2, hmun, hmu j (hH.lt p1)] at hjk
    exact absurd (hH.inj j i p1 hne hjk) p2
   ·obtain ⟨q1, q2⟩ := hold k h2 hk
    rw [hmu j (hH.lt p1), hmu k (hH.lt q1)] at hjk
    exact hH.inj j k p1 q1 hjk
 ·by_cases h1 : j = g.n
  ·rw [h1, hmun]
   rw [h1, St.upd_same] at hj
   cases hj
   exact hH.apart i _ hi hr
  ·obtain ⟨p1, p2⟩ := hold j h1 (by rw [hj]; simp)
   rw [St.upd_ne _ _ h1, St.upd_ne _ _ p2] at hj
   rw [hmu j (hH.lt p1)]; exact hH.apart j _ hj hr
theorem LEv.same {w' : World} (h : w'.heap = w.heap) : LEv g w g w' := ⟨Nat.le_refl _, fun _ _ => rfl, fun _ h => h, fun k _ => by rw [h]⟩
theorem grown_rows {n : Nat} {xe ys : List (List PV)} {old new rest : Array Value} (hx : ∀ y ∈ xe, y.length = n) (hy : ∀ y ∈ ys, y.length = n) (ho : old.size = xe.length * n) (hnw : new.size = ys.length * n)
  (h1 : ∀ (j : Nat) (cs : List PV) (f : Nat) (c : PV), xe[j]? = some cs → cs[f]? = some c → ∃ u, old[j * n + f]? = some u ∧ Value.oneCell' u = true ∧ VR w g c u)
  (h2 : ∀ (j : Nat) (cs : List PV) (f : Nat) (c : PV), ys[j]? = some cs → cs[f]? = some c → ∃ u, new[j * n + f]? = some u ∧ Value.oneCell' u = true ∧ VR w g c u) :
  (∀ (j : Nat) (cs : List PV), (xe ++ ys)[j]? = some cs → cs.length = n) ∧ ∀ (j : Nat) (cs : List PV) (f : Nat) (c : PV), (xe ++ ys)[j]? = some cs → cs[f]? = some c → ∃ u, (old ++ new ++ rest)[j * n + f]? = some u ∧ Value.oneCell' u = true ∧ VR w g c u := by
 refine ⟨fun j cs hj => ?_, fun j cs f c hj hf => ?_⟩
 ·rcases List.mem_append.1 (List.mem_of_getElem? hj) with h | h
  ·exact hx _ h
  ·exact hy _ h
 ·by_cases hjl : j < xe.length
  ·rw [List.getElem?_append_left hjl] at hj
   obtain ⟨u, q1, q2, q3⟩ := h1 j cs f c hj hf
   have := (Array.getElem?_eq_some_iff.1 q1).1
   exact ⟨u, by rw [Array.append_assoc, Array.getElem?_append_left this]; exact q1, q2, q3⟩
  ·rw [List.getElem?_append_right (by omega)] at hj
   obtain ⟨u, q1, q2, q3⟩ := h2 _ cs f c hj hf
   have := (Array.getElem?_eq_some_iff.1 q1).1
   refine ⟨u, ?_, q2, q3⟩
   have e1 : j * n + f = old.size + ((j - xe.length) * n + f) := by
    rw [ho, Nat.sub_mul]
    have := Nat.mul_le_mul_right n (show xe.length ≤ j by omega)
    omega
   rw [Array.append_assoc, Array.getElem?_append_right (by omega), Array.getElem?_append_left (by omega), ← q1]
   congr 1
   omega
end
end Go.Pv

namespace Go.Pv
set_option linter.unusedVariables false
set_option linter.unusedSimpArgs false
section
variable {P : Program} {w : World} {g : G} {s : St} {N : Nat} {e : Env} {a : Act}
theorem append_sound (hH : Holds g s w) {t t2 ty : TypeId} {x y : PV} {u v : Value} (hx : VR w g x u) (hy : VR w g y v) {K : PV → St → Prop} (h : appW P s t t2 x y K) :
  ∃ q r s' g' w', (Builtin.append_ #[t, t2] ty #[u, v]).run P w = .ok q w' ∧ LE g w g' w' ∧ Holds g' s' w' ∧ VR w' g' r q ∧ K r s' := by
 obtain ⟨el, n, b, z, hel, hn, hb, hz, hzn, hb0, h2, ys, hys, hnil, hcons⟩ := appW_iff.1 h
 obtain ⟨y1, y2, new, y3, y4, y5, y6⟩ := elemsOf_sound (P := P) hH hy hys
 by_cases hy0 : ys = []
 ·subst hy0
  obtain ⟨his, hK⟩ := hnil rfl
  have hn0 : new = #[] := Array.eq_empty_of_size_eq_zero (by simpa using y4)
  subst hn0
  have hrun : ∀ base len cap, u = .slice base len cap → len ≤ cap → (Builtin.append_ #[t, t2] ty #[u, v]).run P w = .ok u w := by
   rintro base len cap rfl hc
   exact run_append_room (m := 0) (w' := w) hel hn h2 (y2 w rfl) (y3 w rfl) (by omega) (fun a _ => rfl) (fun _ => rfl)
  have hsl : ∃ base len cap, u = .slice base len cap ∧ len ≤ cap := by
   cases hx with
   | vec k xs A cap sz f hc => exact ⟨_, _, _, rfl, hc⟩
   | sl i sz off len cap hi hc => exact ⟨_, _, _, rfl, hc⟩
   | _ => cases his
  obtain ⟨base, len, cap, hu, hc⟩ := hsl
  exact ⟨u, x, s, g, w, hrun base len cap hu hc, .refl _ _, hH, hx, hK⟩
 ·have hK := hcons hy0
  have hpos : 0 < ys.length := List.length_pos_iff.2 hy0
  cases hx with
  | vec k xs A cap sz f hc hk hnn h0 hs hm hr =>
   obtain ⟨xe, hxe, hka, hbd, hK⟩ := hK
   have hxv : VR w g (.vec k xs) (.slice A xs.length cap) := .vec k xs A cap sz f hc hk hnn h0 hs hm hr
   have hcap := hk hka
   obtain ⟨x1, x2, old, x3, x4, x5, x6⟩ := elemsOf_sound (P := P) hH hxv hxe
   have hxl : xe.length = xs.length := by
    unfold elemsOf at hxe
    split at hxe
    ·split at hxe
     ·cases hxe; simp_all
     ·cases hxe
    all_goals simp_all
   obtain ⟨c, w0, hrun, hle, hw0, ho, ht, hou⟩ := run_append_moves (P := P) (ty := ty) (base := A) (len := xs.length) (cap := cap) (m := ys.length) (y := v) (old := old) (new := new) hel hn hb hz hb0 h2 y2 y3 (by rw [hxl] at x3; exact x3) (by omega) hbd
   have hH0 := hH.heap hw0
   obtain ⟨r1, r2⟩ := grown_rows (rest := Builtin.zeroCells z.cells (c - (xs.length + ys.length))) (w := w) (g := g) x1 y1 x4 y4 x6 y6
   have hsz : (old ++ new ++ Builtin.zeroCells z.cells (c - (xs.length + ys.length))).size = c * n := by
    simp only [Array.size_append, x4, y4, zeroCells_size, hzn, hxl, ← Nat.add_mul]
    congr 1
    omega
   have hnew := Holds.new hH0 (old ++ new ++ Builtin.zeroCells z.cells (c - (xs.length + ys.length))) el n (xe ++ ys) (by rw [hsz, List.length_append, hxl]; exact Nat.mul_le_mul_right _ hle) r1 (fun j cs f c hj hf => by
    obtain ⟨q, q1, q2, q3⟩ := r2 j cs f c hj hf
    exact ⟨q, q1, q2, q3.le (LEv.same hw0)⟩)
   have hw0s : w0.heap.size = w.heap.size := by rw [hw0]
   refine ⟨_, _, _, _, _, hrun, ?_, hnew, ?_, hK g.n (hH.fresh _ (Nat.le_refl _))⟩
   ·refine LE.trans (g2 := g) (w2 := w0) ⟨LEv.same hw0, ho, ht, hou, by rw [hw0]; exact Nat.le_refl _⟩ ?_
    exact LE.more hH0 _ _
   ·have := VR.sl (w := pushed w0 (.cells (old ++ new ++ Builtin.zeroCells z.cells (c - (xs.length + ys.length))) el (0, 0))) (g := g.more ⟨w0.heap.size, (old ++ new ++ Builtin.zeroCells z.cells (c - (xs.length + ys.length))).size, n⟩) g.n n 0 (xs.length + ys.length) c (by simp [G.more]) hle (by simp [G.more]) (by simp only [G.more, if_true]; rw [hsz, Nat.zero_add]; exact Nat.le_refl _)
    have hmu : (g.more ⟨w0.heap.size, (old ++ new ++ Builtin.zeroCells z.cells (c - (xs.length + ys.length))).size, n⟩).mu g.n = ⟨w0.heap.size, (old ++ new ++ Builtin.zeroCells z.cells (c - (xs.length + ys.length))).size, n⟩ := by simp [G.more]
    rw [hmu] at this
    simp only [Nat.zero_mul, hw0s] at this
    rw [hw0s]
    exact this
  | sl i sz off len cap hi hc hz' hbk =>
   obtain ⟨els, hs, rfl, hel', rfl, hbd, hK⟩ := hK
   obtain ⟨_, _, _, arr, hz2, hblk, hasz, hl, he, h5⟩ := hH.blk i _ hs
   have hne : s i ≠ none := by rw [hs]; simp
   have hxv : VR w g (.sl i sz 0 len) (.slice (some ⟨(g.mu i).blk, 0 * sz, none⟩) len cap) := .sl i sz 0 len cap hi hc hz' hbk
   rw [Nat.zero_add] at hbk
   by_cases hroom : len + ys.length ≤ cap
   ·-- in place
    have hfit : len * sz + new.size ≤ arr.size := by
     rw [y4, ← Nat.add_mul, hasz]
     exact Nat.le_trans (Nat.mul_le_mul_right _ hroom) hbk
    have hst := run_storeCells (P := P) (g.mu i).blk el new.toList w arr (len * sz) 0 hblk (by simpa using hfit) y5
    have hrun := run_append_room (ty := ty) (base := some ⟨(g.mu i).blk, 0 * sz, none⟩) (len := len) (cap := cap) (m := ys.length) hel hn h2 (y2 w rfl) (y3 w rfl) hroom (w' := withCells w (g.mu i).blk (spliceA arr (len * sz) new.toList) el) (fun a ha => by
     cases ha
     rw [add_plain, Nat.zero_mul, Nat.zero_add]
     exact hst) (fun h => by cases h)
    have hget := spliceA_get new.toList arr (len * sz) (by simpa using hfit)
    have hW := Holds.write (els' := els ++ ys) hH hs (spliceA arr (len * sz) new.toList) (by rw [spliceA_size]; exact hasz) (by rw [spliceA_size, List.length_append, hel', hasz]; exact Nat.le_trans (Nat.mul_le_mul_right _ hroom) hbk) (fun j cs hj => by
     rcases List.mem_append.1 (List.mem_of_getElem? hj) with h | h
     ·obtain ⟨k, hk⟩ := List.getElem?_of_mem h
      exact he k cs hk
     ·exact y1 _ h) (fun j cs f c hj hf => by
     by_cases hjl : j < els.length
     ·rw [List.getElem?_append_left hjl] at hj
      obtain ⟨q, q1, q2, q3⟩ := h5 j cs f c hj hf
      have hfl : f < sz := by rw [← he j cs hj]; exact (List.getElem?_eq_some_iff.1 hf).1
      have := mul_lt_of (f' := 0) (show j < len by omega) hfl
      exact ⟨q, by rw [hget, if_neg (by omega)]; exact q1, q2, q3⟩
     ·rw [List.getElem?_append_right (by omega)] at hj
      obtain ⟨q, q1, q2, q3⟩ := y6 _ cs f c hj hf
      have hlt := (Array.getElem?_eq_some_iff.1 q1).1
      have e1 : j * sz + f = len * sz + ((j - els.length) * sz + f) := by
       rw [hel', Nat.sub_mul]
       have := Nat.mul_le_mul_right sz (show len ≤ j by omega)
       omega
      refine ⟨q, ?_, q2, q3⟩
      rw [hget, e1, if_pos (by simp; omega), Array.getElem?_toList, ← q1]
      congr 1
      omega)
    obtain ⟨hle2, hR⟩ := hW.rename (i := i) (by rw [St.upd_same])
    have hle1 := LE.write hH hs rfl (spliceA arr (len * sz) new.toList) el
    refine ⟨_, .sl g.n sz 0 (len + ys.length), _, _, _, hrun, hle1.trans hle2, hR, ?_, ?_⟩
    ·have hmu : (g.more (g.mu i)).mu g.n = g.mu i := by simp [G.more]
     have := VR.sl (w := withCells w (g.mu i).blk (spliceA arr (len * sz) new.toList) el) (g := g.more (g.mu i)) g.n sz 0 (len + ys.length) cap (by simp [G.more]) hroom (by rw [hmu]; exact hz') (by rw [hmu, Nat.zero_add]; exact hbk)
     rw [hmu] at this
     exact this
    ·rw [St.upd_upd]
     exact hK g.n (hH.fresh _ (Nat.le_refl _))
   ·-- moved
    have hxe : elemsOf s sz (.sl i sz 0 len) = some els := by
     simp only [elemsOf, hs, Nat.zero_add]
     rw [if_pos ⟨trivial, by omega⟩, List.drop_zero, List.take_of_length_le (by omega)]
    obtain ⟨x1, x2, old, x3, x4, x5, x6⟩ := elemsOf_sound (P := P) hH hxv hxe
    obtain ⟨c, w0, hrun, hle, hw0, ho, ht, hou⟩ := run_append_moves (P := P) (ty := ty) (base := some ⟨(g.mu i).blk, 0 * sz, none⟩) (len := len) (cap := cap) (m := ys.length) (y := v) (old := old) (new := new) hel hn hb hz hb0 h2 y2 y3 (by rw [hel'] at x3; exact x3) (by omega) hbd
    have hH0 := hH.heap hw0
    obtain ⟨r1, r2⟩ := grown_rows (rest := Builtin.zeroCells z.cells (c - (len + ys.length))) (w := w) (g := g) x1 y1 x4 y4 x6 y6
    have hsz : (old ++ new ++ Builtin.zeroCells z.cells (c - (len + ys.length))).size = c * sz := by
     simp only [Array.size_append, x4, y4, zeroCells_size, hzn, hel', ← Nat.add_mul]
     congr 1
     omega
    have hw0s : w0.heap.size = w.heap.size := by rw [hw0]
    have hnew := Holds.new hH0 (old ++ new ++ Builtin.zeroCells z.cells (c - (len + ys.length))) el sz (els ++ ys) (by rw [hsz, List.length_append, hel']; exact Nat.mul_le_mul_right _ hle) r1 (fun j cs f c hj hf => by
     obtain ⟨q, q1, q2, q3⟩ := r2 j cs f c hj hf
     exact ⟨q, q1, q2, q3.le (LEv.same hw0)⟩)
    have hsub : ((s.upd i none).upd g.n (some (.row el sz (els ++ ys)))).sub (s.upd g.n (some (.row el sz (els ++ ys)))) := by
     intro k b hk
     by_cases h1 : k = g.n
     ·subst h1; rw [St.upd_same] at hk ⊢; exact hk
     ·rw [St.upd_ne _ _ h1] at hk ⊢
      by_cases h2 : k = i
      ·subst h2; rw [St.upd_same] at hk; cases hk
      ·rwa [St.upd_ne _ _ h2] at hk
    refine ⟨_, .sl g.n sz 0 (len + ys.length), _, _, _, hrun, ?_, hnew.sub hsub, ?_, hK g.n (hH.fresh _ (Nat.le_refl _))⟩
    ·refine LE.trans (g2 := g) (w2 := w0) ⟨LEv.same hw0, ho, ht, hou, by rw [hw0]; exact Nat.le_refl _⟩ ?_
     exact LE.more hH0 _ _
    ·have := VR.sl (w := pushed w0 (.cells (old ++ new ++ Builtin.zeroCells z.cells (c - (len + ys.length))) el (0, 0))) (g := g.more ⟨w0.heap.size, (old ++ new ++ Builtin.zeroCells z.cells (c - (len + ys.length))).size, sz⟩) g.n sz 0 (len + ys.length) c (by simp [G.more]) hle (by simp [G.more]) (by simp only [G.more, if_true]; rw [hsz, Nat.zero_add]; exact Nat.le_refl _)
     have hmu : (g.more ⟨w0.heap.size, (old ++ new ++ Builtin.zeroCells z.cells (c - (len + ys.length))).size, sz⟩).mu g.n = ⟨w0.heap.size, (old ++ new ++ Builtin.zeroCells z.cells (c - (len + ys.length))).size, sz⟩ := by simp [G.more]
     rw [hmu] at this
     simp only [Nat.zero_mul, hw0s] at this
     rw [hw0s]
     exact this
  | _ => exact hK.elim
end
end Go.Pv

namespace Go.Pv
set_option linter.unusedVariables false
set_option linter.unusedSimpArgs false
def placesP (P : Program) (t : TypeId) : Option (List (Nat × Nat)) := match P.underlying t with
 | some (.struct fs) => fs.toList.mapM fun f => (P.info? f.type).map fun i => (f.offset, i.size)
 | _ => none
def fillP (pl : Nat → Option (Nat × Nat)) (cs : List PV) : List (Nat × PV) → Option (List PV)
 | [] => some cs
 | (i, x) :: r => match pl i with
  | some (o, n) => if x.width = n ∧ x.solid = true ∧ o + n ≤ cs.length then fillP pl (spl cs o x.cells) r else none
  | none => none
def CR (w : World) (g : G) (cs : List PV) (arr : Array Value) : Prop := arr.size = cs.length ∧ ∀ (j : Nat) (c : PV), cs[j]? = some c → ∃ u, arr[j]? = some u ∧ Value.oneCell' u = true ∧ VR w g c u
theorem fold_splice (off : Nat) : ∀ (l : List Value) (k : Nat) (arr : Array Value), (l.zipIdx k).foldl (fun cs (p : Value × Nat) => cs.setIfInBounds (off + p.2) p.1) arr = spliceA arr (off + k) l
 | [], _, _ => rfl
 | v :: l, k, arr => by
  simp only [List.zipIdx_cons, List.foldl_cons, spliceA]
  rw [fold_splice off l (k + 1)]
  simp [Nat.add_assoc]
section
variable {P : Program} {w : World} {g : G} {s : St} {N : Nat} {e : Env} {a : Act}
theorem CR.splice {cs : List PV} {arr : Array Value} (h : CR w g cs arr) {p : PV} {v : Value} (hv : VR w g p v) (hso : p.solid = true) {o : Nat} (ho : o + p.width ≤ cs.length) : CR w g (spl cs o p.cells) (spliceA arr o v.cells.toList) := by
 obtain ⟨h1, h2⟩ := h
 obtain ⟨c1, c2, c3⟩ := hv.cells hso
 have hw : p.width = p.cells.length := rfl
 refine ⟨by rw [spliceA_size, spl_length (by omega)]; exact h1, fun j c hj => ?_⟩
 rw [spl_get (by omega)] at hj
 rw [spliceA_get _ _ _ (by simp; omega)]
 simp only [Array.length_toList, c1]
 split at hj
 ·rename_i hr
  rw [if_pos hr, Array.getElem?_toList]
  exact c3 _ c hj
 ·rename_i hr
  rw [if_neg hr]
  exact h2 j c hj
theorem fillP_sound {pl : Nat → Option (Nat × Nat)} : ∀ (parts : List (Nat × Operand)) (cs r : List PV) (arr : Array Value), ER w g N e a → CR w g cs arr → fillP pl cs (parts.map fun p => (p.1, e.ev p.2)) = some r →
  ∃ arr', Instr.fill pl arr (parts.map fun p => (p.1, a.eval p.2)) = some arr' ∧ CR w g r arr'
 | [], cs, r, arr, hE, hC, h => by cases h; exact ⟨arr, rfl, hC⟩
 | (i, x) :: ps, cs, r, arr, hE, hC, h => by
  simp only [List.map_cons, fillP] at h
  split at h
  ·rename_i o n hp
   split at h
   ·rename_i hc
    obtain ⟨rfl, hso, ho⟩ := hc
    have hv := hE.ev x
    obtain ⟨c1, c2, c3⟩ := hv.cells hso
    have hw : (e.ev x).width = (e.ev x).cells.length := rfl
    obtain ⟨arr', h1, h2⟩ := fillP_sound ps _ r _ hE (hC.splice hv hso ho) h
    refine ⟨arr', ?_, h2⟩
    simp only [List.map_cons, Instr.fill, hp]
    have : ¬ ((a.eval x).cells.size ≠ (e.ev x).width || decide (o + (a.eval x).cells.size > arr.size)) = true := by
     rw [hC.1, c1, hw]
     simp
     omega
    rw [if_neg (by simpa using this)]
    rw [← h1]
    congr 1
    have := fold_splice o (a.eval x).cells.toList 0 arr
    rw [Nat.add_zero] at this
    rw [← this, ← Array.foldl_toList, Array.toList_zipIdx]
   ·cases h
  ·cases h
def bld (P : Program) (e : Env) (t : TypeId) (parts : List (Nat × Operand)) : Option PV := match tzero P t with
 | some (.agg z) => match ofVal (.agg z) with
  | .agg zc => match placesP P t with
   | some pl => (fillP (fun i => pl[i]?) zc (parts.map fun p => (p.1, e.ev p.2))).map .agg
   | none => match arrT P t with
    | some (_, el) => match tsz P el with
     | some n => (fillP (fun i => some (i * n, n)) zc (parts.map fun p => (p.1, e.ev p.2))).map .agg
     | none => none
    | none => none
  | _ => none
 | _ => none
theorem bld_sound (hE : ER w g N e a) {t : TypeId} {parts : Array (Nat × Operand)} {r : PV} (h : bld P e t parts.toList = some r) : ∃ u, (Instr.build t (parts.map fun (i, x) => (i, a.eval x))).run P w = .ok u w ∧ VR w g r u := by
 unfold bld at h
 split at h
 ·rename_i z hz
  split at h
  ·rename_i zc hzc
   have hzv := VR.ofVal w g (.agg z)
   rw [hzc] at hzv
   obtain ⟨c1, c2, c3⟩ := hzv.cells rfl
   have hC : CR w g zc z := ⟨c1, c3⟩
   split at h
   ·rename_i pl hpl
    cases hf : fillP (fun i => pl[i]?) zc (parts.toList.map fun p => (p.1, e.ev p.2)) with
    | none => rw [hf] at h; cases h
    | some cs =>
     rw [hf] at h
     cases h
     obtain ⟨arr, h1, h2⟩ := fillP_sound (a := a) parts.toList zc cs z hE hC hf
     unfold placesP at hpl
     split at hpl
     ·rename_i fs hu
      refine ⟨.agg arr, ?_, .agg _ _ h2.1 (fun i v hv => ?_) (fun i c v hc hv => ?_)⟩
      ·have h' : Instr.fill (fun i => pl[i]?) z ((parts.map fun (i, x) => (i, a.eval x)).toList) = some arr := by
        rw [Array.toList_map]; exact h1
       have h'' : Instr.fill (fun i => pl.toArray[i]?) z ((parts.map fun (i, x) => (i, a.eval x)).toList) = some arr := by
        rw [← h']; congr 1; funext i; simp
       simp only [Instr.build, Sem.run_bind, run_zeroValue hz, Result.andThen_ok, run_underlying hu, Value.cells]
       simp [Array.mapM_eq_mapM_toList, run_places w _ _ hpl]
       simp at h''
       simp [h'']
      ·have hlt : i < cs.length := by rw [← h2.1]; exact (Array.getElem?_eq_some_iff.1 hv).1
       obtain ⟨u, q1, q2, _⟩ := h2.2 i _ (List.getElem?_eq_getElem hlt)
       rw [hv] at q1; cases q1; exact q2
      ·obtain ⟨u, q1, _, q3⟩ := h2.2 i c hc
       rw [hv] at q1; cases q1; exact q3
     ·cases hpl
   ·split at h
    ·rename_i m el ha
     split at h
     ·rename_i n hn
      cases hf : fillP (fun i => some (i * n, n)) zc (parts.toList.map fun p => (p.1, e.ev p.2)) with
      | none => rw [hf] at h; cases h
      | some cs =>
       rw [hf] at h
       cases h
       obtain ⟨arr, h1, h2⟩ := fillP_sound (a := a) parts.toList zc cs z hE hC hf
       refine ⟨.agg arr, ?_, .agg _ _ h2.1 (fun i v hv => ?_) (fun i c v hc hv => ?_)⟩
       ·have h' : Instr.fill (fun i => some (i * n, n)) z ((parts.map fun (i, x) => (i, a.eval x)).toList) = some arr := by
         rw [Array.toList_map]; exact h1
        simp only [Instr.build, Sem.run_bind, run_zeroValue hz, Result.andThen_ok, arrT_run ha, Value.cells, run_sizeOf hn]
        rw [h']
        rfl
       ·have hlt : i < cs.length := by rw [← h2.1]; exact (Array.getElem?_eq_some_iff.1 hv).1
        obtain ⟨u, q1, q2, _⟩ := h2.2 i _ (List.getElem?_eq_getElem hlt)
        rw [hv] at q1; cases q1; exact q2
       ·obtain ⟨u, q1, _, q3⟩ := h2.2 i c hc
        rw [hv] at q1; cases q1; exact q3
     ·cases h
    ·cases h
  ·cases h
 ·cases h
theorem fill_seq (n : Nat) : ∀ (vs : List Value) (k : Nat) (arr : Array Value), (∀ v ∈ vs, v.cells.size = n) → (k + vs.length) * n ≤ arr.size →
  ∃ arr', Instr.fill (fun i => some (i * n, n)) arr ((vs.zipIdx k).map fun p => (p.2, p.1)) = some arr' ∧ arr'.size = arr.size ∧ (∀ i, i < k * n → arr'[i]? = arr[i]?) ∧
   ∀ (j : Nat) (v : Value) (f : Nat), vs[j]? = some v → f < n → arr'[(k + j) * n + f]? = v.cells[f]?
 | [], k, arr, _, _ => ⟨arr, rfl, rfl, fun _ _ => rfl, fun j v f h => by simp at h⟩
 | v :: vs, k, arr, hv, hl => by
  simp only [List.length_cons] at hl
  have hvn := hv v List.mem_cons_self
  have hmul : k * n + n ≤ (k + (vs.length + 1)) * n := by
   rw [← Nat.succ_mul]; exact Nat.mul_le_mul_right _ (by omega)
  have hfit : k * n + v.cells.toList.length ≤ arr.size := by simp [hvn]; omega
  obtain ⟨arr', h1, h2, h3, h4⟩ := fill_seq n vs (k + 1) (spliceA arr (k * n) v.cells.toList) (fun u hu => hv u (List.mem_cons_of_mem _ hu)) (by rw [spliceA_size, show k + 1 + vs.length = k + (vs.length + 1) by omega]; exact hl)
  have hget := spliceA_get v.cells.toList arr (k * n) hfit
  simp only [Array.length_toList, hvn] at hget
  refine ⟨arr', ?_, by rw [h2, spliceA_size], fun i hi => ?_, fun j u f hj hf => ?_⟩
  ·simp only [List.zipIdx_cons, List.map_cons, Instr.fill]
   have : ¬ (v.cells.size ≠ n || decide (k * n + v.cells.size > arr.size)) = true := by simp [hvn]; omega
   rw [if_neg (by simpa using this), ← h1]
   congr 1
   have := fold_splice (k * n) v.cells.toList 0 arr
   rw [Nat.add_zero] at this
   rw [← this, ← Array.foldl_toList, Array.toList_zipIdx]
  ·rw [h3 i (by rw [Nat.succ_mul]; omega), hget, if_neg (by omega)]
  ·cases j with
   | zero =>
    cases hj
    rw [Nat.add_zero, h3 _ (by rw [Nat.succ_mul]; omega), hget, if_pos (by omega), Array.getElem?_toList]
    congr 1
    omega
   | succ j =>
    rw [show k + (j + 1) = k + 1 + j by omega]
    exact h4 j u f hj hf
theorem zip_range {α : Type} (l : List (Nat × α)) (k : Nat) (h : l.map Prod.fst = List.range' k l.length) : l = ((l.map Prod.snd).zipIdx k).map fun p => (p.2, p.1) := by
 induction l generalizing k with
 | nil => rfl
 | cons x l ih =>
  simp only [List.map_cons, List.length_cons, List.range'_succ, List.cons.injEq] at h
  simp only [List.map_cons, List.zipIdx_cons, List.cons.injEq]
  exact ⟨by rw [← h.1], ih (k + 1) h.2⟩
def idxOk : Nat → List (Nat × Operand) → Bool
 | _, [] => true
 | n, (i, _) :: l => i == n && idxOk (n + 1) l
theorem idxOk_range : ∀ (l : List (Nat × Operand)) (k : Nat), idxOk k l = true → l.map Prod.fst = List.range' k l.length
 | [], k, _ => rfl
 | (i, x) :: l, k, h => by
  simp only [idxOk, Bool.and_eq_true, beq_iff_eq] at h
  obtain ⟨rfl, h⟩ := h
  simp only [List.map_cons, List.length_cons, List.range'_succ, idxOk_range l _ h]
def mkSlice (P : Program) (e : Env) (t : TypeId) (len : Nat) (parts : List (Nat × Operand)) : Option PV := (sliceT P t).bind fun el => (tsz P el).bind fun n => (tzero P el).bind fun _ =>
 if idxOk 0 parts = true ∧ parts.length = len ∧ (parts.map fun p => e.ev p.2).all (fun x => x.width == n && x.solid) = true ∧ len * n ≤ 16777216 then some (.vec .tight (parts.map fun p => e.ev p.2)) else none
theorem mkSlice_sound (hH : Holds g s w) (hE : ER w g N e a) {t : TypeId} {len : Nat} {parts : Array (Nat × Operand)} {r : PV} (h : mkSlice P e t len parts.toList = some r) :
  ∃ u g' w', (Instr.buildSlice t len (parts.map fun (i, x) => (i, a.eval x))).run P w = .ok u w' ∧ LE g w g' w' ∧ Holds g' s w' ∧ VR w' g' r u := by
 unfold mkSlice at h
 replace h := Option.bind_eq_some_iff.1 h; obtain ⟨el, hel, h⟩ := h
 replace h := Option.bind_eq_some_iff.1 h; obtain ⟨n, hn, h⟩ := h
 replace h := Option.bind_eq_some_iff.1 h; obtain ⟨z, hz, h⟩ := h
 split at h
 ·rename_i hc
  obtain ⟨hr0, hrl, hall, hlim⟩ := hc
  have hr : parts.toList.map Prod.fst = List.range len := by rw [idxOk_range _ _ hr0, hrl, List.range_eq_range']
  cases h
  let ps := parts.toList
  let vs := ps.map fun p => a.eval p.2
  have hpl : ps.length = len := by
   have := congrArg List.length hr
   rw [List.length_map, List.length_range] at this
   exact this
  have hvl : vs.length = len := by simp [vs, hpl]
  have hpv : ∀ (j : Nat) (x : PV) (v : Value), (ps.map fun p => e.ev p.2)[j]? = some x → vs[j]? = some v → VR w g x v ∧ x.width = n ∧ x.solid = true := by
   intro j x v hx hv
   rw [List.getElem?_map] at hx hv
   cases hp : ps[j]? with
   | none => rw [hp] at hx; cases hx
   | some p =>
    rw [hp] at hx hv
    cases hx; cases hv
    rw [List.all_eq_true] at hall
    have := hall (e.ev p.2) (List.mem_map.2 ⟨p, List.mem_of_getElem? hp, rfl⟩)
    simp only [Bool.and_eq_true, beq_iff_eq] at this
    exact ⟨hE.ev p.2, this.1, this.2⟩
  have hsz : ∀ v ∈ vs, v.cells.size = n := by
   intro v hv
   obtain ⟨j, hj⟩ := List.getElem?_of_mem hv
   have hjl := (List.getElem?_eq_some_iff.1 hj).1
   have hjx : (ps.map fun p => e.ev p.2)[j]? = some _ := List.getElem?_eq_getElem (by simp [vs] at hjl; simpa using hjl)
   obtain ⟨h1, h2, h3⟩ := hpv j _ v hjx hj
   rw [(h1.cells h3).1]; exact h2
  have hparts : (parts.map fun (i, x) => (i, a.eval x)).toList = (vs.zipIdx 0).map fun p => (p.2, p.1) := by
   have h1 : (ps.map fun p => (p.1, a.eval p.2)).map Prod.fst = List.range' 0 (ps.map fun p => (p.1, a.eval p.2)).length := by
    rw [List.map_map, List.length_map, hpl, ← List.range_eq_range']
    exact hr
   have h2 := zip_range _ 0 h1
   rw [Array.toList_map]
   refine Eq.trans ?_ (h2.trans ?_)
   ·rfl
   ·rw [List.map_map]; rfl
  have hinit : ∀ init : Array Value, init.size = len * n → ∃ arr, Instr.fill (fun i => some (i * n, n)) init (parts.map fun (i, x) => (i, a.eval x)).toList = some arr ∧ arr.size = len * n ∧ ∀ (j : Nat) (v : Value) (f : Nat), vs[j]? = some v → f < n → arr[j * n + f]? = v.cells[f]? := by
   intro init hi
   obtain ⟨arr, h1, h2, _, h4⟩ := fill_seq n vs 0 init hsz (by rw [Nat.zero_add, hvl, hi]; exact Nat.le_refl _)
   exact ⟨arr, by rw [hparts]; exact h1, by rw [h2, hi], fun j v f hj hf => by have := h4 j v f hj hf; rwa [Nat.zero_add] at this⟩
  have fin : ∀ arr : Array Value, arr.size = len * n → (∀ (j : Nat) (v : Value) (f : Nat), vs[j]? = some v → f < n → arr[j * n + f]? = v.cells[f]?) →
    LE g w (g.freeze w.heap.size) (pushed w (.cells arr el (0, 0))) ∧ Holds (g.freeze w.heap.size) s (pushed w (.cells arr el (0, 0))) ∧ VR (pushed w (.cells arr el (0, 0))) (g.freeze w.heap.size) (.vec .tight (ps.map fun p => e.ev p.2)) (.slice (some ⟨w.heap.size, 0, none⟩) len len) := by
   intro arr ha1 ha2
   obtain ⟨hP, hle1⟩ := Holds.pushed hH (.cells arr el (0, 0))
   have hle := hle1.trans (LE.freeze (g := g) (w := pushed w (.cells arr el (0, 0))) w.heap.size)
   have hF := hP.freeze (k := w.heap.size) (by rw [pushed_size]; omega) (fun i hi hb => by
    obtain ⟨b, hb'⟩ := Option.ne_none_iff_exists'.1 hi
    have := (hH.blk i b hb').lt
    omega)
   refine ⟨hle, hF, ?_⟩
   have hlen : (ps.map fun p => e.ev p.2).length = len := by simp [hpl]
   have key : ∀ (i : Nat) (x : PV) (j : Nat) (c : PV), (ps.map fun p => e.ev p.2)[i]? = some x → x.cells[j]? = some c → ∃ u, arr[i * n + j]? = some u ∧ Value.oneCell' u = true ∧ VR w g c u := by
    intro i x j c hx hj
    have hil := (List.getElem?_eq_some_iff.1 hx).1
    have hvi : vs[i]? = some _ := List.getElem?_eq_getElem (by rw [hvl]; omega)
    obtain ⟨h1, h2, h3⟩ := hpv i x _ hx hvi
    obtain ⟨u, q1, q2, q3⟩ := (h1.cells h3).2.2 j c hj
    exact ⟨u, by rw [ha2 i _ j hvi (by rw [← h2]; exact (List.getElem?_eq_some_iff.1 hj).1)]; exact q1, q2, q3⟩
   have hgd : ∀ (i : Nat) (x : PV) (j : Nat) (c : PV), (ps.map fun p => e.ev p.2)[i]? = some x → x.cells[j]? = some c → arr[i * n + j]? = some (arr.getD (i * n + j) undef) ∧ Value.oneCell' (arr.getD (i * n + j) undef) = true ∧ VR w g c (arr.getD (i * n + j) undef) := by
    intro i x j c hx hj
    obtain ⟨u, q1, q2, q3⟩ := key i x j c hx hj
    have : arr.getD (i * n + j) undef = u := by rw [Array.getD_eq_getD_getElem?, q1]; rfl
    rw [this]; exact ⟨q1, q2, q3⟩
   have := VR.vec (w := pushed w (.cells arr el (0, 0))) (g := g.freeze w.heap.size) .tight (ps.map fun p => e.ev p.2) (some ⟨w.heap.size, 0, none⟩) len n (fun i j => arr.getD (i * n + j) undef) (by omega) (fun _ => hlen.symm) (fun h => by cases h) (fun h => by cases h) (fun i x hx => by
     have hil := (List.getElem?_eq_some_iff.1 hx).1
     exact (hpv i x _ hx (List.getElem?_eq_getElem (by rw [hvl]; omega))).2.1) (fun i x j c hx hj => ⟨_, rfl, .inr rfl, by
      rw [add_plain, Nat.zero_add]
      show (pushed w (.cells arr el (0, 0))).cell? _ = _
      simp only [World.cell?, pushed_new]
      exact (hgd i x j c hx hj).1, (hgd i x j c hx hj).2.1⟩) (fun i x j c hx hj => ((hgd i x j c hx hj).2.2).le hle.toLEv)
   rw [hlen] at this
   exact this
  by_cases h0 : len * n = 0
  ·obtain ⟨arr, h1, h2, h3⟩ := hinit #[] (by simp [h0])
   obtain ⟨f1, f2, f3⟩ := fin arr h2 h3
   refine ⟨_, _, _, ?_, f1, f2, f3⟩
   have hlim' : ¬ (0 : Nat) > 2 ^ 24 := by decide
   simp only [Instr.buildSlice, Sem.run_bind, sliceT_run hel, Result.andThen_ok, run_sizeOf hn, h0, if_neg hlim', if_true, Sem.run_pure, Array.range_zero', Array.map_empty]
   rw [h1]
   rfl
  ·obtain ⟨arr, h1, h2, h3⟩ := hinit ((Array.range (len * n)).map fun i => z.cells[i % z.cells.size]!) (by simp)
   obtain ⟨f1, f2, f3⟩ := fin arr h2 h3
   refine ⟨_, _, _, ?_, f1, f2, f3⟩
   have hlim' : ¬ len * n > 2 ^ 24 := by omega
   simp only [Instr.buildSlice, Sem.run_bind, sliceT_run hel, Result.andThen_ok, run_sizeOf hn, if_neg h0, if_neg hlim', run_zeroValue hz, Sem.run_pure]
   rw [h1]
   rfl
 ·cases h
end
end Go.Pv

namespace Go.Pv
set_option linter.unusedVariables false
set_option linter.unusedSimpArgs false
def mkW (P : Program) (s : St) (t : TypeId) (x y : PV) (K : PV → St → Prop) : Prop :=
 okv (sliceT P t) fun el => okv (tsz P el) fun n => okv (tby P el) fun b => okv (tzero P el) fun z => z.cells.size = n ∧ (ofVal z).solid = true ∧ (match x, y with
  | .lit (.int .i64 a), .lit (.int .i64 c) => a = c ∧ 0 ≤ a ∧ a ≤ 16777216 ∧ a * b ≤ 1099511627776 ∧ ∀ i, s i = none → K (.sl i n 0 a.toNat) (s.upd i (some (.row el n (List.replicate a.toNat (ofVal z).cells))))
  | _, _ => False)
section
variable {P : Program} {w : World} {g : G} {s : St}
theorem makeSlice_sound (hH : Holds g s w) {t el n b : Nat} {z : Value} (h1 : sliceT P t = some el) (h2 : tsz P el = some n) (h3 : tby P el = some b) (h4 : tzero P el = some z) (h5 : z.cells.size = n) (h6 : (ofVal z).solid = true) {a : Nat} (ha : a ≤ 16777216) (hb : a * b ≤ 1099511627776) :
  ∃ g' w' v, (Instr.makeSlice t (.int .i64 (a : Int)) (.int .i64 (a : Int))).run P w = .ok v w' ∧ LE g w g' w' ∧ Holds g' (s.upd g.n (some (.row el n (List.replicate a (ofVal z).cells)))) w' ∧ VR w' g' (.sl g.n n 0 a) v := by
 obtain ⟨i, hi, rfl⟩ := Option.map_eq_some_iff.1 h2
 have hby : i.bytes = b := by unfold tby at h3; rw [hi] at h3; simpa using h3
 have hz : i.zero = some z := by unfold tzero at h4; rw [hi] at h4; simpa using h4
 have ht : P.underlying t = some (.slice el) := by
  unfold sliceT at h1
  split at h1
  ·rename_i e he; cases h1; exact he
  ·cases h1
 have hbz : (i.bytes : Int) * (a : Int) ≤ 281474976710656 := by
  have h : i.bytes * a ≤ 1099511627776 := by rw [hby, Nat.mul_comm]; exact hb
  have h' : ((i.bytes * a : Nat) : Int) ≤ 1099511627776 := by omega
  rw [Int.natCast_mul] at h'
  omega
 have hr := run_make (P := P) w t el i z ht hi hz .i64 .i64 (a : Int) (a : Int) (by omega) (Int.le_refl _) hbz (by omega)
 simp only [Int.toNat_natCast] at hr
 obtain ⟨q1, q2, q3⟩ := (VR.ofVal w g z).cells h6
 have hsz : (madeCells z.cells (a * i.size)).size = a * i.size := size_madeCells _ _
 have hnew := Holds.new hH (madeCells z.cells (a * i.size)) el i.size (List.replicate a (ofVal z).cells) (by rw [List.length_replicate, hsz]; exact Nat.le_refl _) (fun j cs hj => by
  have := List.eq_of_mem_replicate (List.mem_of_getElem? hj)
  rw [this, ← q1, h5]) (fun j cs f c hj hf => by
  have hcs := List.eq_of_mem_replicate (List.mem_of_getElem? hj)
  have hja : j < a := by have := (List.getElem?_eq_some_iff.1 hj).1; rwa [List.length_replicate] at this
  subst hcs
  obtain ⟨v, r1, r2, r3⟩ := q3 f c hf
  have hfn : f < i.size := by
   have := (Array.getElem?_eq_some_iff.1 r1).1
   rw [h5] at this; exact this
  have hlt : j * i.size + f < a * i.size := by
   have := Nat.mul_le_mul_right i.size (show j + 1 ≤ a from hja)
   rw [Nat.add_mul, Nat.one_mul] at this
   omega
  refine ⟨v, ?_, r2, r3⟩
  unfold madeCells
  rw [Array.getElem?_map, Array.getElem?_range]
  rw [if_pos hlt]
  simp only [Option.map_some, Option.some.injEq]
  rw [h5, Nat.mul_comm j, Nat.mul_add_mod, Nat.mod_eq_of_lt hfn]
  rw [getElem!_def, r1])
 refine ⟨_, _, _, hr, LE.more hH ⟨w.heap.size, (madeCells z.cells (a * i.size)).size, i.size⟩ (.cells (madeCells z.cells (a * i.size)) el (0, 0)), hnew, ?_⟩
 have := VR.sl (w := pushed w (.cells (madeCells z.cells (a * i.size)) el (0, 0))) (g := g.more ⟨w.heap.size, (madeCells z.cells (a * i.size)).size, i.size⟩) g.n i.size 0 a a (by simp [G.more]) (Nat.le_refl _) (by simp [G.more]) (by simp only [G.more, if_true]; rw [hsz, Nat.zero_add]; exact Nat.le_refl _)
 have hmu : (g.more ⟨w.heap.size, (madeCells z.cells (a * i.size)).size, i.size⟩).mu g.n = ⟨w.heap.size, (madeCells z.cells (a * i.size)).size, i.size⟩ := by simp [G.more]
 rw [hmu] at this
 simp only [Nat.zero_mul] at this
 exact this
end
end Go.Pv

namespace Go.Pv
set_option linter.unusedVariables false
set_option linter.unusedSimpArgs false
def callW (P : Program) (s : St) (f : PV) (args : List PV) (K : PV → St → Prop) (Kp : List PanicEntry → St → Prop) : Prop := match f with
 | .fn f fs cs => PCalls P f (fs ++ args ++ cs) s fun r s' => match r with
  | .ret p => K p s'
  | .pan c => Kp c s'
 | .yld i => PYld P i args s K
 | _ => False
def storeW (P : Program) (s : St) (t : TypeId) (p x : PV) (K : St → Prop) : Prop := match p with
 | .pt i j f => (match s i with
  | some (.row ty sz els) => okv (els[j]?) fun cs => tsz P t = some x.width ∧ x.solid = true ∧ f + x.width ≤ cs.length ∧ K (s.upd i (some (.row ty sz (els.set j (spl cs f x.cells)))))
  | _ => False)
 | _ => False
theorem storeW_ex {P : Program} {s : St} {t : TypeId} {p x : PV} {K : St → Prop} (h : storeW P s t p x K) : ∃ i j f ty sz els cs, p = .pt i j f ∧ s i = some (.row ty sz els) ∧ els[j]? = some cs ∧ tsz P t = some x.width ∧ x.solid = true ∧ f + x.width ≤ cs.length ∧ K (s.upd i (some (.row ty sz (els.set j (spl cs f x.cells))))) := by
 unfold storeW at h
 split at h
 ·rename_i i j f
  split at h
  ·rename_i ty sz els hs
   obtain ⟨cs, h1, h2⟩ := okv_ex h
   exact ⟨i, j, f, ty, sz, els, cs, rfl, hs, h1, h2⟩
  ·exact h.elim
 ·exact h.elim
theorem ex_storeW {P : Program} {s : St} {t : TypeId} {x : PV} {K : St → Prop} {i j f : Nat} {ty : TypeId} {sz : Nat} {els : List (List PV)} {cs : List PV} (h1 : s i = some (.row ty sz els)) (h2 : els[j]? = some cs) (h3 : tsz P t = some x.width ∧ x.solid = true ∧ f + x.width ≤ cs.length ∧ K (s.upd i (some (.row ty sz (els.set j (spl cs f x.cells)))))) : storeW P s t (.pt i j f) x K := by
 unfold storeW
 simp only [h1]
 exact ex_okv h2 h3
def mapW (P : Program) (s : St) (t : TypeId) (m k v : PV) (K : St → Prop) : Prop := match m, k with
 | .mp i, .lit (.string b) => (match s i with
  | some (.dict es) => (mapT P t).isSome = true ∧ K (s.upd i (some (.dict (dset es b v))))
  | _ => False)
 | .mp i, .lit (.int kd n) => (match s i with
  | some (.idict kd' es) => kd' = kd ∧ (imapT P t).map (·.1) = some kd ∧ K (s.upd i (some (.idict kd (dset es n v))))
  | _ => False)
 | _, _ => False
def cvT (P : Program) (src dst ty : TypeId) (sz : Nat) : Bool := match P.underlying src, P.underlying dst with
 | some (.pointer t), some .unsafePointer => (match P.info? t with
  | some j => j.size != 0
  | none => false)
 | some .unsafePointer, some (.pointer u) => u == ty && P.cellsOf ty == sz && sz != 0 && (P.info? u).isSome
 | _, _ => false
def ptrCv (P : Program) (s : St) (src dst : TypeId) (i j f : Nat) : Prop := match s i with
 | some (.row ty sz els) => j = 0 ∧ f = 0 ∧ els ≠ [] ∧ sz ≠ 0 ∧ cvT P src dst ty sz = true
 | _ => False
def bytesOf : List (List PV) → Option (List UInt8)
 | [] => some []
 | [.lit (.int .u8 n)] :: r => if 0 ≤ n ∧ n < 256 then (bytesOf r).map fun l => UInt8.ofNat n.toNat :: l else none
 | _ => none
def convB (P : Program) (s : St) (src dst : TypeId) (x : PV) : Option PV := (sliceT P src).bind fun el => if tsz P el = some 1 ∧ intT P el = some .u8 ∧ isStrT P dst = true then (elemsOf s 1 x).bind fun cs => (bytesOf cs).map fun b => .lit (.string ⟨b.toArray⟩) else none
section
variable {P : Program} {w : World} {g : G} {s : St}
theorem b2s_loop (f : Value → ByteArray → Sem (ForInStep ByteArray)) (hf : ∀ (b : UInt8) (s : ByteArray), f (.int .u8 b.toNat) s = pure (.yield (s.push b))) : ∀ (bs : List UInt8) (acc : ByteArray),
  (forIn (bs.map (fun c => Value.int .u8 c.toNat)) acc f).run P w = .ok ⟨acc.data ++ bs.toArray⟩ w
 | [], acc => by simp
 | b :: bs, acc => by
  have ih := b2s_loop f hf bs (acc.push b)
  simp only [List.map_cons, List.forIn_cons, hf, Sem.run_bind, Sem.run_pure, Result.andThen_ok]
  rw [ih]
  congr 1
  simp [ByteArray.push]
theorem bytesOf_some : ∀ (cs : List (List PV)) (bs : List UInt8), bytesOf cs = some bs → (∀ (j : Nat) (c : List PV), cs[j]? = some c → ∃ b : UInt8, c = [.lit (.int .u8 b.toNat)] ∧ bs[j]? = some b) ∧ cs.length = bs.length
 | [], bs, h => by cases h; exact ⟨fun j c hj => by simp at hj, rfl⟩
 | c :: cs, bs, h => by
  unfold bytesOf at h
  split at h
  ·rename_i hc; cases hc
  ·rename_i n r hc
   cases hc
   split at h
   case isFalse => cases h
   rename_i hn
   obtain ⟨l, hl, rfl⟩ := Option.map_eq_some_iff.1 h
   obtain ⟨h1, h2⟩ := bytesOf_some _ l hl
   refine ⟨fun j c hj => ?_, by simp [h2]⟩
   cases j with
   | zero =>
    cases hj
    refine ⟨UInt8.ofNat n.toNat, ?_, rfl⟩
    have : (UInt8.ofNat n.toNat).toNat = n.toNat := by simp; omega
    rw [this]
    congr 4
    omega
   | succ j => exact h1 j c hj
  ·cases h
theorem convB_sound (hH : Holds g s w) {src dst : TypeId} {x r : PV} {u : Value} (hx : VR w g x u) (hne : ∀ b, x ≠ .lit (.string b)) (h : convB P s src dst x = some r) : ∃ q, (convert src dst u).run P w = .ok q w ∧ VR w g r q := by
 unfold convB at h
 replace h := Option.bind_eq_some_iff.1 h; obtain ⟨el, hel, h⟩ := h
 split at h
 case isFalse => cases h
 rename_i hc
 obtain ⟨c1, c2, c3⟩ := hc
 replace h := Option.bind_eq_some_iff.1 h; obtain ⟨cs, hcs, h⟩ := h
 obtain ⟨bs, hbs, rfl⟩ := Option.map_eq_some_iff.1 h
 obtain ⟨h1, h2, vs, h3, h4, h5, h6⟩ := elemsOf_sound (P := P) hH hx hcs
 obtain ⟨k1, k2⟩ := bytesOf_some cs bs hbs
 refine ⟨.string ⟨bs.toArray⟩, ?_, .lit _ rfl⟩
 have hvs : vs.toList = bs.map (fun c => Value.int .u8 c.toNat) := by
  apply List.ext_getElem?
  intro j
  rw [Array.getElem?_toList, List.getElem?_map]
  by_cases hj : j < cs.length
  ·obtain ⟨b, hc, hb⟩ := k1 j _ (List.getElem?_eq_getElem hj)
   obtain ⟨u', q1, q2, q3⟩ := h6 j _ 0 _ (List.getElem?_eq_getElem hj) (by rw [hc]; rfl)
   rw [Nat.mul_one, Nat.add_zero] at q1
   obtain ⟨rfl, _⟩ := q3.lit_inv
   rw [q1, hb]
   rfl
  ·rw [Array.getElem?_eq_none (by omega), List.getElem?_eq_none (by omega)]; rfl
 have hu8 : P.underlying el = some (.int .u8) := by
  unfold intT at c2
  split at c2
  ·rename_i k hk; cases c2; exact hk
  ·cases c2
 obtain ⟨ad, l, c, rfl⟩ : ∃ a l c, u = .slice a l c := by
  unfold elemsOf at hcs
  split at hcs
  ·cases hx with | vec k xs A cap => exact ⟨_, _, _, rfl⟩
  ·cases hx with | sl => exact ⟨_, _, _, rfl⟩
  ·exact absurd rfl (hne _)
  ·cases hcs
 have hl : l = cs.length := by
  have := h2 w rfl
  simpa [Builtin.lenOf] using this
 subst hl
 have r1 := sliceT_run (w := w) hel
 have r2 := isStrT_run (w := w) c3
 have hrun : (convert src dst (.slice ad cs.length c)).run P w = (Conv.bytesToString (.slice ad cs.length c)).run P w := by
  simp only [convert, Sem.run_bind, r1, r2, Result.andThen_ok, run_underlying hu8]
 rw [hrun]
 cases ad with
 | none =>
  have : vs = #[] := by
   have := h3 w rfl
   simpa [Builtin.firstCells] using this.symm
  subst this
  have : bs = [] := by simpa using hvs
  subst this
  rfl
 | some a =>
  have hc3 : (loadCells a cs.length).run P w = .ok vs w := by
   have := h3 w rfl
   simpa [Builtin.firstCells] using this
  simp only [Conv.bytesToString, Sem.run_bind, hc3, Result.andThen_ok]
  rw [← Array.forIn_toList, hvs, b2s_loop _ (fun b s => by simp) bs ByteArray.empty]
  simp
end
def bytePT (P : Program) (t : TypeId) : Option TypeId := match P.underlying t with
 | some (.pointer e) => if P.cellsOf e = 1 then some e else none
 | _ => none
def ustrW (P : Program) (s : St) (t : TypeId) (x n : PV) (K : PV → St → Prop) : Prop := match x, n with
 | .pt i j f, .lit (.int .i64 k) => (match s i with
  | some (.row ty sz els) => j = 0 ∧ f = 0 ∧ 0 < k ∧ k ≤ 9223372036854775807 ∧ k.toNat ≤ els.length ∧ bytePT P t = some ty ∧ okv (bytesOf (els.take k.toNat)) fun b => K (.lit (.string ⟨b.toArray⟩)) (s.upd i none)
  | _ => False)
 | .lit (.pointer none), .lit (.int .i64 k) => k = 0 ∧ K (.lit (.string ⟨#[]⟩)) s
 | _, _ => False
def cpyW (P : Program) (s : St) (t : TypeId) (d x : PV) (K : PV → St → Prop) : Prop :=
 okv (sliceT P t) fun el => okv (tsz P el) fun n => okv (elemsOf s n x) fun ys => ys = [] ∧ d.isSlice = true ∧ K (.lit (.int .i64 0)) s
def eqNilW (op : BinOp) (k : VK) (xs : List PV) (K : PV → Prop) : Prop := match op with
 | .eql => ∀ t : Bool, (k = .nil → t = true) → (xs ≠ [] → t = false) → K (.lit (.bool t))
 | .neq => ∀ t : Bool, (k = .nil → t = true) → (xs ≠ [] → t = false) → K (.lit (.bool !t))
 | _ => False
def binW (P : Program) (op : BinOp) (t : TypeId) (x y : PV) (K : PV → Prop) : Prop := match x, y with
 | .vec k xs, .vec .nil [] => (sliceT P t).isSome = true ∧ eqNilW op k xs K
 | x, y => okv (bin P op t x y) K
def opw (P : Program) (e : Env) (s : St) (K : PV → St → Prop) (Kp : List PanicEntry → St → Prop) (op : Go.Op) : Prop := match op with
 | .alloc t => okv (tzero P t) fun z => (ofVal z).solid = true ∧ ∀ i, s i = none → K (.pt i 0 0) (s.upd i (some (.row t (ofVal z).width [(ofVal z).cells])))
 | .box t x => (e.ev x).solid = true ∧ ∀ i, s i = none → K (.pt i 0 0) (s.upd i (some (.row t (e.ev x).width [(e.ev x).cells])))
 | .store t a x => storeW P s t (e.ev a) (e.ev x) (K .junk)
 | .build t parts => okv (bld P e t parts.toList) fun v => K v s
 | .buildSlice t len parts => okv (mkSlice P e t len parts.toList) fun v => K v s
 | .pick c a b => (match e.ev c with
  | .lit (.bool t) => (t = true → K (e.ev a) s) ∧ (t = false → K (e.ev b) s)
  | _ => False)
 | .call c => (match c.callee with
  | .builtin .append => (match c.args.toList, c.argTypes.toList with
   | [x, y], [t, t2] => appW P s t t2 (e.ev x) (e.ev y) K
   | _, _ => False)
  | .builtin .unsafeString => (match c.args.toList, c.argTypes.toList with
   | [x, n], [t, t2] => ustrW P s t (e.ev x) (e.ev n) K
   | _, _ => False)
  | .builtin .copy => (match c.args.toList, c.argTypes.toList with
   | [x, y], [t, t2] => cpyW P s t (e.ev x) (e.ev y) K
   | _, _ => False)
  | .value f => callW P s (e.ev f) (c.args.toList.map e.ev) K Kp
  | _ => okv (qcall P e c) fun v => K v s)
 | .binOp op t x y _ => binW P op t (e.ev x) (e.ev y) fun v => K v s
 | .makeMap t none => (match mapT P t with
  | some _ => ∀ i, s i = none → K (.mp i) (s.upd i (some (.dict [])))
  | none => okv (imapT P t) fun x => ∀ i, s i = none → K (.mp i) (s.upd i (some (.idict x.1 []))))
 | .makeSlice t l c => mkW P s t (e.ev l) (e.ev c) K
 | .mapUpdate t m k v => mapW P s t (e.ev m) (e.ev k) (e.ev v) (K .junk)
 | .insert t m k v => mapW P s t (e.ev m) (e.ev k) (e.ev v) (K .junk)
 | .convert src dst x => (match e.ev x with
  | .sl i sz off len => okv (convB P s src dst (.sl i sz off len)) fun v => K v s
  | .vec k xs => okv (convB P s src dst (.vec k xs)) fun v => K v s
  | .pt i j f => ptrCv P s src dst i j f ∧ K (.pt i j f) s
  | _ => okv (qop P e s (.convert src dst x)) fun v => K v s)
 | op => okv (qop P e s op) fun v => K v s
section
variable {P : Program} {w : World} {g : G} {s : St} {N : Nat} {e : Env} {a : Act}
theorem cv_sound (hH : Holds g s w) {src dst : TypeId} {i j f : Nat} {u : Value} (hx : VR w g (.pt i j f) u) (h : ptrCv P s src dst i j f) : (convert src dst u).run P w = .ok u w := by
 unfold ptrCv at h
 split at h
 case h_2 => exact h.elim
 rename_i ty sz els hs
 obtain ⟨rfl, rfl, hne, hz0, hcv⟩ := h
 obtain ⟨_, rfl⟩ := hx.pt_inv
 obtain ⟨_, _, _, arr, hz, hb, hsz, hl, he, h5⟩ := hH.blk i _ hs
 have hpos : sz ≤ arr.size := by
  have : 1 ≤ els.length := by
   cases els with
   | nil => exact absurd rfl hne
   | cons _ _ => simp
  have := Nat.mul_le_mul_right sz this
  omega
 have hsh : w.shape? (g.mu i).blk = some (ty, arr.size) := by simp [World.shape?, hb]
 have haddr : (⟨(g.mu i).blk, 0 * (g.mu i).sz + 0, none⟩ : Addr) = ⟨(g.mu i).blk, 0, none⟩ := by simp
 rw [haddr]
 unfold cvT at hcv
 split at hcv
 ·rename_i t h1 h2
  split at hcv
  ·rename_i jn hj
   exact Lib.run_to_unsafe w ⟨(g.mu i).blk, 0, none⟩ h1 h2 hj (by simpa using hcv) hsh (by simp only; omega)
  ·cases hcv
 ·rename_i u h1 h2
  simp only [Bool.and_eq_true, beq_iff_eq, bne_iff_ne, ne_eq] at hcv
  obtain ⟨⟨⟨rfl, hcells⟩, _⟩, hinfo⟩ := hcv
  obtain ⟨jn, hj⟩ := Option.isSome_iff_exists.1 hinfo
  refine Lib.run_from_unsafe w ⟨(g.mu i).blk, 0, none⟩ h1 h2 hj hsh ?_
  have hcnt : 1 ≤ arr.size / P.cellsOf u := by rw [hcells]; exact (Nat.le_div_iff_mul_le (by omega)).2 (by omega)
  have hd : P.depth = (2 * (P.types.size + Made.depth) + 1) + 1 := rfl
  rw [hd]
  simp only [liesAt, Bool.or_eq_true]
  left
  rw [hd]
  have hcz : P.cellsOf u ≠ 0 := by rw [hcells]; exact hz0
  simp [rowAt, hcz, hcnt, sameLayout]
 ·cases hcv
theorem ustr_sound (hH : Holds g s w) {t t2 ty2 : TypeId} {x n : PV} {u v : Value} (hx : VR w g x u) (hn : VR w g n v) {K : PV → St → Prop} (h : ustrW P s t x n K) :
  ∃ b s' g' w', (Builtin.unsafeString_ #[t, t2] ty2 #[u, v]).run P w = .ok (.string b) w' ∧ LE g w g' w' ∧ Holds g' s' w' ∧ K (.lit (.string b)) s' := by
 unfold ustrW at h
 split at h
 ·rename_i i j f k
  split at h
  case h_2 => exact h.elim
  rename_i ty sz els hs
  obtain ⟨rfl, rfl, hk0, hk1, hkl, hbt, h⟩ := h
  obtain ⟨bs, hbs, hK⟩ := okv_ex h
  obtain ⟨_, rfl⟩ := hx.pt_inv
  obtain ⟨rfl, _⟩ := hn.lit_inv
  have hne : s i ≠ none := by rw [hs]; simp
  obtain ⟨_, _, _, arr, hz, hb, hsz, hl, he, h5⟩ := hH.blk i _ hs
  obtain ⟨k1, k2⟩ := bytesOf_some _ _ hbs
  have hbl : bs.length = k.toNat := by rw [← k2]; simp; omega
  have hb0 : bs ≠ [] := by
   intro e; rw [e] at hbl; simp at hbl; omega
  have hpt : P.underlying t = some (.pointer ty) ∧ P.cellsOf ty = 1 := by
   unfold bytePT at hbt
   split at hbt
   ·split at hbt
    ·cases hbt; exact ⟨‹_›, ‹_›⟩
    ·cases hbt
   ·cases hbt
  have hel : ∀ (m : Nat) (b : UInt8), bs[m]? = some b → els[m]? = some [.lit (.int .u8 b.toNat)] := by
   intro m b hm
   have hml : m < k.toNat := by rw [← hbl]; exact (List.getElem?_eq_some_iff.1 hm).1
   have hme : m < els.length := by omega
   have hc : (els.take k.toNat)[m]? = some els[m] := by rw [List.getElem?_take, if_pos hml]; exact List.getElem?_eq_getElem hme
   obtain ⟨b', hb1, hb2⟩ := k1 m _ hc
   rw [hm] at hb2
   cases hb2
   rw [List.getElem?_eq_getElem hme, hb1]
  have hsz1 : sz = 1 := by
   obtain ⟨b, hbm⟩ : ∃ b, bs[0]? = some b := by
    cases bs with
    | nil => exact absurd rfl hb0
    | cons b _ => exact ⟨b, rfl⟩
   have := he 0 _ (hel 0 b hbm)
   simpa using this.symm
  subst hsz1
  have hsh : w.shape? (g.mu i).blk = some (ty, arr.size) := by simp [World.shape?, hb]
  have haddr : (⟨(g.mu i).blk, 0 * (g.mu i).sz + 0, none⟩ : Addr) = ⟨(g.mu i).blk, 0, none⟩ := by simp
  have hrun := Lib.run_unsafeString_row w t t2 ty2 ty hpt.1 hpt.2 (g.mu i).blk arr.size hsh bs hb0 (by rw [hbl]; omega) (by omega) (fun m b hm => by
   obtain ⟨q, q1, q2, q3⟩ := h5 m _ 0 _ (hel m b hm) rfl
   obtain ⟨rfl, _⟩ := q3.lit_inv
   rw [add_plain]
   simp only [World.cell?, hb]
   simpa using q1)
  have hki : ((bs.length : Nat) : Int) = k := by rw [hbl]; omega
  rw [hki] at hrun
  rw [haddr]
  have hbn : ¬ bs.length = 0 := by omega
  have hheap : ∀ m, m ≠ (g.mu i).blk → (w.freeze ⟨(g.mu i).blk, 0, none⟩ bs.length).heap[m]? = w.heap[m]? := by
   intro m hm
   simp only [World.freeze, if_neg hbn, Array.getElem?_modify]
   rw [if_neg (Ne.symm hm)]
  have hle : LE g w g (w.freeze ⟨(g.mu i).blk, 0, none⟩ bs.length) :=
   ⟨⟨Nat.le_refl _, fun _ _ => rfl, fun _ h => h, fun m hm => hheap m (fun e => hH.apart i _ hs rfl (e ▸ hm))⟩, by simp only [World.freeze, if_neg hbn], by simp only [World.freeze, if_neg hbn], by simp only [World.freeze, if_neg hbn], by simp [World.freeze, hbn]⟩
  refine ⟨_, _, g, _, hrun, hle, ?_, hK⟩
  have hsub : ∀ m, (s.upd i none) m ≠ none → s m ≠ none ∧ m ≠ i := fun m hm => by
   by_cases h : m = i
   ·subst h; simp at hm
   ·rw [St.upd_ne _ _ h] at hm; exact ⟨hm, h⟩
  refine ⟨fun m hm => ?_, fun m hm => by simpa [World.freeze, hbn] using hH.zlt m hm, fun m b hm => ?_, fun m l hm hl => hH.inj m l (hsub m hm).1 (hsub l hl).1, fun m bb hm hr => hH.apart m bb ((St.upd_ne s none (hsub m (by rw [hm]; simp)).2).symm.trans hm) hr⟩
  ·by_cases h : m = i
   ·subst h; simp
   ·rw [St.upd_ne _ _ h]; exact hH.fresh m hm
  ·have hmi : m ≠ i := (hsub m (by rw [hm]; simp)).2
   rw [St.upd_ne _ _ hmi] at hm
   have hm0 : s m ≠ none := by rw [hm]; simp
   exact (hH.blk m b hm).le hle.toLEv (hH.lt hm0) (hheap _ (fun e => hmi (hH.inj m i hm0 hne e)))
 ·rename_i k
  obtain ⟨rfl, hK⟩ := h
  obtain ⟨rfl, _⟩ := hx.lit_inv
  obtain ⟨rfl, _⟩ := hn.lit_inv
  exact ⟨_, s, g, w, Lib.run_unsafeString_none w _ _ _ none, .refl _ _, hH, hK⟩
 ·exact h.elim
theorem cpy_sound (hH : Holds g s w) {t t2 ty : TypeId} {x y : PV} {u v : Value} (hx : VR w g x u) (hy : VR w g y v) {K : PV → St → Prop} (h : cpyW P s t x y K) :
  (Builtin.copy_ #[t, t2] ty #[u, v]).run P w = .ok (.int .i64 0) w ∧ K (.lit (.int .i64 0)) s := by
 unfold cpyW at h
 obtain ⟨el, hel, h⟩ := okv_ex h
 obtain ⟨n, hn, h⟩ := okv_ex h
 obtain ⟨ys, hys, rfl, hsl, hK⟩ := okv_ex h
 refine ⟨?_, hK⟩
 obtain ⟨_, h2, vs, h3, h4, _⟩ := elemsOf_sound (P := P) hH hy hys
 have l0 := h2 w rfl
 have c0 := h3 w rfl
 have : vs = #[] := Array.eq_empty_of_size_eq_zero (by simpa using h4)
 subst this
 obtain ⟨ba, dl, cp, rfl⟩ : ∃ a l c, u = .slice a l c := by
  cases x <;> cases hsl
  ·cases hx with | vec k xs A cap => exact ⟨_, _, _, rfl⟩
  ·cases hx with | sl => exact ⟨_, _, _, rfl⟩
 simp only [List.length_nil] at l0 c0
 cases ba <;> simp [Builtin.copy_, sliceT_run hel, l0, run_sizeOf hn, c0, storeCells, goInt]
theorem mapW_sound (hH : Holds g s w) {t : TypeId} {m k v : PV} {um uk uv : Value} (hm : VR w g m um) (hk : VR w g k uk) (hv : VR w g v uv) {K : PV → St → Prop} (h : mapW P s t m k v (K .junk)) {o : Oper}
  (hrun : ∀ w', (Instr.mapUpdate t um uk uv).run P w = .ok () w' → (execOp a.eval o).run P w = .ok .skip w') (hd : ∀ c, o.op ≠ .defer c) {next : Act → World → Prop} {Q : Exit → Act → World → Prop}
  (hn : ∀ (p : PV) (v : Value) (s' : St) (g' : G) (w' : World), LE g w g' w' → Holds g' s' w' → VR w' g' p v → K p s' → next (a.put o.dst v) w') : wpR P o a w next Q := by
 unfold mapW at h
 split at h
 ·split at h
  ·rename_i es hs
   obtain ⟨ht, hK⟩ := h
   obtain ⟨w', q1, q2, q3⟩ := mapUpdate_sound (P := P) hH hm hk hv ht hs
   refine ⟨hd, ?_⟩
   rw [hrun w' q1]
   exact hn .junk undef _ g w' q2 q3 (.junk _) hK
  ·exact h.elim
 ·split at h
  ·rename_i kd' es hs
   obtain ⟨rfl, ht, hK⟩ := h
   obtain ⟨⟨kd, x⟩, hx, hkd⟩ := Option.map_eq_some_iff.1 ht
   cases hkd
   obtain ⟨w', q1, q2, q3⟩ := mapUpdateI_sound (P := P) hH hm hk hv hx hs
   refine ⟨hd, ?_⟩
   rw [hrun w' q1]
   exact hn .junk undef _ g w' q2 q3 (.junk _) hK
  ·exact h.elim
 ·exact h.elim
theorem opw_sound (hH : Holds g s w) (hE : ER w g N e a) (o : Oper) {K : PV → St → Prop} {Kp : List PanicEntry → St → Prop} (h : opw P e s K Kp o.op) {next : Act → World → Prop} {Q : Exit → Act → World → Prop}
  (hn : ∀ (p : PV) (v : Value) (s' : St) (g' : G) (w' : World), LE g w g' w' → Holds g' s' w' → VR w' g' p v → K p s' → next (a.put o.dst v) w')
  (hp : ∀ (c : List PanicEntry) (s' : St) (g' : G) (w' : World), LE g w g' w' → Holds g' s' w' → Kp c s' → Q (.panic c) a w') : wpR P o a w next Q := by
 have quiet : (∃ v, qop P e s o.op = some v ∧ K v s) → wpR P o a w next Q := by
  rintro ⟨v, hv, hK⟩
  obtain ⟨u, hu, hr⟩ := qop_sound (P := P) hH hE o hv
  refine ⟨fun c hc => (by rw [hc] at hv; cases hv), ?_⟩
  rw [hu]
  exact hn v u s g w (.refl _ _) hH hr hK
 obtain ⟨dst, op, ty, pos, after, guard⟩ := o
 simp only at h quiet hn
 unfold opw at h
 split at h
 ·rename_i t
  obtain ⟨z, hz, hso, hK⟩ := okv_ex h
  obtain ⟨w', g', h1, h2, h3, h4⟩ := box_sound (P := P) hH (VR.ofVal w g z) hso t
  have : (execOp a.eval ⟨dst, .alloc t, ty, pos, after, guard⟩).run P w = .ok (.value (.pointer (some ⟨w.heap.size, 0, none⟩))) w' := by
   simp only [execOp, Instr.alloc, Sem.run_bind, run_zeroValue hz, Result.andThen_ok, h1, Sem.run_pure]
  refine ⟨fun c hc => (by cases hc), ?_⟩
  rw [this]
  exact hn _ _ _ g' w' h2 h3 h4 (hK g.n (hH.fresh _ (Nat.le_refl _)))
 ·rename_i t x
  obtain ⟨hso, hK⟩ := h
  obtain ⟨w', g', h1, h2, h3, h4⟩ := box_sound (P := P) hH (hE.ev x) hso t
  have : (execOp a.eval ⟨dst, .box t x, ty, pos, after, guard⟩).run P w = .ok (.value (.pointer (some ⟨w.heap.size, 0, none⟩))) w' := by
   simp only [execOp, Instr.box, Sem.run_bind, Result.andThen_ok, h1, Sem.run_pure]
  refine ⟨fun c hc => (by cases hc), ?_⟩
  rw [this]
  exact hn _ _ _ g' w' h2 h3 h4 (hK g.n (hH.fresh _ (Nat.le_refl _)))
 ·rename_i t p x
  have hpv := hE.ev p
  obtain ⟨i, j, f, ty', sz, els, cs, hpe, h1, h2, h3, h4, h5, hK⟩ := storeW_ex h
  rw [hpe] at hpv
  obtain ⟨w', q1, q2, q3⟩ := store_sound (P := P) hH hpv (hE.ev x) h4 h3 h1 h2 h5
  have : (execOp a.eval ⟨dst, .store t p x, ty, pos, after, guard⟩).run P w = .ok .skip w' := by
   simp only [execOp, Sem.run_bind, q1, Result.andThen_ok, Sem.run_pure]
  refine ⟨fun c hc => (by cases hc), ?_⟩
  rw [this]
  exact hn .junk undef _ g w' q2 q3 (.junk _) hK
 ·rename_i t parts
  obtain ⟨v, hv, hK⟩ := okv_ex h
  obtain ⟨u, hu, hr⟩ := bld_sound (P := P) hE hv
  have : (execOp a.eval ⟨dst, .build t parts, ty, pos, after, guard⟩).run P w = .ok (.value u) w := by
   simp only [execOp, Sem.run_bind, hu, Result.andThen_ok, Sem.run_pure]
  refine ⟨fun c hc => (by cases hc), ?_⟩
  rw [this]
  exact hn v u s g w (.refl _ _) hH hr hK
 ·rename_i t len parts
  obtain ⟨v, hv, hK⟩ := okv_ex h
  obtain ⟨u, g', w', hu, h1, h2, h3⟩ := mkSlice_sound (P := P) hH hE hv
  have : (execOp a.eval ⟨dst, .buildSlice t len parts, ty, pos, after, guard⟩).run P w = .ok (.value u) w' := by
   simp only [execOp, Sem.run_bind, hu, Result.andThen_ok, Sem.run_pure]
  refine ⟨fun c hc => (by cases hc), ?_⟩
  rw [this]
  exact hn v u s g' w' h1 h2 h3 hK
 ·rename_i c x y
  obtain ⟨t, hc, ht, hf⟩ : ∃ t, e.ev c = .lit (.bool t) ∧ (t = true → K (e.ev x) s) ∧ (t = false → K (e.ev y) s) := by
   split at h
   ·exact ⟨_, ‹_›, h⟩
   ·exact h.elim
  have hv := hE.ev c
  rw [hc] at hv
  obtain ⟨hcv, _⟩ := hv.lit_inv
  have : (execOp a.eval ⟨dst, .pick c x y, ty, pos, after, guard⟩).run P w = .ok (.value (if t then a.eval x else a.eval y)) w := by
   simp only [execOp, Sem.run_bind, hcv, asBool, Sem.run_pure, Result.andThen_ok]
  refine ⟨fun c hc => (by cases hc), ?_⟩
  rw [this]
  cases t with
  | true => exact hn _ _ s g w (.refl _ _) hH (hE.ev x) (ht rfl)
  | false => exact hn _ _ s g w (.refl _ _) hH (hE.ev y) (hf rfl)
 ·rename_i c
  obtain ⟨cal, ⟨args⟩, ⟨ats⟩⟩ := c
  simp only at h
  split at h
  ·split at h
   ·rename_i x y t t2
    obtain ⟨q, r, s', g', w', h1, h2, h3, h4, h5⟩ := append_sound (P := P) (ty := ty) hH (hE.ev x) (hE.ev y) h
    have : (execOp a.eval ⟨dst, .call ⟨.builtin .append, ⟨[x, y]⟩, ⟨[t, t2]⟩⟩, ty, pos, after, guard⟩).run P w = .ok (.value q) w' := by
     simp only [execOp, resolve, invoke, builtin, Sem.run_bind, Sem.run_pure, Result.andThen_ok, List.map_toArray, List.map_cons, List.map_nil, h1]
    refine ⟨fun c hc => (by cases hc), ?_⟩
    rw [this]
    exact hn r q s' g' w' h2 h3 h4 h5
   ·exact h.elim
  ·split at h
   ·rename_i x n t t2
    obtain ⟨b, s', g', w', h1, h2, h3, h4⟩ := ustr_sound (P := P) (t2 := t2) (ty2 := ty) hH (hE.ev x) (hE.ev n) h
    have : (execOp a.eval ⟨dst, .call ⟨.builtin .unsafeString, ⟨[x, n]⟩, ⟨[t, t2]⟩⟩, ty, pos, after, guard⟩).run P w = .ok (.value (.string b)) w' := by
     simp only [execOp, resolve, invoke, builtin, Sem.run_bind, Sem.run_pure, Result.andThen_ok, List.map_toArray, List.map_cons, List.map_nil, h1]
    refine ⟨fun c hc => (by cases hc), ?_⟩
    rw [this]
    exact hn _ _ s' g' w' h2 h3 (.lit _ rfl) h4
   ·exact h.elim
  ·split at h
   ·rename_i x y t t2
    obtain ⟨h1, h2⟩ := cpy_sound (P := P) (t2 := t2) (ty := ty) hH (hE.ev x) (hE.ev y) h
    have : (execOp a.eval ⟨dst, .call ⟨.builtin .copy, ⟨[x, y]⟩, ⟨[t, t2]⟩⟩, ty, pos, after, guard⟩).run P w = .ok (.value (.int .i64 0)) w := by
     simp only [execOp, resolve, invoke, builtin, Sem.run_bind, Sem.run_pure, Result.andThen_ok, List.map_toArray, List.map_cons, List.map_nil, h1]
    refine ⟨fun c hc => (by cases hc), ?_⟩
    rw [this]
    exact hn _ _ s g w (.refl _ _) hH (.lit _ rfl) h2
   ·exact h.elim
  ·rename_i f
   have hfv := hE.ev f
   generalize hpe : e.ev f = ff at h hfv
   unfold callW at h
   split at h
   ·rename_i fid fs cs
    generalize hfe : a.eval f = fv at hfv
    cases hfv with
    | fn _ _ _ fvs cvs h1 h2 h3 h4 =>
     obtain ⟨m1, m2⟩ := args_map hE ⟨args⟩
     have hargs : Args w g (fs ++ args.map e.ev ++ cs) (fvs ++ (List.map a.eval args).toArray ++ cvs) := by
      refine ⟨by simp [h1, h2], fun i p v hpi hvi => ?_⟩
      simp only [List.map_toArray] at m1 m2
      by_cases hi1 : i < fs.length
      ·rw [List.append_assoc, List.getElem?_append_left hi1] at hpi
       rw [Array.append_assoc, Array.getElem?_append_left (by omega)] at hvi
       exact h3 i p v hpi hvi
      ·by_cases hi2 : i < fs.length + args.length
       ·rw [List.append_assoc, List.getElem?_append_right (by omega), List.getElem?_append_left (by simp; omega)] at hpi
        rw [Array.append_assoc, Array.getElem?_append_right (by omega), Array.getElem?_append_left (by simp; omega), h1] at hvi
        exact m2 _ p v hpi hvi
       ·rw [List.getElem?_append_right (by simp; omega)] at hpi
        rw [Array.getElem?_append_right (by simp; omega)] at hvi
        simp only [List.length_append, List.length_map, Array.size_append, List.size_toArray, h1] at hpi hvi
        exact h4 _ p v hpi hvi
     rcases h with ⟨hent, h⟩ | h
     case inr =>
      obtain ⟨p, v, s', g', w', q1, q2, q3, q4, q5⟩ := h g w _ hH hargs
      have hrun : (execOp a.eval ⟨dst, .call ⟨.value f, ⟨args⟩, ⟨ats⟩⟩, ty, pos, after, guard⟩).run P w = .ok (.value v) w' := by
       simp only [execOp, resolve, hfe, Deferred.ofValue, invoke, Sem.run_bind, Sem.run_pure, Result.andThen_ok, List.map_toArray, q1]
      refine ⟨fun c hc => (by cases hc), ?_⟩
      rw [hrun]
      exact hn p v s' g' w' q2 q3 q4 q5
     have hrun : (execOp a.eval ⟨dst, .call ⟨.value f, ⟨args⟩, ⟨ats⟩⟩, ty, pos, after, guard⟩).run P w = .ok (.enter fid (fvs ++ (List.map a.eval args).toArray ++ cvs)) w := by
      simp only [execOp, resolve, hfe, Deferred.ofValue, invoke, Sem.run_bind, Sem.run_pure, Result.andThen_ok, List.map_toArray, run_enters hent]
     refine ⟨fun c hc => (by cases hc), ?_⟩
     rw [hrun]
     refine ⟨fun h => (by cases h), (calls_fen (h g w _ hH hargs)).mono ?_⟩
     rintro ex w' ⟨res, s', g', k1, k2, k3, k4⟩
     cases k3 with
     | ret p v hv => exact hn p v s' g' w' k1 k2 hv k4
     | pan c => exact hp c s' g' w' k1 k2 k4
   ·rename_i i
    generalize hfe : a.eval f = fv at hfv
    cases hfv with
    | yld _ hi =>
     obtain ⟨m1, m2⟩ := args_map hE ⟨args⟩
     have hargs : Args w g (args.map e.ev) (List.map a.eval args).toArray := by
      simp only [List.map_toArray] at m1 m2
      exact ⟨by simp, m2⟩
     obtain ⟨l, fid, tmps, asg, body, q1, q2⟩ := h g w _ hH hi hargs
     have hrun : (execOp a.eval ⟨dst, .call ⟨.value f, ⟨args⟩, ⟨ats⟩⟩, ty, pos, after, guard⟩).run P w = .ok (.round l fid tmps asg body) w := by
      simp only [execOp, resolve, hfe, Deferred.ofValue, invoke, Sem.run_bind, Sem.run_pure, Result.andThen_ok, List.map_toArray, Array.append_empty, Array.empty_append, q1]
     refine ⟨fun c hc => (by cases hc), ?_⟩
     rw [hrun]
     refine ⟨fun h => (by cases h), q2.mono ?_⟩
     rintro ex w' ⟨p, v, s', g', rfl, k1, k2, k3, k4⟩
     exact hn p v s' g' w' k1 k2 k3 k4
   ·exact h.elim
  ·exact quiet (okv_ex h)
 ·rename_i op t x y t2
  unfold binW at h
  split at h
  ·rename_i k xs hx hy
   obtain ⟨hsl, h⟩ := h
   obtain ⟨el, hel⟩ := Option.isSome_iff_exists.1 hsl
   have h1 := hE.ev x
   have h2 := hE.ev y
   rw [hx] at h1
   rw [hy] at h2
   generalize hvx : a.eval x = vx at h1
   generalize hvy : a.eval y = vy at h2
   cases h1 with
   | vec _ _ A cap sz f hc hk hnn h0 hs hm hr =>
    cases h2 with
    | vec _ _ A2 cap2 sz2 f2 hc2 hk2 hnn2 h02 hs2 hm2 hr2 =>
     obtain ⟨rfl, _⟩ := hnn2 rfl
     have hcap2 := h02 rfl
     subst hcap2
     replace hvy : a.eval y = .slice none 0 0 := hvy
     have hq : ∀ (d : Nat) (w : World), (Op.equalIn (d + 1) t (.slice A xs.length cap) (.slice none 0 0)).run P w = .ok A.isNone w := fun d w => by
      cases A <;> simp [Op.equalIn, sliceT_run hel]
     have hq' : ∀ w : World, (Op.equal t (.slice A xs.length cap) (.slice none 0 0)).run P w = .ok A.isNone w := fun w => hq 9999 w
     have p1 : k = .nil → A.isNone = true := fun hk => by rw [(hnn hk).1]; rfl
     have p2 : xs ≠ [] → A.isNone = false := fun hne => by
      cases A with
      | none => exact absurd (List.eq_nil_of_length_eq_zero (by have := h0 rfl; omega)) hne
      | some _ => rfl
     unfold eqNilW at h
     split at h
     ·have hr : (execOp a.eval ⟨dst, .binOp .eql t x y t2, ty, pos, after, guard⟩).run P w = .ok (.value (.bool A.isNone)) w := by
       simp only [execOp, hvx, hvy, eqGuard, binOp, Sem.run_bind]
       simp [hq']
      refine ⟨fun c hc => (by cases hc), ?_⟩
      rw [hr]
      exact hn _ _ s g w (.refl _ _) hH (.lit _ rfl) (h _ p1 p2)
     ·have hr : (execOp a.eval ⟨dst, .binOp .neq t x y t2, ty, pos, after, guard⟩).run P w = .ok (.value (.bool !A.isNone)) w := by
       simp only [execOp, hvx, hvy, eqGuard, binOp, Sem.run_bind]
       simp [hq']
      refine ⟨fun c hc => (by cases hc), ?_⟩
      rw [hr]
      exact hn _ _ s g w (.refl _ _) hH (.lit _ rfl) (h _ p1 p2)
     ·exact h.elim
  ·exact quiet (okv_ex h)
 ·rename_i t
  split at h
  ·rename_i hK0
   obtain ⟨g', w', h1, h2, h3, h4⟩ := makeMap_sound (P := P) hH t
   have : (execOp a.eval ⟨dst, .makeMap t none, ty, pos, after, guard⟩).run P w = .ok (.value (.map (some (g'.mu g.n).blk))) w' := by
    simp only [execOp, Option.map_none, Sem.run_bind, h1, Result.andThen_ok, Sem.run_pure]
   refine ⟨fun c hc => (by cases hc), ?_⟩
   rw [this]
   exact hn _ _ _ g' w' h2 h3 h4 (h g.n (hH.fresh _ (Nat.le_refl _)))
  ·obtain ⟨x, hx, hK⟩ := okv_ex h
   obtain ⟨g', w', h1, h2, h3, h4⟩ := makeMapI_sound (P := P) hH t x.1
   have : (execOp a.eval ⟨dst, .makeMap t none, ty, pos, after, guard⟩).run P w = .ok (.value (.map (some (g'.mu g.n).blk))) w' := by
    simp only [execOp, Option.map_none, Sem.run_bind, h1, Result.andThen_ok, Sem.run_pure]
   refine ⟨fun c hc => (by cases hc), ?_⟩
   rw [this]
   exact hn _ _ _ g' w' h2 h3 h4 (hK g.n (hH.fresh _ (Nat.le_refl _)))
 ·rename_i t l c
  have hl := hE.ev l
  have hc := hE.ev c
  unfold mkW at h
  obtain ⟨el, q1, h⟩ := okv_ex h
  obtain ⟨n, q2, h⟩ := okv_ex h
  obtain ⟨b, q3, h⟩ := okv_ex h
  obtain ⟨z, q4, q5, q6, h⟩ := okv_ex h
  split at h
  ·rename_i x y hx hy
   obtain ⟨rfl, h0, hm, hbd, hK⟩ := h
   obtain ⟨m, rfl⟩ : ∃ m : Nat, x = m := ⟨x.toNat, by omega⟩
   rw [hx] at hl
   rw [hy] at hc
   obtain ⟨hvl, _⟩ := hl.lit_inv
   obtain ⟨hvc, _⟩ := hc.lit_inv
   obtain ⟨g', w', v, h1, h2, h3, h4⟩ := makeSlice_sound (P := P) hH q1 q2 q3 q4 q5 q6 (a := m) (by omega) (by have h5 := hbd; rw [← Int.natCast_mul] at h5; omega)
   have : (execOp a.eval ⟨dst, .makeSlice t l c, ty, pos, after, guard⟩).run P w = .ok (.value v) w' := by
    simp only [execOp, Sem.run_bind, hvl, hvc, h1, Result.andThen_ok, Sem.run_pure]
   refine ⟨fun c hc => (by cases hc), ?_⟩
   rw [this]
   rw [Int.toNat_natCast] at hK
   exact hn _ _ _ g' w' h2 h3 h4 (hK g.n (hH.fresh _ (Nat.le_refl _)))
  ·exact h.elim
 ·rename_i t m k v
  exact mapW_sound hH (hE.ev m) (hE.ev k) (hE.ev v) (by exact h) (fun w' h1 => by simp only [execOp, Sem.run_bind, h1, Result.andThen_ok, Sem.run_pure]) (fun c hc => by cases hc) hn
 ·rename_i t m k v
  exact mapW_sound hH (hE.ev m) (hE.ev k) (hE.ev v) (by exact h) (fun w' h1 => by simp only [execOp, Sem.run_bind, h1, Result.andThen_ok, Sem.run_pure]) (fun c hc => by cases hc) hn
 ·rename_i src dt x
  have hx := hE.ev x
  have bytes : (∀ b, e.ev x ≠ .lit (.string b)) → (∃ v, convB P s src dt (e.ev x) = some v ∧ K v s) → wpR P ⟨dst, .convert src dt x, ty, pos, after, guard⟩ a w next Q := by
   rintro hne ⟨v, hv, hK⟩
   obtain ⟨u, hu, hr⟩ := convB_sound (P := P) hH hx hne hv
   refine ⟨fun c hc => (by cases hc), ?_⟩
   have : (execOp a.eval ⟨dst, .convert src dt x, ty, pos, after, guard⟩).run P w = .ok (.value u) w := by
    simp only [execOp, Sem.run_bind, hu, Result.andThen_ok, Sem.run_pure]
   rw [this]
   exact hn v u s g w (.refl _ _) hH hr hK
  split at h
  ·rename_i i sz off len hp
   rw [hp] at bytes
   exact bytes (by simp) (okv_ex h)
  ·rename_i k xs hp
   rw [hp] at bytes
   exact bytes (by simp) (okv_ex h)
  ·rename_i i j f hp
   obtain ⟨h1, hK⟩ := h
   rw [hp] at hx
   have hc := cv_sound (P := P) hH hx h1
   refine ⟨fun c hc => (by cases hc), ?_⟩
   have : (execOp a.eval ⟨dst, .convert src dt x, ty, pos, after, guard⟩).run P w = .ok (.value (a.eval x)) w := by
    simp only [execOp, Sem.run_bind, hc, Result.andThen_ok, Sem.run_pure]
   rw [this]
   exact hn _ _ s g w (.refl _ _) hH hx hK
  ·exact quiet (okv_ex h)
 ·exact quiet (okv_ex h)
def pws (P : Program) (dst : Nat → Option Tmp) (N : Nat) : List Oper → Env → St → (Env → St → Prop) → (List PanicEntry → Env → St → Prop) → Prop
 | [], e, s, K, _ => K e s
 | o :: os, e, s, K, Kp => (∀ t, o.dst = some t → t < N) ∧ (match o.guard with
  | none => opw P e s (fun v s' => pws P dst N os (e.put o.dst v) s' K Kp) (fun c s' => Kp c e s') o.op
  | some (j, want) => okv (dst j) fun d => (match e d with
   | .lit (.bool t) => (t = want → opw P e s (fun v s' => pws P dst N os (e.put o.dst v) s' K Kp) (fun c s' => Kp c e s') o.op) ∧ (t = !want → pws P dst N os (e.put o.dst (.tup [])) s K Kp)
   | .tup [] => pws P dst N os (e.put o.dst (.tup [])) s K Kp
   | _ => False))
theorem put_defers (a : Act) (d : Option Tmp) (v : Value) : (a.put d v).defers = a.defers := by cases d <;> rfl
theorem pws_sound {B : Nat} {ops : Array Oper} (g0 : G) (w0 : World) {Q : Exit → Env → St → Prop} : ∀ (l : List Oper) (e : Env) (s : St) (g : G) (a : Act) (w : World), LE g0 w0 g w → Holds g s w → ER w g N e a → DK B g w a.defers →
  pws P (fun j => (ops[j]?).bind (·.dst)) N l e s (Q .normal) (fun c e s => Q (.panic c) e s) → wpListR P ops (PQ N B g0 w0 Q) l a w
 | [], e, s, g, a, w, hle, hH, hE, hd, h => ⟨e, s, g, hle, hH, hE, hd, h⟩
 | o :: os, e, s, g, a, w, hle, hH, hE, hd, h => by
  obtain ⟨hdst, h⟩ := h
  have main : opw P e s (fun v s' => pws P (fun j => (ops[j]?).bind (·.dst)) N os (e.put o.dst v) s' (Q .normal) (fun c e s => Q (.panic c) e s)) (fun c s' => Q (.panic c) e s') o.op → wpR P o a w (wpListR P ops (PQ N B g0 w0 Q) os) (PQ N B g0 w0 Q) := fun h =>
   opw_sound hH hE o h (fun p v s' g' w' k1 k2 k3 k4 => pws_sound g0 w0 os _ s' g' _ w' (hle.trans k1) k2 ((hE.le k1.toLEv).put hdst k3) (by rw [put_defers]; exact hd.le k1) k4)
    (fun c s' g' w' k1 k2 k3 => ⟨e, s', g', hle.trans k1, k2, hE.le k1.toLEv, hd.le k1, k3⟩)
  unfold wpListR
  split at h
  ·rename_i hg
   rw [if_pos (by simp [Region.wanted, hg])]
   exact main h
  ·rename_i j want hg
   obtain ⟨d, hdj, h⟩ := okv_ex h
   have hu : VR w g (.tup []) undef := .tup [] #[] rfl (by simp)
   split at h
   case h_3 => exact h.elim
   case h_2 hed =>
    have hv := hE.vr d
    rw [hed] at hv
    have hvd : a.tmps.getD d undef = .tuple #[] := by
     generalize a.tmps.getD d undef = u at hv
     cases hv with
     | tup _ vs h1 h3 =>
      have : vs = #[] := Array.eq_empty_of_size_eq_zero (by simpa using h1)
      rw [this]
    have hy : yielded ops a.tmps j = none := by
     unfold yielded
     have hdj' : (ops[j]?).bind (·.dst) = some d := hdj
     rw [hdj']
     simp only [Option.bind_some]
     rw [Array.getD_eq_getD_getElem?] at hvd
     cases ht : a.tmps[d]? with
     | none => rfl
     | some v => rw [ht] at hvd; cases hvd; rfl
    rw [if_neg (by simp [Region.wanted, hg, hy])]
    exact pws_sound g0 w0 os _ s g _ w hle hH (hE.put hdst hu) (by rw [put_defers]; exact hd) h
   rename_i t hed
   obtain ⟨h1, h2⟩ := h
   have hv := hE.vr d
   rw [hed] at hv
   obtain ⟨hvd, _⟩ := hv.lit_inv
   have hy : yielded ops a.tmps j = some t := by
    unfold yielded
    have hdj' : (ops[j]?).bind (·.dst) = some d := hdj
    rw [hdj']
    simp only [Option.bind_some]
    rw [Array.getD_eq_getD_getElem?] at hvd
    cases ht : a.tmps[d]? with
    | none => rw [ht] at hvd; cases hvd
    | some v => rw [ht] at hvd; cases hvd; rfl
   by_cases hw : t = want
   ·rw [if_pos (by simp [Region.wanted, hg, hy, hw])]
    exact main (h1 hw)
   ·rw [if_neg (by simp [Region.wanted, hg, hy, hw])]
    exact pws_sound g0 w0 os _ s g _ w hle hH (hE.put hdst hu) (by rw [put_defers]; exact hd) (h2 (by cases t <;> cases want <;> simp_all))
def pwC (P : Program) (N : Nat) : Code → Env → St → (Exit → Env → St → Prop) → Prop
 | .skip, e, s, Q => Q .normal e s
 | .region _ ops false, e, s, Q => pws P (fun j => (ops[j]?).bind (·.dst)) N ops.toList e s (Q .normal) (fun c e s => Q (.panic c) e s)
 | .seq x y, e, s, Q => pwC P N x e s (thenQ (fun e s => pwC P N y e s Q) Q)
 | .cond c x y, e, s, Q => (match e.ev c with
  | .lit (.bool t) => (t = true → pwC P N x e s Q) ∧ (t = false → pwC P N y e s Q)
  | _ => False)
 | .block id c, e, s, Q => pwC P N c e s (inB id Q)
 | .exit id, e, s, Q => Q (.exit id) e s
 | .ret, e, s, Q => Q .ret e s
 | c, e, s, Q => PW P N c e s Q
theorem PW.region {id : Nat} {ops : Array Oper} {Q : Exit → Env → St → Prop} (h : pws P (fun j => (ops[j]?).bind (·.dst)) N ops.toList e s (Q .normal) (fun c e s => Q (.panic c) e s)) : PW P N (.region id ops false) e s Q :=
 fun r B g a w hr hH hE hd => wpR_region (pws_sound g w ops.toList e s g a w (.refl _ _) hH hE hd h)
theorem pwC_sound : ∀ (c : Code) (e : Env) (s : St) (Q : Exit → Env → St → Prop), pwC P N c e s Q → PW P N c e s Q
 | .skip, e, s, Q, h => PW.skip h
 | .region _ ops false, e, s, Q, h => PW.region h
 | .region _ ops true, e, s, Q, h => h
 | .seq x y, e, s, Q, h => PW.seq (PW.mono (pwC_sound x e s _ h) fun ex e s hq => by
   cases ex <;> first | exact pwC_sound y e s Q hq | exact hq)
 | .cond c x y, e, s, Q, h => by
  unfold pwC at h
  split at h
  ·exact PW.cond ‹_› (fun ht => pwC_sound x e s Q (h.1 ht)) (fun ht => pwC_sound y e s Q (h.2 ht))
  ·exact h.elim
 | .block id c, e, s, Q, h => PW.block (pwC_sound c e s _ h)
 | .exit id, e, s, Q, h => PW.exit h
 | .ret, e, s, Q, h => PW.ret h
 | .loop c, e, s, Q, h => h
 | .rangeFunc _ _ _ _, e, s, Q, h => h
 | .scope c, e, s, Q, h => h
 | .label _, e, s, Q, h => h
 | .goto _, e, s, Q, h => h
 | .refuse _, e, s, Q, h => h
end
end Go.Pv

namespace Go.Pv
set_option linter.unusedVariables false
set_option linter.unusedSimpArgs false
def resP1 (P : Program) (e : Env) (s : St) : ResultVar → Option PV
 | .tmp t => some (e t)
 | .cell a t => (tsz P t).bind fun n => (aggT P t).bind fun ag => (cellsAt s (e a) n).bind fun cs => pack ag cs
def resP (P : Program) (e : Env) (s : St) : List ResultVar → Option (List PV)
 | [] => some []
 | r :: rs => (resP1 P e s r).bind fun p => (resP P e s rs).map fun ps => p :: ps
def one : List PV → PV
 | [p] => p
 | ps => .tup ps
def retQ (P : Program) (rs : List ResultVar) (R : Res → St → Prop) : Exit → Env → St → Prop
 | .normal, e, s => ∃ ps, resP P e s rs = some ps ∧ ∃ s', s'.sub s ∧ R (.ret (one ps)) s'
 | .ret, e, s => ∃ ps, resP P e s rs = some ps ∧ ∃ s', s'.sub s ∧ R (.ret (one ps)) s'
 | .panic c, e, s => ∃ s', s'.sub s ∧ R (.pan c) s'
 | _, _, _ => False
def resSem (tmps : Array Value) (r : ResultVar) : Sem Value := match r with
 | .tmp t => pure (tmps.getD t undef)
 | .cell c t => do loadVar t (← asAddr (tmps.getD c undef))
def oneV : List Value → Value
 | [v] => v
 | vs => .tuple vs.toArray
section
variable {P : Program} {w : World} {g : G} {s : St} {N : Nat} {e : Env} {a : Act}
theorem resP_sound (hH : Holds g s w) (hE : ER w g N e a) : ∀ (rs : List ResultVar) (ps : List PV), resP P e s rs = some ps →
  ∃ vs : List Value, (rs.mapM (resSem a.tmps)).run P w = .ok vs w ∧ vs.length = ps.length ∧ ∀ (i : Nat) (p : PV) (v : Value), ps[i]? = some p → vs[i]? = some v → VR w g p v
 | [], ps, h => by cases h; exact ⟨[], rfl, rfl, fun i p v h => by simp at h⟩
 | r :: rs, ps, h => by
  simp only [resP] at h
  replace h := Option.bind_eq_some_iff.1 h; obtain ⟨p, hp, h⟩ := h
  cases hr : resP P e s rs with
  | none => rw [hr] at h; cases h
  | some qs =>
   rw [hr] at h
   cases h
   obtain ⟨vs, h1, h2, h3⟩ := resP_sound hH hE rs qs hr
   have hone : ∃ v, (resSem a.tmps r).run P w = .ok v w ∧ VR w g p v := by
    cases r with
    | tmp t => cases hp; exact ⟨_, rfl, hE.vr t⟩
    | cell c t =>
     simp only [resP1] at hp
     replace hp := Option.bind_eq_some_iff.1 hp; obtain ⟨n, hn, hp⟩ := hp
     replace hp := Option.bind_eq_some_iff.1 hp; obtain ⟨ag, ha, hp⟩ := hp
     replace hp := Option.bind_eq_some_iff.1 hp; obtain ⟨cs, hc, hp⟩ := hp
     obtain ⟨v, hv, hr⟩ := run_load_pv (P := P) hH (hE.vr c) hn ha hc hp
     obtain ⟨_, ad, had, _⟩ := cellsAt_vr hH (hE.vr c) hc
     refine ⟨v, ?_, hr⟩
     rw [had] at hv
     simp only [resSem, had]
     simpa [Instr.loadAt, Instr.sureAddr, asAddr] using hv
   obtain ⟨v, hv, hr⟩ := hone
   refine ⟨v :: vs, ?_, by simp [h2], fun i p' v' hp' hv' => ?_⟩
   ·simp only [List.mapM_cons, Sem.run_bind, hv, Result.andThen_ok, h1, Sem.run_pure]
   ·cases i with
    | zero => cases hp'; cases hv'; exact hr
    | succ i => exact h3 i p' v' hp' hv'
theorem results_run (fn : Func) (tmps : Array Value) {vs : List Value} (h : (fn.results.toList.mapM (resSem tmps)).run P w = .ok vs w) : (results fn tmps).run P w = .ok (oneV vs) w := by
 show (do let vs ← fn.results.mapM (resSem tmps); pure (if h : vs.size = 1 then vs[0] else .tuple vs) : Sem Value).run P w = _
 rw [Array.mapM_eq_mapM_toList]
 simp only [map_eq_pure_bind, bind_assoc, pure_bind, Sem.run_bind, h, Result.andThen_ok, Sem.run_pure]
 clear h
 match vs with
 | [] => rfl
 | [v] => rfl
 | u :: v :: r => simp [oneV]
theorem one_vr {ps : List PV} {vs : List Value} (hl : vs.length = ps.length) (h : ∀ (i : Nat) (p : PV) (v : Value), ps[i]? = some p → vs[i]? = some v → VR w g p v) : VR w g (one ps) (oneV vs) := by
 match ps, vs, hl with
 | [], [], _ => exact .tup _ _ rfl (fun i c v hc => by simp at hc)
 | [p], [v], _ => exact h 0 p v rfl rfl
 | p :: q :: r, u :: v :: t, hl => exact .tup _ _ (by simpa using hl) (fun i c x hc hx => h i c x hc (by simpa using hx))
theorem start_er {args : List PV} {vs : Array Value} {n : Nat} (hA : Args w g args vs) (hn : args.length ≤ n) : ER w g n (Env.start args) { tmps := vs ++ Array.replicate (n - vs.size) undef, defers := [] } := by
 obtain ⟨h1, h2⟩ := hA
 refine ⟨by simp [h1]; omega, fun t => ?_⟩
 unfold Env.start
 by_cases ht : t < args.length
 ·have hv : vs[t]? = some vs[t] := Array.getElem?_eq_getElem (by omega)
  have : (vs ++ Array.replicate (n - vs.size) undef).getD t undef = vs[t] := by
   rw [Array.getD_eq_getD_getElem?, Array.getElem?_append_left (by omega), hv]; rfl
  simp only [this]
  rw [List.getD_eq_getElem?_getD, List.getElem?_eq_getElem ht]
  exact h2 t _ _ (List.getElem?_eq_getElem ht) hv
 ·rw [List.getD_eq_getElem?_getD, List.getElem?_eq_none (by omega)]
  exact .junk _
def G.drop (g : G) (D : Nat) : G := ⟨fun k => g.Z k ∧ k ≠ D, g.mu, g.n, g.gl⟩
def dropW (w : World) (D : Nat) : World := w.putObj D (.deferred none)
theorem cell_ne {x : Addr} {v : Value} {D : Nat} {y : Option (List Deferred)} (h : w.cell? x = some v) (hD : w.heap[D]? = some (.deferred y)) : x.block ≠ D := by
 intro e
 subst e
 simp [World.cell?, hD] at h
theorem cell_drop {x : Addr} {v : Value} {D : Nat} {y : Option (List Deferred)} (h : w.cell? x = some v) (hD : w.heap[D]? = some (.deferred y)) : (dropW w D).cell? x = some v := by
 unfold dropW
 rw [World.cell?_of_block (w := w) (World.putObj_heap_other (cell_ne h hD))]
 exact h
theorem VR.drop {D : Nat} {y : Option (List Deferred)} (hD : w.heap[D]? = some (.deferred y)) {p : PV} {v : Value} (h : VR w g p v) : VR (dropW w D) (g.drop D) p v := by
 induction h with
 | junk v => exact .junk v
 | lit v h => exact .lit v h
 | agg cs vs hl h1 h ih => exact .agg cs vs hl h1 ih
 | tup cs vs hl h ih => exact .tup cs vs hl ih
 | vec k xs A cap sz f hc hk hn h0 hs hm h ih =>
  refine .vec k xs A cap sz f hc hk hn h0 hs (fun i x j c hx hj => ?_) ih
  obtain ⟨a, ha, hz, hcell, h1⟩ := hm i x j c hx hj
  exact ⟨a, ha, ⟨hz, by have := cell_ne hcell hD; rwa [add_zero_add] at this⟩, cell_drop hcell hD, h1⟩
 | sl i sz off len cap hi hc hz hb => exact .sl (g := g.drop D) i sz off len cap hi hc hz hb
 | pt i j f hi => exact .pt (g := g.drop D) i j f hi
 | ep cs a f hm h ih =>
  refine .ep cs a f (fun j c hj => ?_) ih
  obtain ⟨hz, hcell, h1⟩ := hm j c hj
  exact ⟨⟨hz, by have := cell_ne hcell hD; rwa [add_zero_add] at this⟩, cell_drop hcell hD, h1⟩
 | fn f fs cs fv cv h1 h2 h3 h4 i3 i4 => exact .fn f fs cs fv cv h1 h2 i3 i4
 | mp i hi => exact .mp (g := g.drop D) i hi
 | yld i hi => exact .yld (g := g.drop D) i hi
theorem BR.drop {D : Nat} {y : Option (List Deferred)} (hD : w.heap[D]? = some (.deferred y)) {i : Nat} {b : Blk} (h : BR w g i b) : BR (dropW w D) (g.drop D) i b := by
 have key : ∀ {o : Obj}, w.heap[(g.mu i).blk]? = some o → (∀ y, o ≠ .deferred y) → (g.mu i).blk ≠ D ∧ (dropW w D).heap[(g.mu i).blk]? = some o := fun {o} ho hn => by
  have hne : (g.mu i).blk ≠ D := fun e => by rw [e, hD] at ho; cases ho; exact hn _ rfl
  exact ⟨hne, by rw [← ho]; exact World.putObj_heap_other hne⟩
 cases h with
 | row ty sz els arr hz h1 h2 h3 h4 h5 =>
  refine .row ty sz els arr hz (key h1 (fun y h => by cases h)).2 h2 h3 h4 (fun j cs f c hj hf => ?_)
  obtain ⟨v, hv, q1, hr⟩ := h5 j cs f c hj hf
  exact ⟨v, hv, q1, hr.drop hD⟩
 | dict es ents clock h1 h2 h3 h4 => exact .dict es ents clock (key h1 (fun y h => by cases h)).2 h2 (fun j k p m hj hm => ⟨(h3 j k p m hj hm).1, (h3 j k p m hj hm).2.drop hD⟩) h4
 | idict kd es ents clock h1 h2 h3 => exact .idict kd es ents clock (key h1 (fun y h => by cases h)).2 h2 (fun j k p m hj hm => ⟨(h3 j k p m hj hm).1, (h3 j k p m hj hm).2.drop hD⟩)
 | ro cs arr ty fr hz h1 h0 h2 =>
  refine .ro cs arr ty fr ⟨hz, (key h1 (fun y h => by cases h)).1⟩ (key h1 (fun y h => by cases h)).2 h0 (fun f c hf => ?_)
  obtain ⟨v, hv, q1, hr⟩ := h2 f c hf
  exact ⟨v, cell_drop hv hD, q1, hr.drop hD⟩
 | loop L rec h1 h2 h3 h4 h5 h6 h7 h8 => exact .loop L rec (key h1 (fun y h => by cases h)).2 h2 h3 h4 h5 h6 h7 (fun t => (h8 t).drop hD)
theorem Holds.drop {D : Nat} {y : Option (List Deferred)} (hD : w.heap[D]? = some (.deferred y)) (hH : Holds g s w) : Holds (g.drop D) s (dropW w D) :=
 ⟨hH.fresh, fun k hk => by have := hH.zlt k hk.1; simpa [dropW] using this, fun i b hb => (hH.blk i b hb).drop hD, hH.inj, fun i b hb hr hz => hH.apart i b hb hr hz.1⟩
theorem Defs.drop {B D : Nat} (hD : w.heap[D]? = some (.deferred (some []))) : ∀ {ds : List Deferred}, (∀ d' ∈ ds, d' ≠ { target := .collected D, args := #[] }) → Defs B g w ds → Defs B (g.drop D) (dropW w D) ds
 | [], _, h => h
 | d :: ds, hne, h => by
  obtain ⟨⟨D', h1, h2, h3, h4⟩, h5, h6⟩ := h
  have hDD : D' ≠ D := fun e => hne d List.mem_cons_self (by rw [h1, e])
  exact ⟨⟨D', h1, h2, ⟨h3, hDD⟩, by rw [← h4]; exact World.putObj_heap_other hDD⟩, h5, h6.drop hD (fun d' hd' => hne d' (List.mem_cons_of_mem _ hd'))⟩
theorem leaves_drop {g0 : G} {w0 : World} {s0 : St} (hH0 : Holds g0 s0 w0) {fn : Func} {tmps : Array Value} {R : Ending → World → Prop} {u : FrameMode} (hu : u ≠ .run) {ds0 : List Deferred} : ∀ (ds : List Deferred) (g : G) (w : World), Defs w0.heap.size g w ds → LE g0 w0 g w → Holds g s w → ER w g N e ⟨tmps, ds0⟩ →
  (∀ (g : G) (w : World), LE g0 w0 g w → Holds g s w → ER w g N e ⟨tmps, ds0⟩ → LeavesIn (fen none) 0 P fn tmps R [] u w) → LeavesInM (fen none) 0 P fn tmps R ds u w
 | [], g, w, hd, hle, hH, hE, h => h g w hle hH hE
 | d :: ds, g, w, hd, hle, hH, hE, h => by
  obtain ⟨⟨D, h1, h2, h3, h4⟩, h5, h6⟩ := hd
  refine ⟨hu, .inl ⟨D, dropW w D, by rw [h1], run_takeDeferred h4, ?_⟩⟩
  refine leaves_drop hH0 hu ds (g.drop D) (dropW w D) (h6.drop h4 (by rw [← h1]; exact h5)) ?_ (hH.drop h4) ⟨hE.size, fun t => (hE.vr t).drop h4⟩ h
  have hlt : ∀ k, g0.Z k → k ≠ D := fun k hk => by have := hH0.zlt k hk; omega
  exact ⟨⟨hle.n, hle.mu, fun k hk => ⟨hle.Z k hk, hlt k hk⟩, fun k hk => (World.putObj_heap_other (hlt k hk)).trans (hle.block k hk)⟩, hle.os, hle.tape, hle.output, by simpa [dropW] using hle.size⟩
theorem PCalls.of {f : FuncId} {fn : Func} {c : Code} {args : List PV} {R : Res → St → Prop} (hf : P.funcs[f]? = some fn) (hb : fn.body = some c) (hn : (fn.name != "runtime.NumGoroutine") = true) (ha : args.length ≤ fn.ntmps)
  (h : PW P fn.ntmps c (Env.start args) s (retQ P fn.results.toList R)) : PCalls P f args s R := by
 refine .inl ⟨by simp [enters, hf, hb, hn], fun g w vs hH hA => ?_⟩
 refine callsIn_wide.1 (callsIn_of_wp_marks (F := fen none) (n := 0) hf hb trivial (wpIn_mono (h none w.heap.size g _ w (.inr rfl) hH (start_er hA ha) ⟨Nat.le_refl _, trivial⟩) ?_))
 rintro ex a' w' ⟨e', s', g', h1, h2, h3, h4, h5⟩
 have ret : (∃ ps, resP P e' s' fn.results.toList = some ps ∧ ∃ s2, s2.sub s' ∧ R (.ret (one ps)) s2) → LeavesInM (fen none) 0 P fn a'.tmps (fun en w' => ∃ res s' g', LE g w g' w' ∧ Holds g' s' w' ∧ RR w' g' res en ∧ R res s') a'.defers .returning w' := by
  rintro ⟨ps, hps, s2, hs2, hR⟩
  refine leaves_drop hH (by simp) a'.defers g' w' h4.2 h1 h2 (ds0 := a'.defers) h3 (fun g1 w1 l1 H1 E1 => ?_)
  obtain ⟨vs, k1, k2, k3⟩ := resP_sound (P := P) H1 E1 _ ps hps
  exact ⟨_, results_run fn a'.tmps k1, _, s2, g1, l1, H1.sub hs2, .ret _ _ (one_vr k2 k3), hR⟩
 cases ex with
 | normal => exact ret h5
 | ret => exact ret h5
 | panic c =>
  obtain ⟨s2, hs2, hR⟩ := h5
  exact leaves_drop hH (by simp) a'.defers g' w' h4.2 h1 h2 (ds0 := a'.defers) h3 (fun g1 w1 l1 H1 E1 => ⟨_, s2, g1, l1, H1.sub hs2, .pan c, hR⟩)
 | exit _ => exact h5.elim
 | goto _ => exact h5.elim
 | outgrown => exact h5.elim
end
end Go.Pv

namespace Go.Pv
set_option linter.unusedVariables false
set_option linter.unusedSimpArgs false
theorem put_comm {e : Env} {d d' : Option Tmp} (v u : PV) (h : ∀ t, d = some t → d' ≠ some t) : (e.put d v).put d' u = (e.put d' u).put d v := by
 cases d with
 | none => rfl
 | some d =>
  cases d' with
  | none => rfl
  | some d' =>
   have hne : d' ≠ d := fun e => h d rfl (by rw [e])
   funext t
   simp only [Env.put]
   split <;> split <;> first | rfl | (subst_vars; exact absurd rfl hne) | (rename_i h1 h2; exact absurd (h2.symm.trans h1) (Ne.symm hne))
section
variable {P : Program} {s : St} {e e' : Env}
theorem map_ev {xs : List Operand} (h : ∀ x ∈ xs, e.ev x = e'.ev x) : xs.map e.ev = xs.map e'.ev := List.map_congr_left h
theorem parts_ev {ps : List (Nat × Operand)} (h : ∀ x ∈ ps.map (·.2), e.ev x = e'.ev x) : (ps.map fun p => (p.1, e.ev p.2)) = ps.map fun p => (p.1, e'.ev p.2) :=
 List.map_congr_left fun p hp => by rw [h p.2 (List.mem_map.2 ⟨p, hp, rfl⟩)]
theorem qcall_congr {c : Call} (h : ∀ x ∈ c.operands, e.ev x = e'.ev x) : qcall P e c = qcall P e' c := by
 have ha : ∀ x ∈ c.args.toList, e.ev x = e'.ev x := fun x hx => h x (by simp [Call.operands, Array.mem_toList_iff.1 hx])
 unfold qcall
 split
 ·split
  ·rename_i x t h1 h2; rw [ha x (by rw [h1]; simp)]
  ·rfl
 ·split
  ·rename_i x y h1; rw [ha x (by rw [h1]; simp), ha y (by rw [h1]; simp)]
  ·rfl
 ·split
  ·rename_i x y h1; rw [ha x (by rw [h1]; simp), ha y (by rw [h1]; simp)]
  ·rfl
 ·split
  ·rename_i x t h1 h2; rw [ha x (by rw [h1]; simp)]
  ·rfl
 ·split
  ·rename_i x h1; rw [ha x (by rw [h1]; simp)]
  ·rfl
 ·rfl
theorem qop_congr {op : Go.Op} (h : ∀ x ∈ op.operands, e.ev x = e'.ev x) : qop P e s op = qop P e' s op := by
 cases op <;> simp only [Go.Op.operands] at h <;> simp only [qop]
 case call c => exact qcall_congr h
 case makeFunc fn a b =>
  cases fn <;> simp only []
  rw [map_ev (xs := a.toList) fun x hx => h x (by simp [Array.mem_toList_iff.1 hx]), map_ev (xs := b.toList) fun x hx => h x (by simp [Array.mem_toList_iff.1 hx])]
 case slice t x lo hi mx =>
  cases mx with
  | some m =>
   have e1 : e.ev x = e'.ev x := h x (by simp)
   have e2 : e.ev m = e'.ev m := h m (by simp)
   cases lo with
   | some _ => rfl
   | none =>
    cases hi with
    | none => rfl
    | some hh =>
     have e3 : e.ev hh = e'.ev hh := h hh (by simp)
     simp only [e1, e2, e3]
  | none =>
   have e1 : e.ev x = e'.ev x := h x (by simp)
   have e2 : lo.map e.ev = lo.map e'.ev := by cases lo <;> simp_all
   have e3 : hi.map e.ev = hi.map e'.ev := by cases hi <;> simp_all
   simp only [e1, e2, e3]
 all_goals (first | rfl | (simp_all; done))
theorem opw_congr {op : Go.Op} {K : PV → St → Prop} {Kp : List PanicEntry → St → Prop} (h : ∀ x ∈ op.operands, e.ev x = e'.ev x) : opw P e s K Kp op = opw P e' s K Kp op := by
 cases op
 case call c =>
  have ha : ∀ x ∈ c.args.toList, e.ev x = e'.ev x := fun x hx => h x (by simp [Go.Op.operands, Call.operands, Array.mem_toList_iff.1 hx])
  have hq := qcall_congr (P := P) (c := c) (e := e) (e' := e') h
  simp only [opw]
  split
  ·split
   ·rename_i x y t t2 h1 h2; rw [ha x (by rw [h1]; simp), ha y (by rw [h1]; simp)]
   ·rfl
  ·split
   ·rename_i x y t t2 h1 h2; rw [ha x (by rw [h1]; simp), ha y (by rw [h1]; simp)]
   ·rfl
  ·split
   ·rename_i x y t t2 h1 h2; rw [ha x (by rw [h1]; simp), ha y (by rw [h1]; simp)]
   ·rfl
  ·rename_i f hf
   rw [map_ev ha, h f (by simp [Go.Op.operands, Call.operands, hf])]
  ·rw [hq]
 case build t ps =>
  simp only [opw, bld]
  rw [parts_ev (ps := ps.toList) fun x hx => h x (by simpa [Go.Op.operands] using hx)]
 case buildSlice t len ps =>
  simp only [opw, mkSlice]
  have : (ps.toList.map fun p => e.ev p.2) = ps.toList.map fun p => e'.ev p.2 := List.map_congr_left fun p hp => h p.2 (by simp only [Go.Op.operands]; exact List.mem_toArray.2 (List.mem_map.2 ⟨p, hp, rfl⟩))
  rw [this]
 case alloc t => rfl
 case box t x => simp only [opw]; rw [h x (by simp [Go.Op.operands])]
 case store t p x => simp only [opw]; rw [h x (by simp [Go.Op.operands]), h p (by simp [Go.Op.operands])]
 case pick c x y => simp only [opw]; rw [h c (by simp [Go.Op.operands]), h x (by simp [Go.Op.operands]), h y (by simp [Go.Op.operands])]
 case binOp op t x y t2 => simp only [opw]; rw [h x (by simp [Go.Op.operands]), h y (by simp [Go.Op.operands])]
 case mapUpdate t m k v => simp only [opw]; rw [h m (by simp [Go.Op.operands]), h k (by simp [Go.Op.operands]), h v (by simp [Go.Op.operands])]
 case insert t m k v => simp only [opw]; rw [h m (by simp [Go.Op.operands]), h k (by simp [Go.Op.operands]), h v (by simp [Go.Op.operands])]
 case makeMap t r => cases r <;> first | rfl | (simp only [opw]; rw [qop_congr h])
 case makeSlice t l c => simp only [opw]; rw [h l (by simp [Go.Op.operands]), h c (by simp [Go.Op.operands])]
 case convert src dst x => simp only [opw]; rw [h x (by simp [Go.Op.operands]), qop_congr h]
 all_goals (simp only [opw]; rw [qop_congr h])
theorem okv_mono {α : Type} {x : Option α} {K K' : α → Prop} (h : okv x K) (hK : ∀ v, K v → K' v) : okv x K' := by
 obtain ⟨v, h1, h2⟩ := okv_ex h
 exact ex_okv h1 (hK v h2)
theorem mapW_mono {t : TypeId} {m k v : PV} {K K' : St → Prop} (hK : ∀ s, K s → K' s) (h : mapW P s t m k v K) : mapW P s t m k v K' := by
 unfold mapW at h ⊢
 split at h
 ·split at h
  ·exact ⟨h.1, hK _ h.2⟩
  ·exact h
 ·split at h
  ·exact ⟨h.1, h.2.1, hK _ h.2.2⟩
  ·exact h
 ·exact h
theorem opw_mono {op : Go.Op} {K K' : PV → St → Prop} {Kp Kp' : List PanicEntry → St → Prop} (hK : ∀ v s, K v s → K' v s) (hKp : ∀ c s, Kp c s → Kp' c s) (h : opw P e s K Kp op) : opw P e s K' Kp' op := by
 have hq : (okv (qop P e s op) fun v => K v s) → okv (qop P e s op) fun v => K' v s := fun h => okv_mono h fun v => hK _ _
 cases op
 case call c =>
  simp only [opw] at h ⊢
  split at h
  ·split at h
   ·obtain ⟨el, n, b, z, q1, q2, q3, q4, q5, q6, q7, ys, q8, q9, q10⟩ := appW_iff.1 h
    refine appW_iff.2 ⟨el, n, b, z, q1, q2, q3, q4, q5, q6, q7, ys, q8, fun hy => ⟨(q9 hy).1, hK _ _ (q9 hy).2⟩, fun hy => ?_⟩
    have q := q10 hy
    split at q
    ·obtain ⟨xe, r1, r2, r3, r4⟩ := q
     exact ⟨xe, r1, r2, r3, fun i hi => hK _ _ (r4 i hi)⟩
    ·obtain ⟨els, r1, r2, r3, r4, r5, r6⟩ := q
     exact ⟨els, r1, r2, r3, r4, r5, fun i hi => hK _ _ (r6 i hi)⟩
    ·exact q.elim
   ·exact h.elim
  ·split at h
   ·unfold ustrW at h ⊢
    split at h
    ·split at h
     ·obtain ⟨h1, h2, h3, h4, h5, h6, h7⟩ := h
      exact ⟨h1, h2, h3, h4, h5, h6, okv_mono h7 fun v => hK _ _⟩
     ·exact h
    ·exact ⟨h.1, hK _ _ h.2⟩
    ·exact h
   ·exact h.elim
  ·split at h
   ·unfold cpyW at h ⊢
    exact okv_mono h fun el h => okv_mono h fun n h => okv_mono h fun ys h => ⟨h.1, h.2.1, hK _ _ h.2.2⟩
   ·exact h.elim
  ·unfold callW at h ⊢
   split at h
   ·exact h.mono fun r s' hr => by cases r <;> first | exact hK _ _ hr | exact hKp _ _ hr
   ·exact h.mono fun p s' hp => hK _ _ hp
   ·exact h.elim
  ·exact okv_mono h fun v => hK _ _
 case build t ps => exact okv_mono h fun v => hK _ _
 case buildSlice t len ps => exact okv_mono h fun v => hK _ _
 case alloc t => exact okv_mono h fun z hz => ⟨hz.1, fun i hi => hK _ _ (hz.2 i hi)⟩
 case box t x => obtain ⟨h2, h3⟩ := h; exact ⟨h2, fun i hi => hK _ _ (h3 i hi)⟩
 case store t p x =>
  simp only [opw] at h ⊢
  obtain ⟨i, j, f, ty, sz, els, cs, hp, h1, h2, h3, h4, h5, h6⟩ := storeW_ex h
  rw [hp]
  exact ex_storeW h1 h2 ⟨h3, h4, h5, hK _ _ h6⟩
 case pick c x y =>
  simp only [opw] at h ⊢
  split at h
  ·exact ⟨fun ht => hK _ _ (h.1 ht), fun ht => hK _ _ (h.2 ht)⟩
  ·exact h.elim
 case binOp op t x y t2 =>
  simp only [opw] at h ⊢
  unfold binW at h ⊢
  split at h
  ·refine ⟨h.1, ?_⟩
   have h := h.2
   unfold eqNilW at h ⊢
   split at h
   ·exact fun t h1 h2 => hK _ _ (h t h1 h2)
   ·exact fun t h1 h2 => hK _ _ (h t h1 h2)
   ·exact h
  ·exact okv_mono h fun v => hK _ _
 case makeMap t r =>
  cases r with
  | none =>
   simp only [opw] at h ⊢
   split at h
   ·exact fun i hi => hK _ _ (h i hi)
   ·exact okv_mono h fun x hx i hi => hK _ _ (hx i hi)
  | some r => exact hq h
 case makeSlice t l c =>
  simp only [opw, mkW] at h ⊢
  refine okv_mono h fun el h => okv_mono h fun n h => okv_mono h fun b h => okv_mono h fun z h => ⟨h.1, h.2.1, ?_⟩
  have h := h.2.2
  split at h
  ·exact ⟨h.1, h.2.1, h.2.2.1, h.2.2.2.1, fun i hi => hK _ _ (h.2.2.2.2 i hi)⟩
  ·exact h.elim
 case mapUpdate t m k v =>
  simp only [opw] at h ⊢
  exact mapW_mono (hK _) h
 case insert t m k v =>
  simp only [opw] at h ⊢
  exact mapW_mono (hK _) h
 case convert src dst x =>
  simp only [opw] at h ⊢
  split at h
  ·exact okv_mono h fun v => hK _ _
  ·exact okv_mono h fun v => hK _ _
  ·exact ⟨h.1, hK _ _ h.2⟩
  ·exact okv_mono h fun v => hK _ _
 all_goals exact hq h
end
inductive Kind where
 | pure | read | quiet | grow | eff | steady
 deriving DecidableEq
def Kind.det : Kind → Bool
 | .eff => false
 | .grow => false
 | _ => true
def kindOf (q : Nat) : Go.Op → Kind
 | .load _ _ => if q = 3 then .pure else .read
 | .lookup _ _ _ _ => .read
 | .alloc _ => .grow
 | .box _ _ => .grow
 | .store _ _ _ => .eff
 | .makeMap _ _ => .grow
 | .makeSlice _ _ _ => .grow
 | .mapUpdate _ _ _ _ => .eff
 | .insert _ _ _ _ => .eff
 | .call c => match c.callee with
  | .builtin .append => .eff
  | .builtin .unsafeString => .eff
  | .builtin .copy => .eff
  | .builtin _ => .pure
  | _ => if q = 1 then .quiet else if q = 2 then .grow else if q = 4 then .steady else .eff
 | _ => .pure
def pureV (P : Program) (A : St) (e : Env) : Go.Op → Option PV
 | .build t ps => bld P e t ps.toList
 | .buildSlice t len ps => mkSlice P e t len ps.toList
 | .pick c a b => match e.ev c with
  | .lit (.bool t) => some (if t = true then e.ev a else e.ev b)
  | _ => none
 | .load t x => qop P e A (.load t x)
 | .lookup _ _ _ _ => none
 | .call c => match c.callee with
  | .builtin .append => none
  | .builtin .unsafeString => none
  | .builtin .copy => none
  | _ => qcall P e c
 | op => qop P e St.empty op
def detV (P : Program) (A : St) (k : Kind) (s : St) (e : Env) (op : Go.Op) (v : PV) : Prop := match k with
 | .pure => pureV P A e op = some v
 | .read => qop P e s op = some v
 | .quiet => opw P e s (fun p s' => p = v ∧ s' = s) (fun _ _ => False) op
 | .steady => ∀ s, A.sub s → opw P e s (fun p s' => p = v ∧ s' = s) (fun _ _ => False) op
 | .grow => False
 | .eff => False
def dw (P : Program) (A : St) (k : Kind) (e : Env) (s : St) (K : PV → St → Prop) (Kp : List PanicEntry → St → Prop) (op : Go.Op) : Prop := match k with
 | .eff => opw P e s (fun v s' => A.sub s' ∧ K v s') Kp op
 | .pure => okv (pureV P A e op) fun v => K v s
 | .read => okv (qop P e s op) fun v => K v s
 | .quiet => ∃ v, detV P A .quiet s e op v ∧ K v s
 | .steady => ∃ v, detV P A .steady s e op v ∧ K v s
 | .grow => opw P e s (fun v s' => s.sub s' ∧ K v s') Kp op
section
variable {P : Program} {A : St} {s : St} {e e' : Env}
theorem dw_det {k : Kind} {op : Go.Op} {K : PV → St → Prop} {Kp : List PanicEntry → St → Prop} (hk : k.det = true) : dw P A k e s K Kp op ↔ ∃ v, detV P A k s e op v ∧ K v s := by
 cases k with
 | eff => cases hk
 | grow => cases hk
 | pure => exact ⟨fun h => okv_ex h, fun ⟨v, h1, h2⟩ => ex_okv h1 h2⟩
 | read => exact ⟨fun h => okv_ex h, fun ⟨v, h1, h2⟩ => ex_okv h1 h2⟩
 | quiet => exact Iff.rfl
 | steady => exact Iff.rfl
theorem pureV_congr {op : Go.Op} (h : ∀ x ∈ op.operands, e.ev x = e'.ev x) : pureV P A e op = pureV P A e' op := by
 cases op
 case call c =>
  have := qcall_congr (P := P) (c := c) (e := e) (e' := e') h
  simp only [pureV]; split <;> first | rfl | exact this
 case build t ps =>
  simp only [pureV, bld]
  rw [parts_ev (ps := ps.toList) fun x hx => h x (by simpa [Go.Op.operands] using hx)]
 case buildSlice t len ps =>
  simp only [pureV, mkSlice]
  have : (ps.toList.map fun p => e.ev p.2) = ps.toList.map fun p => e'.ev p.2 := List.map_congr_left fun p hp => h p.2 (by simp only [Go.Op.operands]; exact List.mem_toArray.2 (List.mem_map.2 ⟨p, hp, rfl⟩))
  rw [this]
 case pick c x y => simp only [pureV]; rw [h c (by simp [Go.Op.operands]), h x (by simp [Go.Op.operands]), h y (by simp [Go.Op.operands])]
 all_goals (simp only [pureV]; try rw [qop_congr h])
theorem detV_congr {k : Kind} {op : Go.Op} {v : PV} (h : ∀ x ∈ op.operands, e.ev x = e'.ev x) : detV P A k s e op v = detV P A k s e' op v := by
 cases k <;> simp only [detV]
 ·rw [pureV_congr h]
 ·rw [qop_congr h]
 ·rw [opw_congr h]
 ·apply forall_congr; intro s; apply propext; exact ⟨fun q hA => by rw [← opw_congr h]; exact q hA, fun q hA => by rw [opw_congr h]; exact q hA⟩
theorem cellsAt_mono {s' : St} {p : PV} {n : Nat} {cs : List PV} (hs : s.sub s') (h : cellsAt s p n = some cs) : cellsAt s' p n = some cs := by
 unfold cellsAt at h ⊢
 split at h
 ·exact h
 ·rename_i i j f
  split at h
  ·rename_i b he
   rw [hs i _ he]
   exact h
  ·rename_i b he
   rw [hs i _ he]
   exact h
  ·cases h
 ·cases h
theorem load_mono {s' : St} {t : TypeId} {x : Operand} {v : PV} (hs : s.sub s') (h : qop P e s (.load t x) = some v) : qop P e s' (.load t x) = some v := by
 simp only [qop] at h ⊢
 replace h := Option.bind_eq_some_iff.1 h; obtain ⟨n, hn, h⟩ := h
 replace h := Option.bind_eq_some_iff.1 h; obtain ⟨ag, ha, h⟩ := h
 replace h := Option.bind_eq_some_iff.1 h; obtain ⟨cs, hc, h⟩ := h
 rw [hn, ha]
 simp only [Option.bind_some, cellsAt_mono hs hc]
 exact h
theorem look_mono {s' : St} {t : TypeId} {x k : Operand} {c : Bool} {v : PV} (hs : s.sub s') (h : qop P e s (.lookup t x k c) = some v) : qop P e s' (.lookup t x k c) = some v := by
 simp only [qop] at h ⊢
 unfold lookV at h ⊢
 split at h
 ·rename_i i b hx hk
  split at h
  ·rename_i es he
   rw [hs i _ he]
   exact h
  ·cases h
 ·rename_i i kd b hx hk
  split at h
  ·rename_i kd' es he
   rw [hs i _ he]
   exact h
  ·cases h
 ·exact h
 ·exact h
 ·cases h
theorem qop_free {op : Go.Op} (t : St) (h : ∀ a b, op ≠ .load a b) (h2 : ∀ a b c d, op ≠ .lookup a b c d) : qop P e s op = qop P e t op := by
 cases op
 case makeFunc fn a b => cases fn <;> rfl
 case slice t x lo hi mx => cases mx <;> first | rfl | (cases lo <;> cases hi <;> rfl)
 all_goals first | rfl | exact absurd rfl (h _ _) | exact absurd rfl (h2 _ _ _ _)
theorem pureV_opw {op : Go.Op} {v : PV} {K : PV → St → Prop} {Kp : List PanicEntry → St → Prop} (hA : A.sub s) (h : pureV P A e op = some v) (hK : K v s) : opw P e s K Kp op := by
 have hq : (∀ a b, op ≠ .load a b) → (∀ a b c d, op ≠ .lookup a b c d) → qop P e St.empty op = some v → okv (qop P e s op) fun v => K v s := fun hl hl2 h => ex_okv ((qop_free St.empty hl hl2).trans h) hK
 cases op
 case call c =>
  simp only [pureV] at h
  simp only [opw]
  split at h
  ·cases h
  ·cases h
  ·cases h
  ·rename_i hne hne2 hne3
   split
   ·exact absurd ‹_› hne
   ·exact absurd ‹_› hne2
   ·exact absurd ‹_› hne3
   ·rename_i f hf
    unfold qcall at h
    rw [hf] at h
    cases h
   ·exact ex_okv h hK
 case build t ps => exact ex_okv h hK
 case buildSlice t len ps => exact ex_okv h hK
 case pick c x y =>
  simp only [pureV] at h
  split at h
  ·rename_i t ht
   simp only [opw, ht]
   refine ⟨fun h1 => ?_, fun h1 => ?_⟩ <;> subst h1 <;> simp at h <;> subst h <;> exact hK
  ·cases h
 case load t x => exact ex_okv (load_mono hA h) hK
 case lookup => cases h
 case mapUpdate => cases h
 case insert => cases h
 case makeMap t r => cases r <;> cases h
 case makeSlice => cases h
 case convert src dst x =>
  simp only [pureV] at h
  simp only [opw]
  have hq' := hq (fun _ _ => by simp) (fun _ _ _ _ => by simp) h
  split
  ·rename_i hx; simp only [qop, hx] at h; cases h
  ·rename_i hx; simp only [qop, hx] at h; cases h
  ·rename_i hx; simp only [qop, hx] at h; cases h
  ·exact hq'
 case alloc => cases h
 case box => cases h
 case store => cases h
 case binOp op t x y t2 =>
  simp only [opw]
  unfold binW
  split
  ·rename_i k xs hx hy
   simp only [pureV, qop, hx, hy, bin] at h
   cases h
  ·exact hq (fun _ _ => by simp) (fun _ _ _ _ => by simp) h
 all_goals exact hq (fun _ _ => by simp) (fun _ _ _ _ => by simp) h
theorem dw_opw {k : Kind} {op : Go.Op} {K : PV → St → Prop} {Kp : List PanicEntry → St → Prop} (hA : A.sub s) (hk : k = .read → (∃ a b, op = .load a b) ∨ ∃ a b c d, op = .lookup a b c d) (h : dw P A k e s K Kp op) : opw P e s (fun v s' => A.sub s' ∧ K v s') Kp op := by
 cases k with
 | pure => obtain ⟨v, h1, h2⟩ := okv_ex h; exact pureV_opw hA h1 ⟨hA, h2⟩
 | read => rcases hk rfl with ⟨a, b, rfl⟩ | ⟨a, b, c, d, rfl⟩ <;> exact okv_mono h fun v hv => ⟨hA, hv⟩
 | quiet => obtain ⟨v, h1, h2⟩ := h; exact opw_mono (K := fun p s' => p = v ∧ s' = s) (Kp := fun _ _ => False) (fun p s' hp => by obtain ⟨rfl, rfl⟩ := hp; exact ⟨hA, h2⟩) (fun _ _ hf => hf.elim) h1
 | steady => obtain ⟨v, h1, h2⟩ := h; exact opw_mono (K := fun p s' => p = v ∧ s' = s) (Kp := fun _ _ => False) (fun p s' hp => by obtain ⟨rfl, rfl⟩ := hp; exact ⟨hA, h2⟩) (fun _ _ hf => hf.elim) (h1 s hA)
 | grow => exact opw_mono (K := fun v s' => s.sub s' ∧ K v s') (fun _ _ h => ⟨fun i b hb => h.1 i b (hA i b hb), h.2⟩) (fun _ _ h => h) h
 | eff => exact h
theorem dw_congr {k : Kind} {op : Go.Op} {K : PV → St → Prop} {Kp : List PanicEntry → St → Prop} (h : ∀ x ∈ op.operands, e.ev x = e'.ev x) : dw P A k e s K Kp op = dw P A k e' s K Kp op := by
 cases k <;> simp only [dw]
 ·rw [pureV_congr h]
 ·rw [qop_congr h]
 ·simp only [detV_congr h]
 ·rw [opw_congr h]
 ·rw [opw_congr h]
 ·simp only [detV_congr h]
theorem dw_mono' {k : Kind} {op : Go.Op} {K K' : PV → St → Prop} {Kp Kp' : List PanicEntry → St → Prop} (hK : ∀ v s', (k = .grow → s.sub s') → (A.sub s → A.sub s') → K v s' → K' v s') (hKp : ∀ c s, Kp c s → Kp' c s) (h : dw P A k e s K Kp op) : dw P A k e s K' Kp' op := by
 cases k with
 | eff => exact opw_mono (K := fun v s' => A.sub s' ∧ K v s') (K' := fun v s' => A.sub s' ∧ K' v s') (fun v s' h => ⟨h.1, hK v s' (fun h => by cases h) (fun _ => h.1) h.2⟩) hKp h
 | grow => exact opw_mono (K := fun v s' => s.sub s' ∧ K v s') (K' := fun v s' => s.sub s' ∧ K' v s') (fun v s' h => ⟨h.1, hK v s' (fun _ => h.1) (fun hA i b hb => h.1 i b (hA i b hb)) h.2⟩) hKp h
 | pure => exact okv_mono h fun v => hK _ _ (fun h => by cases h) (fun h => h)
 | read => exact okv_mono h fun v => hK _ _ (fun h => by cases h) (fun h => h)
 | quiet => obtain ⟨v, h1, h2⟩ := h; exact ⟨v, h1, hK _ _ (fun h => by cases h) (fun h => h) h2⟩
 | steady => obtain ⟨v, h1, h2⟩ := h; exact ⟨v, h1, hK _ _ (fun h => by cases h) (fun h => h) h2⟩
theorem dw_mono {k : Kind} {op : Go.Op} {K K' : PV → St → Prop} {Kp Kp' : List PanicEntry → St → Prop} (hK : ∀ v s, K v s → K' v s) (hKp : ∀ c s, Kp c s → Kp' c s) (h : dw P A k e s K Kp op) : dw P A k e s K' Kp' op := dw_mono' (fun v s _ _ => hK v s) hKp h
def yb : PV → Option (Option Bool)
 | .lit (.bool t) => some (some t)
 | .tup [] => some none
 | _ => none
def gd (ops : Array Oper) (o : Oper) (e : Env) (A B : Prop) : Prop := match o.guard with
 | none => A
 | some (j, want) => okv ((ops[j]?).bind (·.dst)) fun d => okv (yb (e d)) fun y => (y = some want → A) ∧ (y ≠ some want → B)
theorem gd_some {ops : Array Oper} {o : Oper} {e : Env} {A B : Prop} {j : Nat} {want : Bool} (hg : o.guard = some (j, want)) : gd ops o e A B ↔ ∃ d y, (ops[j]?).bind (·.dst) = some d ∧ yb (e d) = some y ∧ (y = some want → A) ∧ (y ≠ some want → B) := by
 unfold gd
 rw [hg]
 constructor
 ·intro h
  obtain ⟨d, h1, h⟩ := okv_ex h
  obtain ⟨y, h2, h⟩ := okv_ex h
  exact ⟨d, y, h1, h2, h⟩
 ·rintro ⟨d, y, h1, h2, h3⟩
  exact ex_okv h1 (ex_okv h2 h3)
theorem gd_none {ops : Array Oper} {o : Oper} {e : Env} {A B : Prop} (hg : o.guard = none) : gd ops o e A B ↔ A := by
 unfold gd
 rw [hg]
theorem gd_mono {ops : Array Oper} {o : Oper} {A A' B B' : Prop} (h : gd ops o e A B) (ha : A → A') (hb : B → B') : gd ops o e A' B' := by
 cases hg : o.guard with
 | none => exact (gd_none hg).2 (ha ((gd_none hg).1 h))
 | some jw =>
  obtain ⟨j, want⟩ := jw
  obtain ⟨d, y, h1, h2, h3, h4⟩ := (gd_some hg).1 h
  exact (gd_some hg).2 ⟨d, y, h1, h2, fun h => ha (h3 h), fun h => hb (h4 h)⟩
theorem gd_congr {ops : Array Oper} {o : Oper} {A B : Prop} (h : ∀ t ∈ o.looksAt ops, e t = e' t) : gd ops o e A B = gd ops o e' A B := by
 cases hg : o.guard with
 | none => exact propext ((gd_none hg).trans (gd_none hg).symm)
 | some jw =>
  obtain ⟨j, want⟩ := jw
  apply propext
  rw [gd_some hg, gd_some hg]
  constructor
  ·rintro ⟨d, y, h1, h2, h3, h4⟩
   exact ⟨d, y, h1, by rw [← h d (by simp [Oper.looksAt, hg, h1])]; exact h2, h3, h4⟩
  ·rintro ⟨d, y, h1, h2, h3, h4⟩
   exact ⟨d, y, h1, by rw [h d (by simp [Oper.looksAt, hg, h1])]; exact h2, h3, h4⟩
def stepD (P : Program) (A : St) (ops : Array Oper) (kd : Nat → Nat) (N : Nat) (i : Nat) (e : Env) (s : St) (K : Env → St → Prop) (Kp : List PanicEntry → Env → St → Prop) : Prop := match ops[i]? with
 | none => False
 | some o => (∀ t, o.dst = some t → t < N) ∧ gd ops o e (dw P A (kindOf (kd i) o.op) e s (fun v s' => K (e.put o.dst v) s') (fun c s' => Kp c e s') o.op) (K (e.put o.dst (.tup [])) s)
def pwD (P : Program) (A : St) (ops : Array Oper) (kd : Nat → Nat) (N : Nat) : List Nat → Env → St → (Env → St → Prop) → (List PanicEntry → Env → St → Prop) → Prop
 | [], e, s, K, _ => K e s
 | i :: l, e, s, K, Kp => stepD P A ops kd N i e s (fun e s => pwD P A ops kd N l e s K Kp) Kp
theorem looks_ev {ops : Array Oper} {o : Oper} (h : ∀ t ∈ o.looksAt ops, e t = e' t) : ∀ x ∈ o.op.operands, e.ev x = e'.ev x := by
 intro x hx
 cases x with
 | tmp t => exact h t (List.mem_append_left _ (List.mem_filterMap.2 ⟨.tmp t, Array.mem_toList_iff.2 hx, rfl⟩))
 | _ => rfl
theorem kind_read {q : Nat} {op : Go.Op} (h : kindOf q op = .read) : (∃ a b, op = .load a b) ∨ ∃ a b c d, op = .lookup a b c d := by
 cases op <;> simp only [kindOf] at h <;> first | exact .inl ⟨_, _, rfl⟩ | exact .inr ⟨_, _, _, _, rfl⟩ | (cases h; done) | skip
 ·split at h <;> first | (cases h; done) | (split at h <;> first | (cases h; done) | (split at h <;> first | (cases h; done) | (split at h <;> first | (cases h; done) | (split at h <;> cases h))))
end
end Go.Pv

namespace Go.Pv
set_option linter.unusedVariables false
set_option linter.unusedSimpArgs false
section
variable {P : Program} {A : St} {w : World} {g : G} {s : St} {N : Nat} {e e' : Env} {a : Act} {ops : Array Oper} {kd : Nat → Nat} {Q : Exit → Act → World → Prop}
theorem yb_yielded {d j : Nat} {y : Option Bool} (hv : VR w g (e d) (a.tmps.getD d undef)) (hdj : (ops[j]?).bind (·.dst) = some d) (hy : yb (e d) = some y) : yielded ops a.tmps j = y := by
 generalize e d = p at hv hy
 have fin : ∀ v, a.tmps.getD d undef = v → (match v with | .bool t => some t | _ => none) = y → yielded ops a.tmps j = y := by
  intro v hvd hm
  unfold yielded
  rw [hdj]
  simp only [Option.bind_some]
  rw [Array.getD_eq_getD_getElem?] at hvd
  cases ht : a.tmps[d]? with
  | none => rw [ht] at hvd; simp only [Option.getD_none] at hvd; subst hvd; simpa [undef] using hm
  | some u => rw [ht] at hvd; simp only [Option.getD_some] at hvd; subst hvd; rw [← hm]; cases u <;> rfl
 unfold yb at hy
 split at hy
 ·cases hy
  obtain ⟨hvd, _⟩ := hv.lit_inv
  exact fin _ hvd rfl
 ·cases hy
  refine fin _ rfl ?_
  generalize a.tmps.getD d undef = u at hv
  cases hv with
  | tup _ vs h1 h3 => rfl
 ·cases hy
theorem stepD_sound {i : Nat} {K : Env → St → Prop} {Kp : List PanicEntry → Env → St → Prop} (h : stepD P A ops kd N i e s K Kp) (hA : A.sub s) (hH : Holds g s w) (hE : ER w g N e a) {B : Nat} (hd : DK B g w a.defers) {next : Act → World → Prop}
  (hn : ∀ (e' : Env) (s' : St) (g' : G) (a' : Act) (w' : World), LE g w g' w' → Holds g' s' w' → ER w' g' N e' a' → DK B g' w' a'.defers → A.sub s' → K e' s' → next a' w')
  (hp : ∀ (c : List PanicEntry) (s' : St) (g' : G) (w' : World), LE g w g' w' → Holds g' s' w' → Kp c e s' → Q (.panic c) a w') : wpOpR P ops Q i next a w := by
 unfold stepD at h
 unfold wpOpR
 split at h
 ·exact h.elim
 ·rename_i o ho
  obtain ⟨hdst, h⟩ := h
  have main : dw P A (kindOf (kd i) o.op) e s (fun v s' => K (e.put o.dst v) s') (fun c s' => Kp c e s') o.op → wpR P o a w next Q := fun h =>
   opw_sound hH hE o (dw_opw hA (fun hk => kind_read hk) h) (fun p v s' g' w' k1 k2 k3 k4 => hn _ s' g' _ w' k1 k2 ((hE.le k1.toLEv).put hdst k3) (by rw [put_defers]; exact hd.le k1) k4.1 k4.2) (fun c s' g' w' k1 k2 k3 => hp c s' g' w' k1 k2 k3)
  first | (rw [ho]; simp only) | skip
  cases hg : o.guard with
  | none =>
   rw [if_pos (by simp [Region.wanted, hg])]
   exact main ((gd_none hg).1 h)
  | some jw =>
   obtain ⟨j, want⟩ := jw
   obtain ⟨d, y, hdj, hed, h1, h2⟩ := (gd_some hg).1 h
   have hy : yielded ops a.tmps j = y := yb_yielded (hE.vr d) hdj hed
   by_cases hw : y = some want
   ·rw [if_pos (by simp [Region.wanted, hg, hy, hw])]
    exact main (h1 hw)
   ·rw [if_neg (by simp [Region.wanted, hg, hy, hw])]
    exact hn _ s g _ w (.refl _ _) hH (hE.put hdst (.tup [] #[] rfl (by simp))) (by rw [put_defers]; exact hd) hA (h2 hw)
theorem apart_looks {x o : Oper} (h : x.apart ops o = true) (v : PV) : ∀ t ∈ o.looksAt ops, (e.put x.dst v) t = e t := by
 obtain ⟨h1, _, _⟩ := Oper.apart_spec h
 intro t ht
 cases hd : x.dst with
 | none => rfl
 | some d =>
  simp only [Env.put]
  rw [if_neg (fun he : t = d => h1 d hd (by rw [← he]; exact ht))]
theorem apart_symm {x o : Oper} (h : x.apart ops o = true) : o.apart ops x = true := by
 unfold Oper.apart at h ⊢
 cases hx : x.dst <;> cases ho : o.dst <;> simp_all
 all_goals first | exact fun e => h.1.2 e.symm | exact ⟨h.2, fun e => h.1.2 e.symm⟩
theorem apart_put {x o : Oper} (h : x.apart ops o = true) (v u : PV) : (e.put x.dst v).put o.dst u = (e.put o.dst u).put x.dst v := by
 obtain ⟨_, h2, _⟩ := Oper.apart_spec h
 exact put_comm v u h2
def valD (P : Program) (A : St) (ops : Array Oper) (k : Kind) (o : Oper) (s : St) (e : Env) (u : PV) : Prop := gd ops o e (detV P A k s e o.op u) (u = .tup [])
theorem valD_congr {k : Kind} {o : Oper} {u : PV} (h : ∀ t ∈ o.looksAt ops, e t = e' t) (hv : valD P A ops k o s e u) : valD P A ops k o s e' u := by
 unfold valD at hv ⊢
 rw [detV_congr (looks_ev h), gd_congr h] at hv
 exact hv
theorem stepD_det {i : Nat} {o : Oper} (ho : ops[i]? = some o) (hk : (kindOf (kd i) o.op).det = true) {K : Env → St → Prop} {Kp : List PanicEntry → Env → St → Prop} :
  stepD P A ops kd N i e s K Kp ↔ (∀ t, o.dst = some t → t < N) ∧ ∃ u, valD P A ops (kindOf (kd i) o.op) o s e u ∧ K (e.put o.dst u) s := by
 unfold stepD
 rw [ho]
 simp only [valD]
 cases hg : o.guard with
 | none =>
  rw [gd_none hg, dw_det hk]
  simp only [gd_none hg]
 | some jw =>
  obtain ⟨j, want⟩ := jw
  rw [gd_some hg, dw_det hk]
  simp only [gd_some hg]
  constructor
  ·rintro ⟨hd, d, y, h1, h2, h3, h4⟩
   refine ⟨hd, ?_⟩
   by_cases ht : y = some want
   ·obtain ⟨v, q1, q2⟩ := h3 ht
    exact ⟨v, ⟨d, y, h1, h2, fun _ => q1, fun h => absurd ht h⟩, q2⟩
   ·exact ⟨.tup [], ⟨d, y, h1, h2, fun h => absurd h ht, fun _ => rfl⟩, h4 ht⟩
  ·rintro ⟨hd, u, ⟨d, y, h1, h2, h3, h4⟩, hK⟩
   exact ⟨hd, d, y, h1, h2, fun ht => ⟨u, h3 ht, hK⟩, fun ht => by have := h4 ht; subst this; exact hK⟩
theorem stepD_congr {i : Nat} {o : Oper} (ho : ops[i]? = some o) {K K' : Env → St → Prop} {Kp : List PanicEntry → Env → St → Prop} (hl : ∀ t ∈ o.looksAt ops, e t = e' t)
  (hK : ∀ v s', (kindOf (kd i) o.op = .grow → s.sub s') → (A.sub s → A.sub s') → K (e.put o.dst v) s' → K' (e'.put o.dst v) s') (hKp : ∀ c s', Kp c e s' → Kp c e' s') (h : stepD P A ops kd N i e s K Kp) : stepD P A ops kd N i e' s K' Kp := by
 unfold stepD at h ⊢
 rw [ho] at h ⊢
 simp only at h ⊢
 refine ⟨h.1, ?_⟩
 rw [← gd_congr hl, ← dw_congr (looks_ev hl)]
 exact gd_mono h.2 (dw_mono' (fun v s' => hK v s') (fun c s' => hKp c s')) (hK _ _ (fun _ _ _ h => h) (fun h => h))
def Off (ops : Array Oper) (o : Oper) (l : List Nat) : Prop := ∀ x ∈ l, ∀ ox, ops[x]? = some ox → ox.apart ops o = true
theorem step_some {i : Nat} {K : Env → St → Prop} {Kp : List PanicEntry → Env → St → Prop} (h : stepD P A ops kd N i e s K Kp) : ∃ o, ops[i]? = some o := by
 unfold stepD at h
 cases ho : ops[i]? with
 | none => rw [ho] at h; exact h.elim
 | some o => exact ⟨o, rfl⟩
variable {K : Env → St → Prop} {Kp : List PanicEntry → Env → St → Prop}
theorem bubble_det {i : Nat} {o : Oper} (ho : ops[i]? = some o) (hk : (kindOf (kd i) o.op).det = true) (l2 : List Nat) : ∀ (l1 : List Nat) (e : Env), Off ops o l1 → (∀ x ∈ l1, ∀ ox, ops[x]? = some ox → (kindOf (kd x) ox.op).det = true) →
  pwD P A ops kd N (l1 ++ i :: l2) e s K Kp → (∀ t, o.dst = some t → t < N) ∧ ∃ u, valD P A ops (kindOf (kd i) o.op) o s e u ∧ pwD P A ops kd N (l1 ++ l2) (e.put o.dst u) s K Kp
 | [], e, _, _, h => (stepD_det ho hk).1 h
 | x :: l1, e, hoff, hdet, h => by
  simp only [List.cons_append, pwD] at h
  obtain ⟨ox, hox⟩ := step_some h
  have hkx := hdet x List.mem_cons_self ox hox
  have hap := hoff x List.mem_cons_self ox hox
  obtain ⟨hdx, v, hv, h⟩ := (stepD_det hox hkx).1 h
  obtain ⟨hd, u, hu, h⟩ := bubble_det ho hk l2 l1 _ (fun y hy => hoff y (List.mem_cons_of_mem _ hy)) (fun y hy => hdet y (List.mem_cons_of_mem _ hy)) h
  refine ⟨hd, u, valD_congr (apart_looks hap v) hu, ?_⟩
  simp only [List.cons_append, pwD]
  refine (stepD_det hox hkx).2 ⟨hdx, v, valD_congr (fun t ht => (apart_looks (apart_symm hap) u t ht).symm) hv, ?_⟩
  rw [← apart_put hap v u]
  exact h
theorem valD_pure {o : Oper} {s' : St} {u : PV} (h : valD P A ops .pure o s e u) : valD P A ops .pure o s' e u := h
theorem valD_steady {o : Oper} {s' : St} {u : PV} (h : valD P A ops .steady o s e u) : valD P A ops .steady o s' e u := h
theorem valD_read {q : Nat} {o : Oper} {s' : St} {u : PV} (hs : s.sub s') (hk : kindOf q o.op = .read) (h : valD P A ops .read o s e u) : valD P A ops .read o s' e u := by
 unfold valD at h ⊢
 refine gd_mono h (fun h => ?_) (fun h => h)
 simp only [detV] at h ⊢
 rcases kind_read hk with ⟨a, b, hl⟩ | ⟨a, b, c, d, hl⟩
 ·rw [hl] at h ⊢
  exact load_mono hs h
 ·rw [hl] at h ⊢
  exact look_mono hs h
def alc : Go.Op → Bool
 | .alloc _ => true
 | .box _ _ => true
 | _ => false
def alcV (P : Program) (e : Env) : Go.Op → TypeId → Nat → List PV → Prop
 | .alloc t, ty, n, cs => ∃ z, tzero P t = some z ∧ (ofVal z).solid = true ∧ ty = t ∧ n = (ofVal z).width ∧ cs = (ofVal z).cells
 | .box t x, ty, n, cs => (e.ev x).solid = true ∧ ty = t ∧ n = (e.ev x).width ∧ cs = (e.ev x).cells
 | _, _, _, _ => False
theorem alcV_congr {op : Go.Op} {ty : TypeId} {n : Nat} {cs : List PV} (h : ∀ x ∈ op.operands, e.ev x = e'.ev x) : alcV P e op ty n cs = alcV P e' op ty n cs := by
 cases op
 case box t x => simp only [alcV]; rw [h x (by simp [Go.Op.operands])]
 all_goals rfl
theorem sub_new {i : Nat} {b : Option Blk} (hi : s i = none) : s.sub (s.upd i b) := by
 intro j c hj
 by_cases hji : j = i
 ·subst hji; rw [hi] at hj; cases hj
 ·rw [St.upd_ne _ _ hji]; exact hj
theorem alc_kind {q : Nat} {op : Go.Op} (h : alc op = true) : kindOf q op = .grow := by cases op <;> first | rfl | cases h
theorem alc_dw {q : Nat} {op : Go.Op} (ha : alc op = true) {K : PV → St → Prop} {Kp : List PanicEntry → St → Prop} :
  dw P A (kindOf q op) e s K Kp op ↔ ∃ ty n cs, alcV P e op ty n cs ∧ ∀ j, s j = none → K (.pt j 0 0) (s.upd j (some (.row ty n [cs]))) := by
 rw [alc_kind ha]
 cases op <;> try (cases ha; done)
 case alloc t =>
  constructor
  ·intro h
   obtain ⟨z, h1, h2, h3⟩ := okv_ex h
   exact ⟨_, _, _, ⟨z, h1, h2, rfl, rfl, rfl⟩, fun j hj => (h3 j hj).2⟩
  ·rintro ⟨_, _, _, ⟨z, h1, h2, rfl, rfl, rfl⟩, h⟩
   exact ex_okv h1 ⟨h2, fun j hj => ⟨sub_new hj, h j hj⟩⟩
 case box t x =>
  constructor
  ·rintro ⟨h1, h2⟩
   exact ⟨_, _, _, ⟨h1, rfl, rfl, rfl⟩, fun j hj => (h2 j hj).2⟩
  ·rintro ⟨_, _, _, ⟨h1, rfl, rfl, rfl⟩, h⟩
   exact ⟨h1, fun j hj => ⟨sub_new hj, h j hj⟩⟩
def outA (P : Program) (ops : Array Oper) (o : Oper) (e : Env) (out : Option (TypeId × Nat × List PV)) : Prop :=
 gd ops o e (∃ ty n cs, out = some (ty, n, cs) ∧ alcV P e o.op ty n cs) (out = none)
theorem outA_congr {o : Oper} {out : Option (TypeId × Nat × List PV)} (h : ∀ t ∈ o.looksAt ops, e t = e' t) (ho : outA P ops o e out) : outA P ops o e' out := by
 unfold outA at ho ⊢
 rw [← gd_congr h]
 refine gd_mono ho ?_ (fun h => h)
 rintro ⟨ty, n, cs, h1, h2⟩
 exact ⟨ty, n, cs, h1, by rw [← alcV_congr (looks_ev h)]; exact h2⟩
def afterA (K : Env → St → Prop) (d : Option Tmp) (e : Env) (s : St) : Option (TypeId × Nat × List PV) → Prop
 | none => K (e.put d (.tup [])) s
 | some (ty, n, cs) => ∀ j, s j = none → K (e.put d (.pt j 0 0)) (s.upd j (some (.row ty n [cs])))
theorem stepD_alc {i : Nat} {o : Oper} (ho : ops[i]? = some o) (ha : alc o.op = true) {K : Env → St → Prop} {Kp : List PanicEntry → Env → St → Prop} :
  stepD P A ops kd N i e s K Kp ↔ (∀ t, o.dst = some t → t < N) ∧ ∃ out, outA P ops o e out ∧ afterA K o.dst e s out := by
 unfold stepD
 rw [ho]
 simp only [outA]
 cases hg : o.guard with
 | none =>
  rw [gd_none hg, alc_dw ha]
  simp only [gd_none hg]
  constructor
  ·rintro ⟨h1, ty, n, cs, h2, h3⟩
   exact ⟨h1, some (ty, n, cs), ⟨ty, n, cs, rfl, h2⟩, h3⟩
  ·rintro ⟨h1, out, ⟨ty, n, cs, rfl, h2⟩, h3⟩
   exact ⟨h1, ty, n, cs, h2, h3⟩
 | some jw =>
  obtain ⟨j, want⟩ := jw
  rw [gd_some hg, alc_dw ha]
  simp only [gd_some hg]
  constructor
  ·rintro ⟨h1, d, y, h2, h3, h4, h5⟩
   by_cases ht : y = some want
   ·obtain ⟨ty, n, cs, q1, q2⟩ := h4 ht
    exact ⟨h1, some (ty, n, cs), ⟨d, y, h2, h3, fun _ => ⟨ty, n, cs, rfl, q1⟩, fun h => absurd ht h⟩, q2⟩
   ·exact ⟨h1, none, ⟨d, y, h2, h3, fun h => absurd h ht, fun _ => rfl⟩, h5 ht⟩
  ·rintro ⟨h1, out, ⟨d, y, h2, h3, h4, h5⟩, h6⟩
   refine ⟨h1, d, y, h2, h3, fun ht => ?_, fun ht => ?_⟩
   ·obtain ⟨ty, n, cs, rfl, q2⟩ := h4 ht
    exact ⟨ty, n, cs, q2, h6⟩
   ·have := h5 ht
    subst this
    exact h6
theorem swap_alc {x i : Nat} {ox o : Oper} (hox : ops[x]? = some ox) (ho : ops[i]? = some o) (hx : alc ox.op = true) (hi : alc o.op = true) (hap : ox.apart ops o = true) {K : Env → St → Prop} {Kp : List PanicEntry → Env → St → Prop}
  (hfr : ∃ j, s j = none) (h : stepD P A ops kd N x e s (fun e s => stepD P A ops kd N i e s K Kp) Kp) : stepD P A ops kd N i e s (fun e s => stepD P A ops kd N x e s K Kp) Kp := by
 obtain ⟨dx, outx, ox1, ox2⟩ := (stepD_alc hox hx).1 h
 cases outx with
 | none =>
  obtain ⟨di, outi, oi1, oi2⟩ := (stepD_alc ho hi).1 ox2
  refine (stepD_alc ho hi).2 ⟨di, outi, outA_congr (apart_looks hap _) oi1, ?_⟩
  cases outi with
  | none =>
   refine (stepD_alc hox hx).2 ⟨dx, none, outA_congr (fun t ht => (apart_looks (apart_symm hap) _ t ht).symm) ox1, ?_⟩
   simp only [afterA] at oi2 ⊢
   rw [← apart_put hap]; exact oi2
  | some q =>
   obtain ⟨ty, n, cs⟩ := q
   intro j hj
   refine (stepD_alc hox hx).2 ⟨dx, none, outA_congr (fun t ht => (apart_looks (apart_symm hap) _ t ht).symm) ox1, ?_⟩
   have := oi2 j hj
   simp only [afterA]
   rw [← apart_put hap]; exact this
 | some p =>
  obtain ⟨tyx, nx, csx⟩ := p
  -- what i gives does not hang on the block
  have key : (∀ t, o.dst = some t → t < N) ∧ ∃ outi, outA P ops o e outi ∧ ∀ j, s j = none → afterA K o.dst (e.put ox.dst (.pt j 0 0)) (s.upd j (some (.row tyx nx [csx]))) outi := by
   have all : ∀ j, s j = none → (∀ t, o.dst = some t → t < N) ∧ ∃ outi, outA P ops o e outi ∧ afterA K o.dst (e.put ox.dst (.pt j 0 0)) (s.upd j (some (.row tyx nx [csx]))) outi := by
    intro j hj
    obtain ⟨di, outi, oi1, oi2⟩ := (stepD_alc ho hi).1 (ox2 j hj)
    exact ⟨di, outi, outA_congr (apart_looks hap _) oi1, oi2⟩
   by_cases hex : ∃ j, s j = none
   ·obtain ⟨j, hj⟩ := hex
    obtain ⟨di, outi, oi1, _⟩ := all j hj
    refine ⟨di, outi, oi1, fun k hk => ?_⟩
    obtain ⟨_, outk, ok1, ok2⟩ := all k hk
    have : outk = outi := by
     unfold outA at oi1 ok1
     cases hg : o.guard with
     | none =>
      rw [gd_none hg] at oi1 ok1
      obtain ⟨_, _, _, rfl, q1⟩ := oi1
      obtain ⟨_, _, _, rfl, q2⟩ := ok1
      cases hop : o.op <;> rw [hop] at q1 q2 hi <;> try (cases hi; done)
      ·obtain ⟨z, a1, _, rfl, rfl, rfl⟩ := q1
       obtain ⟨z', b1, _, rfl, rfl, rfl⟩ := q2
       rw [a1] at b1; cases b1; rfl
      ·obtain ⟨_, rfl, rfl, rfl⟩ := q1
       obtain ⟨_, rfl, rfl, rfl⟩ := q2
       rfl
     | some jw =>
      obtain ⟨j, want⟩ := jw
      obtain ⟨d, y, g1, g2, g3, g4⟩ := (gd_some hg).1 oi1
      obtain ⟨d', y', g1', g2', g3', g4'⟩ := (gd_some hg).1 ok1
      rw [g1] at g1'; cases g1'
      rw [g2] at g2'; cases g2'
      by_cases ht : y = some want
      ·obtain ⟨_, _, _, rfl, q1⟩ := g3 ht
       obtain ⟨_, _, _, rfl, q2⟩ := g3' ht
       cases hop : o.op <;> rw [hop] at q1 q2 hi <;> try (cases hi; done)
       ·obtain ⟨z, a1, _, rfl, rfl, rfl⟩ := q1
        obtain ⟨z', b1, _, rfl, rfl, rfl⟩ := q2
        rw [a1] at b1; cases b1; rfl
       ·obtain ⟨_, rfl, rfl, rfl⟩ := q1
        obtain ⟨_, rfl, rfl, rfl⟩ := q2
        rfl
      ·rw [g4 ht, g4' ht]
    rw [← this]; exact ok2
   ·exact absurd hfr hex
  obtain ⟨di, outi, oi1, oi2⟩ := key
  refine (stepD_alc ho hi).2 ⟨di, outi, oi1, ?_⟩
  cases outi with
  | none =>
   refine (stepD_alc hox hx).2 ⟨dx, some (tyx, nx, csx), outA_congr (fun t ht => (apart_looks (apart_symm hap) _ t ht).symm) ox1, fun j hj => ?_⟩
   have := oi2 j hj
   simp only [afterA] at this
   rw [← apart_put hap]; exact this
  | some q =>
   obtain ⟨ty, n, cs⟩ := q
   intro k hk
   refine (stepD_alc hox hx).2 ⟨dx, some (tyx, nx, csx), outA_congr (fun t ht => (apart_looks (apart_symm hap) _ t ht).symm) ox1, fun j hj => ?_⟩
   have hjk : j ≠ k := by intro e; subst e; rw [St.upd_same] at hj; cases hj
   rw [St.upd_ne _ _ hjk] at hj
   have := oi2 j hj k (by rw [St.upd_ne _ _ (Ne.symm hjk)]; exact hk)
   rw [← apart_put hap, ← St.upd_comm s _ _ hjk]; exact this
theorem bubble_eff (hKp : ∀ c e e' s, Kp c e s → Kp c e' s) {i : Nat} {o : Oper} (ho : ops[i]? = some o) (l2 : List Nat) : ∀ (l1 : List Nat) (e : Env) (s : St), A.sub s → (∃ n, ∀ i, n ≤ i → s i = none) → Off ops o l1 →
  (∀ x ∈ l1, ∀ ox, ops[x]? = some ox → (kindOf (kd x) ox.op = .pure ∨ kindOf (kd x) ox.op = .steady) ∨ (kindOf (kd x) ox.op = .read ∧ kindOf (kd i) o.op = .grow) ∨ (alc ox.op = true ∧ alc o.op = true)) →
  pwD P A ops kd N (l1 ++ i :: l2) e s K Kp → stepD P A ops kd N i e s (fun e s => pwD P A ops kd N (l1 ++ l2) e s K Kp) Kp
 | [], e, s, _, _, _, _, h => h
 | x :: l1, e, s, hAs, hF, hoff, hpure, h => by
  simp only [List.cons_append, pwD] at h
  obtain ⟨ox, hox⟩ := step_some h
  have hap := hoff x List.mem_cons_self ox hox
  have ih := fun e s hAs hF => bubble_eff hKp ho l2 l1 e s hAs hF (fun y hy => hoff y (List.mem_cons_of_mem _ hy)) (fun y hy => hpure y (List.mem_cons_of_mem _ hy))
  have main : ((kindOf (kd x) ox.op = .pure ∨ kindOf (kd x) ox.op = .steady) ∨ (kindOf (kd x) ox.op = .read ∧ kindOf (kd i) o.op = .grow)) → stepD P A ops kd N i e s (fun e s => pwD P A ops kd N (x :: l1 ++ l2) e s K Kp) Kp := fun hkx => by
   have hdet : (kindOf (kd x) ox.op).det = true := by rcases hkx with (h | h) | ⟨h, _⟩ <;> rw [h] <;> rfl
   obtain ⟨hdx, v, hv, h⟩ := (stepD_det hox hdet).1 h
   have h2 := ih _ _ hAs hF h
   refine stepD_congr ho (apart_looks hap v) (fun u s' hsub hAA hK => ?_) (fun c s' hc => hKp _ _ _ _ hc) h2
   simp only [List.cons_append, pwD]
   refine (stepD_det hox hdet).2 ⟨hdx, v, ?_, ?_⟩
   ·have hv' := valD_congr (fun t ht => (apart_looks (e := e) (apart_symm hap) u t ht).symm) hv
    rcases hkx with (hk | hk) | ⟨hk, hg⟩
    ·rw [hk] at hv' ⊢
     exact valD_pure hv'
    ·rw [hk] at hv' ⊢
     exact valD_steady hv'
    ·rw [hk] at hv' ⊢
     exact valD_read (hsub hg) hk hv'
   ·rw [← apart_put hap v u]
    exact hK
  rcases hpure x List.mem_cons_self ox hox with hk | hk | ⟨hx, hi⟩
  ·exact main (.inl hk)
  ·exact main (.inr hk)
  ·obtain ⟨n, hn⟩ := hF
   refine swap_alc hox ho hx hi hap ⟨n, hn n (Nat.le_refl _)⟩ ?_
   obtain ⟨dx, out, o1, o2⟩ := (stepD_alc hox hx).1 h
   refine (stepD_alc hox hx).2 ⟨dx, out, o1, ?_⟩
   cases out with
   | none => exact ih _ _ hAs ⟨n, hn⟩ o2
   | some q =>
    obtain ⟨ty, m, cs⟩ := q
    intro j hj
    refine ih _ _ (fun a b hb => sub_new hj a b (hAs a b hb)) ⟨max n (j + 1), fun i hi => ?_⟩ (o2 j hj)
    rw [St.upd_ne _ _ (by omega)]
    exact hn i (by omega)
def deps (ops : Array Oper) (i : Nat) : List Nat := match ops[i]? with
 | some o => (o.after.toList.filter (Region.binds .any)).map (·.on)
 | none => []
def ancs (ops : Array Oper) : List (List Nat) := (List.range ops.size).foldl (fun acc i => acc ++ [(deps ops i ++ (deps ops i).flatMap fun y => acc.getD y []).eraseDups]) []
def swp (ops : Array Oper) (kd : Nat → Nat) (x i : Nat) : Bool := match ops[x]?, ops[i]? with
 | some ox, some oi => ox.apart ops oi && (decide (kindOf (kd x) ox.op = .pure) || decide (kindOf (kd x) ox.op = .steady) || ((kindOf (kd x) ox.op).det && (kindOf (kd i) oi.op).det) || (decide (kindOf (kd x) ox.op = .read) && decide (kindOf (kd i) oi.op = .grow)) || (alc ox.op && alc oi.op))
 | _, _ => false
def planGo (ops : Array Oper) (kd : Nat → Nat) : Nat → List Nat → List Nat
 | 0, _ => []
 | n + 1, done =>
  let rs := (List.range ops.size).filter fun i => !done.contains i && (deps ops i).all fun y => done.contains y
  match (rs.find? fun i => (ops[i]?).any fun o => (kindOf (kd i) o.op).det) <|> rs.head? with
  | some i => i :: planGo ops kd n (i :: done)
  | none => []
def plan (ops : Array Oper) (kd : Nat → Nat) : List Nat := planGo ops kd ops.size []
def chk (ops : Array Oper) (kd : Nat → Nat) (p : List Nat) (A : List (List Nat)) : Bool :=
 decide (p.length = ops.size) && (List.range ops.size).all (fun i => p.contains i) && p.all (fun i => decide (i < ops.size)) && decide p.Nodup && p.all (fun x => (deps ops x).all fun y => decide (y < ops.size) && decide (y ≠ x)) &&
 decide (p.Pairwise fun x i => i ∉ deps ops x) && p.all (fun i => (A.getD i []).all fun x => (deps ops i).contains x || (deps ops i).any fun y => (A.getD y []).contains x) &&
 decide (p.Pairwise fun x i => (A.getD i []).contains x = true ∨ swp ops kd x i = true)
end
end Go.Pv
