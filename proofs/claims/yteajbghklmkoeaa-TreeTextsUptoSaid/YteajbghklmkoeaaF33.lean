/- tree.Short. -/
import Derived.Test.YteajbghklmkoeaaF63
import Derived.Test.YteajbghklmkoeaaF32
import Derived.Test.YteajbghklmkoeaaJoin
namespace Go.Pv
open Go.Proofs
set_option linter.unusedVariables false
set_option linter.unusedSimpArgs false
set_option maxRecDepth 100000
set_option maxHeartbeats 1000000
def inS (x : Nd) (a : Int) : Bool := decide (x.fr ≤ a) && decide (a < x.to)
def txtA (l : List Tk) (a : Int) : ByteArray := (l.getD a.toNat default).text
/-- The texts that a short form shows. -/
def shows (l : List Tk) (x : Nd) (v : List Int) : List ByteArray := (v.filter (inS x)).map (txtA l)
@[reducible] def scells (b : List ByteArray) : List (List PV) := b.map fun c => [.lit (.string c)]
def shOk (n : Nat) (x : Nd) (v : List Int) : Prop := ascF n (-1) v = true ∧ plc n x
instance (n : Nat) (x : Nd) (v : List Int) : Decidable (shOk n x v) := by unfold shOk; exact inferInstance
def sp : ByteArray := ⟨#[32]⟩
theorem shows_succ (l : List Tk) (x : Nd) (v : List Int) (j : Nat) (a : Int) (h : v[j]? = some a) : shows l x (v.take (j + 1)) = shows l x (v.take j) ++ (if inS x a then [txtA l a] else []) := by
  obtain ⟨hj, rfl⟩ := List.getElem?_eq_some_iff.1 h
  rw [List.take_succ_eq_append_getElem hj]
  simp only [shows, List.filter_append, List.map_append]
  by_cases hi : inS x v[j] = true
  · simp [hi]
  · simp [hi]
theorem shows_none (l : List Tk) (x : Nd) (v : List Int) (h : ∀ a ∈ v, inS x a = false) : shows l x v = [] := by
  simp only [shows, List.map_eq_nil_iff, List.filter_eq_nil_iff]
  intro a ha
  simp [h a ha]
theorem shows_app (l : List Tk) (x : Nd) (u v : List Int) : shows l x (u ++ v) = shows l x u ++ shows l x v := by simp [shows]
theorem shows_len (l : List Tk) (x : Nd) (v : List Int) : (shows l x v).length ≤ v.length := by
  simpa [shows] using List.length_filter_le _ _
theorem txtA_le (l : List Tk) (a : Int) : (txtA l a).size ≤ bulkT l := by
  unfold txtA
  by_cases h : a.toNat < l.length
  · have := tok_le l a.toNat h
    rw [List.getD_eq_getElem?_getD, List.getElem?_eq_getElem h]
    simp; omega
  · rw [List.getD_eq_getElem?_getD, List.getElem?_eq_none (by omega)]
    exact Nat.zero_le _
theorem sizes_le {m : Nat} : ∀ (xs : List ByteArray), (∀ y ∈ xs, y.size ≤ m) → sizes xs ≤ xs.length * m
  | [], _ => by simp [sizes]
  | y :: xs, h => by
    have h1 := sizes_le xs (fun z hz => h z (by simp [hz]))
    have h2 := h y (by simp)
    simp only [sizes, List.map_cons, List.sum_cons, List.length_cons, Nat.add_mul, Nat.one_mul] at *
    omega
theorem shows_sizes (l : List Tk) (x : Nd) (v : List Int) (hv : v.length ≤ 1000000) (hb : bulkT l ≤ 10000000) : sizes (shows l x v) ≤ 10000000000000 := by
  have h1 := sizes_le (m := bulkT l) (shows l x v) (by
    intro y hy
    simp only [shows, List.mem_map] at hy
    obtain ⟨a, _, rfl⟩ := hy
    exact txtA_le l a)
  have h2 := shows_len l x v
  have h3 : (shows l x v).length * bulkT l ≤ 1000000 * 10000000 := Nat.mul_le_mul (by omega) hb
  omega
theorem short_c (k kv : VK) (l : List Tk) (v : List Int) (x : Nd) (hl : l.length ≤ 1000000) (hv : v.length ≤ 1000000) (hb : bulkT l ≤ 10000000) (s : St) : PCalls Try.prog 33 [toks k l, ints kv v, encU x] s (fun r s' => s' = s ∧
    r = .ret (if shOk l.length x v then .tup [.lit (.string ⟨(joinL (shows l x v) sp).toArray⟩), .lit (.int .i64 0)] else .tup [.lit (.string ⟨#[]⟩), .lit (.int .i64 3)])) := by
  refine PCalls.of Try.func33 rfl (by rfl) (by simp [Try.ntmps33]) ?_
  refine pwC_sound _ _ _ _ ?_
  refine pwC_cut fun K hK => ?_
  simp [Try.ntmps33]
  intro i5 h5
  refine hK _ _ ?_
  clear hK K
  refine pwC_cut fun K hK => ?_
  simp
  refine (sight_c k kv (l.map encT) v hv _).mono ?_
  rintro _ _ ⟨rfl, rfl⟩
  by_cases ha : ascF l.length (-1) v = true
  · by_cases hp : plc l.length x
    · obtain ⟨p1, p2, p3⟩ := hp
      have hok : shOk l.length x v := ⟨ha, p1, p2, p3⟩
      have p1' : ¬ x.fr < 0 := by omega
      have p2' : ¬ x.to < x.fr := by omega
      have p3' : ¬ (l.length : Int) < x.to := by omega
      simp [ha, p1', p2', p3']
      refine hK _ _ ?_
      clear hK K
      refine pwC_cut fun K hK => ?_
      simp
      refine hK _ _ ?_
      clear hK K
      generalize hbase : St.upd s i5 (some (.row 24 6 [encC x])) = base
      have b5 : base i5 = some (.row 24 6 [encC x]) := by rw [← hbase]; simp
      have hsb : s.sub base := by rw [← hbase]; exact sub_refl.upd h5
      clear hbase
      refine pwC_cut fun K hK => ?_
      simp [b5]
      have hm := asc_mono v (-1) ha
      have hge := asc_ge v (-1) ha
      refine (search_c kv v x.fr hv hm _).mono ?_
      rintro _ s1 ⟨hs1, i, b, hi, hlo, hhi, rfl⟩
      rw [hs1]
      clear hs1 s1
      simp
      refine hK _ _ ?_
      clear hK K
      refine pwC_cut fun K' hK' => ?_
      simp
      refine PW.loop (fun n e s' => ∃ j : Nat, j + n = v.length ∧ i ≤ j ∧ e 0 = toks k l ∧ e 1 = ints kv v ∧ e 5 = .pt i5 0 0 ∧ e 9 = .lit (.int .i64 j) ∧ OwnL 9 1 base (scells (shows l x (v.take j))) (e 8) s') (v.length - i) ⟨i, by omega, by omega, by simp, by simp, by simp, by simp, ?_⟩ ?_
      · rw [shows_none l x (v.take i)]
        · simpa [scells] using OwnL.nil _ _ _
        · intro a ha
          obtain ⟨c, hc⟩ := List.getElem?_of_mem ha
          have hci : c < i := by have := (List.getElem?_eq_some_iff.1 hc).1; simp at this; omega
          rw [List.getElem?_take_of_lt hci] at hc
          have := hlo c a hci hc
          simp [inS]; omega
      rintro n e s' ⟨j, hj, hij, e0, e1, e5, e9, hB⟩
      refine pwC_sound _ _ _ _ ?_
      refine pwC_cut fun K hK => ?_
      have c5 := hB.at b5
      simp
      refine PW.drawn (fun i => 0) [0, 1, 2, 3, 4, 5, 6, 7, 8, 9, 10, 11, 12] mixed_ (fun _ _ _ _ h => h) (by kernel_rfl) ?_
      by_cases hlt : j < v.length
      · have hg : v[j]? = some v[j] := List.getElem?_eq_getElem hlt
        have hlt' : (j : Int) < v.length := by omega
        have har := hge v[j] (List.mem_of_getElem? hg)
        have hfa := hhi j _ hij hg
        by_cases hat : v[j] < x.to
        · simp [e0, e1, e5, e9, c5, hlt, hlt', hg, hat]
          refine hK _ _ ?_
          clear hK K
          obtain ⟨a, haj⟩ : ∃ a : Nat, v[j] = (a : Int) := ⟨v[j].toNat, by omega⟩
          have hal : a < l.length := by omega
          have hga : l[a]? = some l[a] := List.getElem?_eq_getElem hal
          rw [haj] at hg
          have ht : txtA l (a : Int) = l[a].text := by simp [txtA, hal]
          have hin : inS x (a : Int) = true := by simp [inS]; omega
          have hsucc := shows_succ l x v j a hg
          rw [if_pos hin, ht] at hsucc
          have hsl := shows_len l x (v.take (j + 1))
          have w1 : IntKind.i64.wrap ((j : Int) + 1) = ((j + 1 : Nat) : Int) := by rw [wrap_i64 (by omega) (by omega)]; omega
          simp [e0, e1, e5, e9, c5, hlt, hlt', hg, haj, hga, hal]
          refine appOwn (b := 16) (z := .string ⟨#[]⟩) (ys := [[.lit (.string l[a].text)]]) hB (by simp) (by simp) (by simp) (by simp) rfl (by omega) (by simp) (fun s => by simp [elemsOf]) (by simp [scells]; have := shows_len l x (v.take j); simp at this; omega) (fun v1 s1 hB1 => ⟨n - 1, by omega, j + 1, by omega, by omega, w1, ?_⟩)
          rw [hsucc]
          simpa [scells] using hB1
        · simp [e0, e1, e5, e9, c5, hlt, hlt', hg, hat]
          refine hK' _ _ ?_
          clear hK hK' K K'
          have hend : shows l x v = shows l x (v.take j) := by
            have h1 := shows_app l x (v.take j) (v.drop j)
            rw [List.take_append_drop] at h1
            rw [h1, shows_none l x (v.drop j), List.append_nil]
            intro a ha
            obtain ⟨c, hc⟩ := List.getElem?_of_mem ha
            rw [List.getElem?_drop] at hc
            have := hm j (j + c) _ _ (by omega) hg hc
            simp [inS]; omega
          simp
          rw [← hend] at hB
          have hxs := Conv.own (xs := (shows l x v).map fun s => .lit (.string s)) hB (by simp [scells]) [.lit (.string sp)]
          refine (PCalls.args hxs (join_c .any (shows l x v) sp (by have := shows_len l x v; omega) (by decide) (shows_sizes l x v hv hb) base)).mono ?_
          rintro _ s1 ⟨hs1, rfl⟩
          rw [hs1]
          simp [hok]
          exact hsb
      · have hlt' : ¬ (j : Int) < v.length := by omega
        simp [e0, e1, e5, e9, c5, hlt, hlt']
        refine hK' _ _ ?_
        clear hK hK' K K'
        simp
        have hend : shows l x v = shows l x (v.take j) := by rw [List.take_of_length_le (by omega)]
        rw [← hend] at hB
        have hxs := Conv.own (xs := (shows l x v).map fun s => .lit (.string s)) hB (by simp [scells]) [.lit (.string sp)]
        refine (PCalls.args hxs (join_c .any (shows l x v) sp (by have := shows_len l x v; omega) (by decide) (shows_sizes l x v hv hb) base)).mono ?_
        rintro _ s1 ⟨hs1, rfl⟩
        rw [hs1]
        simp [hok]
        exact hsb
    · have hp' : ¬ (0 ≤ x.fr ∧ x.fr ≤ x.to ∧ x.to ≤ l.length) := hp
      have hok : ¬ shOk l.length x v := fun h => hp h.2
      by_cases p1 : x.fr < 0
      · simp [ha, p1, hok]
        exact sub_refl.upd h5
      · by_cases p2 : x.to < x.fr
        · simp [ha, p1, p2, hok]
          exact sub_refl.upd h5
        · have p3 : (l.length : Int) < x.to := by omega
          simp [ha, p1, p2, p3, hok]
          exact sub_refl.upd h5
  · have hok : ¬ shOk l.length x v := fun h => ha h.1
    simp [ha, hok]
    exact sub_refl.upd h5
end Go.Pv
