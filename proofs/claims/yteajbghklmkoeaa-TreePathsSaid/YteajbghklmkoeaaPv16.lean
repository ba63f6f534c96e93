/- A logic over plain values: a block that lies inside another is frozen. -/
import Derived.Test.YteajbghklmkoeaaPv15
namespace Go.Pv
set_option linter.unusedVariables false
set_option linter.unusedSimpArgs false
section
variable {w : World} {g : G} {s : St}
theorem Conv.inner {i b m : Nat} {ty ty2 : TypeId} {sz sz2 : Nat} {els els2 : List (List PV)} {xs cs : List PV} (hib : i ≠ b) (hs : s i = some (.row ty sz els)) (hx : xs.map PV.cells = els) (hb : s b = some (.row ty2 sz2 els2)) (hm : els2[m]? = some cs)
    (hl : ∀ j z off len, .sl j z off len ∈ cs → j = i → off + len ≤ els.length) (p : PV) : Conv s [p] ((s.upd i none).upd b (some (.row ty2 sz2 (els2.set m (cs.map (fz1 i xs)))))) [p] := by
  intro g w hH
  have hne : s i ≠ none := by rw [hs]; simp
  have hnb : s b ≠ none := by rw [hb]; simp
  have hsub : (s.upd i none).sub s := by
    intro k c hk
    by_cases h : k = i
    · subst h; rw [St.upd_same] at hk; cases hk
    · rwa [St.upd_ne _ _ h] at hk
  have hlt := (hH.blk i _ hs).lt
  have hle := LEv.freeze (g := g) (w := w) (g.mu i).blk
  have hZ : (g.freeze (g.mu i).blk).Z (g.mu i).blk := .inr rfl
  have hF : Holds (g.freeze (g.mu i).blk) (s.upd i none) w := (hH.sub hsub).freeze hlt (fun k hk hb => by
    by_cases h : k = i
    · subst h; rw [St.upd_same] at hk; exact hk rfl
    · rw [St.upd_ne _ _ h] at hk; exact h (hH.inj k i hk hne hb))
  have hin : ∀ k, ((s.upd i none).upd b (some (.row ty2 sz2 (els2.set m (cs.map (fz1 i xs)))))) k ≠ none → (s.upd i none) k ≠ none := by
    intro k hk
    by_cases h : k = b
    · subst h; rw [St.upd_ne _ _ (Ne.symm hib)]; exact hnb
    · rwa [St.upd_ne _ _ h] at hk
  have hole : ∀ k bb, ((s.upd i none).upd b (some (.row ty2 sz2 (els2.set m (cs.map (fz1 i xs)))))) k = some bb → bb.isRo = false → ∃ b', (s.upd i none) k = some b' ∧ b'.isRo = false := fun k bb hk hr => by
    by_cases h : k = b
    · subst h; rw [St.upd_ne _ _ (Ne.symm hib)]; exact ⟨_, hb, rfl⟩
    · rw [St.upd_ne _ _ h] at hk; exact ⟨bb, hk, hr⟩
  refine ⟨g.freeze (g.mu i).blk, LE.freeze _, ⟨fun k hk => ?_, hF.zlt, fun k c hk => ?_, fun k l hk hl => hF.inj k l (hin k hk) (hin l hl), fun k bb hk hr => (hole k bb hk hr).elim fun b' h => hF.apart k b' h.1 h.2⟩, rfl, ?_⟩
  · by_cases h : k = b
    · subst h
      have := hF.fresh _ hk
      rw [St.upd_ne _ _ (Ne.symm hib)] at this
      exact absurd this hnb
    · rw [St.upd_ne _ _ h]; exact hF.fresh k hk
  · by_cases h : k = b
    · subst h
      rw [St.upd_same] at hk
      cases hk
      obtain ⟨_, _, _, arr, hz, h1, h2, h3, h4, h5⟩ := hH.blk k _ hb
      refine .row _ _ _ arr hz h1 h2 (by simpa using h3) (fun j c hj => ?_) (fun j c f d hj hf => ?_)
      · rw [List.getElem?_set] at hj
        split at hj
        · split at hj
          · cases hj; rw [List.length_map]; exact h4 m cs hm
          · cases hj
        · exact h4 j c hj
      · rw [List.getElem?_set] at hj
        split at hj
        · rename_i hmj
          subst hmj
          split at hj
          · cases hj
            rw [List.getElem?_map] at hf
            cases hc : cs[f]? with
            | none => rw [hc] at hf; cases hf
            | some q =>
              rw [hc] at hf
              cases hf
              obtain ⟨u, q1, q2, q3⟩ := h5 m cs f q hm hc
              refine ⟨u, q1, q2, fz1_vr hH hs hx hle hZ (fun a z o l he hji => hl a z o l ?_ hji) q3⟩
              rw [← he]; exact List.mem_of_getElem? hc
          · cases hj
        · obtain ⟨u, q1, q2, q3⟩ := h5 j c f d hj hf
          exact ⟨u, q1, q2, q3.le hle⟩
    · rw [St.upd_ne _ _ h] at hk
      exact hF.blk k c hk
  · intro k q q' v hq hq' hv
    rw [hq] at hq'
    cases hq'
    exact hv.le hle
theorem set_same {α : Type} {l : List α} {k : Nat} {a : α} (h : l[k]? = some a) : l.set k a = l := by
  obtain ⟨h1, h2⟩ := List.getElem?_eq_some_iff.1 h
  subst h2
  exact List.set_getElem_self h1
/-- The same in a tuple. -/
theorem Conv.freezeT {i : Nat} {ty : TypeId} {sz : Nat} {els : List (List PV)} {xs : List PV} (hs : s i = some (.row ty sz els)) (hx : xs.map PV.cells = els) (ts : List PV)
    (hb : ∀ j z off len, (.sl j z off len ∈ ts ∨ ∃ cs, .agg cs ∈ ts ∧ .sl j z off len ∈ cs) → j = i → off + len ≤ els.length) : Conv s [.tup ts] (s.upd i none) [fz i xs (.tup ts)] := by
  intro g w hH
  have hne : s i ≠ none := by rw [hs]; simp
  have hsub : (s.upd i none).sub s := by
    intro k b hk
    by_cases h : k = i
    · subst h; rw [St.upd_same] at hk; cases hk
    · rwa [St.upd_ne _ _ h] at hk
  have hlt := (hH.blk i _ hs).lt
  refine ⟨g.freeze (g.mu i).blk, LE.freeze _, (hH.sub hsub).freeze hlt (fun k hk hb => ?_), rfl, ?_⟩
  · by_cases h : k = i
    · subst h; rw [St.upd_same] at hk; exact hk rfl
    · rw [St.upd_ne _ _ h] at hk; exact h (hH.inj k i hk hne hb)
  · intro k q q' v hq hq' hv
    cases k with
    | succ k => simp at hq
    | zero =>
      cases hq; cases hq'
      have hle := LEv.freeze (g := g) (w := w) (g.mu i).blk
      have hZ : (g.freeze (g.mu i).blk).Z (g.mu i).blk := .inr rfl
      cases hv with
      | tup _ vs h1 h3 =>
        refine .tup _ vs (by simpa using h1) (fun j c u hc hu => ?_)
        rw [List.getElem?_map] at hc
        cases hcj : ts[j]? with
        | none => rw [hcj] at hc; cases hc
        | some c0 =>
          rw [hcj] at hc
          cases hc
          have hu' := h3 j c0 u hcj hu
          have hm := List.mem_of_getElem? hcj
          dsimp only
          split
          · rename_i ds
            cases hu' with
            | agg _ us k1 k2 k3 =>
              refine .agg _ us (by simpa using k1) k2 (fun l c x hc hx' => ?_)
              rw [List.getElem?_map] at hc
              cases hcl : ds[l]? with
              | none => rw [hcl] at hc; cases hc
              | some c1 =>
                rw [hcl] at hc
                cases hc
                exact fz1_vr hH hs hx hle hZ (fun a b c d he hji => hb a b c d (.inr ⟨ds, hm, by rw [← he]; exact List.mem_of_getElem? hcl⟩) hji) (k3 l c1 x hcl hx')
          · exact fz1_vr hH hs hx hle hZ (fun a b c d he hji => hb a b c d (.inl (by rw [← he]; exact hm)) hji) hu'
end
end Go.Pv
