/-
  DERIVED. GIVEN WITH THE SEED: THE CARDS: each row of YtkdimfmnialabaaDoorRows.lean that lists a variable, with what it lists TIED to the program's text (the seventh form; the later family's looks); each row that meets fmt, with fmt's text TOLD by the authors' own Lean function (tested against real Go, not proved from fmt's source: count such statements apart). THE CARD IS WHAT COUNTS. Prove the row's statement (the work); the ties are given (YtkdimfmnialabaaDoorTie.lean); close each card by the builder's one call (the guide's Derived/Test/ToyasCard.lean, 'card_holds'). Laid BY PROGRAM, IN A SANDBOX (cutbox-door.mjs). By AI agents, Wed Nov 11 2026. No macro, syntax, notation, axiom, sorry.
-/
import Derived.Test.YtkdimfmnialabaaDoorRows
import GoSem.ClaimSeven
namespace Go.Proofs.YtkdimfmnialabaaDoor
namespace Rows

/-- THE TIED CARD OF 'smockinglaw04.MacroSame'. -/
def macroSameCard : Claim7 := { stood := { row := macroSameRow, standIns := [], harness := (true, "35fbffc78be81c61c0db4a9587558ff7ca13a41c9b60fdc218373dc9bd90adba"), looks := false }, kinds := [], alts := [], laidByText := true, laidKinds := [.listed, .data], laidTests := true, laidLooks := .later }
def MacroSameCardSaid : Prop := Claim7.holds Tryd.pinned (.plain (OpenSpec.ofChange macroSameSpec)) macroSameCard

/-- THE SECOND FORM's CARD OF 'smockinglaw04.MacroSame'. -/
def macroSameUptoCard : Claim7 := { stood := { row := macroSameUptoRow, standIns := [], harness := (true, "35fbffc78be81c61c0db4a9587558ff7ca13a41c9b60fdc218373dc9bd90adba"), looks := false }, kinds := [], alts := [], laidByText := true, laidKinds := [.listed, .data], laidTests := true, laidLooks := .later }
def MacroSameUptoCardSaid : Prop := Claim7.holds Tryd.pinned (.plain (OpenSpec.upto macroSameSpec)) macroSameUptoCard
end Rows
end Go.Proofs.YtkdimfmnialabaaDoor
