/-
  DERIVED. GIVEN WITH THE SEED: THE CARDS: each row of YtkdimfmnialabaaGreatDoorRows.lean that lists a variable, with what it lists TIED to the program's text (the seventh form; the later family's looks); each row that meets fmt, with fmt's text TOLD by the authors' own Lean function (tested against real Go, not proved from fmt's source: count such statements apart). THE CARD IS WHAT COUNTS. Prove the row's statement (the work); the ties are given (YtkdimfmnialabaaGreatDoorTie.lean); close each card by the builder's one call (the guide's Derived/Test/ToyasCard.lean, 'card_holds'). Laid BY PROGRAM, IN A SANDBOX (cutbox-door.mjs). By AI agents, Wed Nov 11 2026. No macro, syntax, notation, axiom, sorry.
-/
import Derived.Test.YtkdimfmnialabaaGreatDoorRows
import GoSem.ClaimSeven
namespace Go.Proofs.YtkdimfmnialabaaGreatDoor
namespace Rows

/-- THE TIED CARD OF 'smockingtop.TopTrees'. -/
def topTreesCard : Claim7 := { stood := { row := topTreesRow, standIns := [], harness := (true, "1404b0297914a8c3d176c202131b4dc72133b2d6fed14f1065e095dcecc02f1e"), looks := true }, kinds := [], alts := [], laidByText := true, laidKinds := [.listed, .data], laidTests := true, laidLooks := .later }
def TopTreesCardSaid : Prop := Claim7.holds Tryz.pinned (.plain (OpenSpec.ofChange topTreesSpec)) topTreesCard

/-- THE TIED CARD OF 'smockinglaw13.SamePrints'. -/
def samePrintsCard : Claim7 := { stood := { row := samePrintsRow, standIns := [], harness := (true, "1404b0297914a8c3d176c202131b4dc72133b2d6fed14f1065e095dcecc02f1e"), looks := true }, kinds := [], alts := [], laidByText := true, laidKinds := [.data, .listed, .data, .pinned], laidTests := true, laidLooks := .later }
def SamePrintsCardSaid : Prop := Claim7.holds Tryz.pinned (.plain (OpenSpec.ofChange samePrintsSpec)) samePrintsCard

/-- THE TIED CARD OF 'smockinglaw05.ParseBehind'. -/
def parseBehindCard : Claim7 := { stood := { row := parseBehindRow, standIns := [], harness := (true, "1404b0297914a8c3d176c202131b4dc72133b2d6fed14f1065e095dcecc02f1e"), looks := true }, kinds := [], alts := [], laidByText := true, laidKinds := [.listed, .data], laidTests := true, laidLooks := .later }
def ParseBehindCardSaid : Prop := Claim7.holds Tryz.pinned (.plain (OpenSpec.ofChange parseBehindSpec)) parseBehindCard

/-- THE TIED CARD OF 'smockinglaw05.ParseBlanks'. -/
def parseBlanksCard : Claim7 := { stood := { row := parseBlanksRow, standIns := [], harness := (true, "1404b0297914a8c3d176c202131b4dc72133b2d6fed14f1065e095dcecc02f1e"), looks := true }, kinds := [], alts := [], laidByText := true, laidKinds := [.listed, .data], laidTests := true, laidLooks := .later }
def ParseBlanksCardSaid : Prop := Claim7.holds Tryz.pinned (.plain (OpenSpec.ofChange parseBlanksSpec)) parseBlanksCard

/-- THE TIED CARD OF 'smockinglaw05.ParseCounts'. -/
def parseCountsCard : Claim7 := { stood := { row := parseCountsRow, standIns := [], harness := (true, "1404b0297914a8c3d176c202131b4dc72133b2d6fed14f1065e095dcecc02f1e"), looks := true }, kinds := [], alts := [], laidByText := true, laidKinds := [.listed, .data], laidTests := true, laidLooks := .later }
def ParseCountsCardSaid : Prop := Claim7.holds Tryz.pinned (.plain (OpenSpec.ofChange parseCountsSpec)) parseCountsCard

/-- THE TIED CARD OF 'smockinglaw06.TreeDeepest'. -/
def treeDeepestCard : Claim7 := { stood := { row := treeDeepestRow, standIns := [], harness := (true, "1404b0297914a8c3d176c202131b4dc72133b2d6fed14f1065e095dcecc02f1e"), looks := true }, kinds := [], alts := [], laidByText := true, laidKinds := [.listed, .data], laidTests := true, laidLooks := .later }
def TreeDeepestCardSaid : Prop := Claim7.holds Tryz.pinned (.plain (OpenSpec.ofChange treeDeepestSpec)) treeDeepestCard

/-- THE SECOND FORM's CARD OF 'smockingtop.TopTrees'. -/
def topTreesUptoCard : Claim7 := { stood := { row := topTreesUptoRow, standIns := [], harness := (true, "1404b0297914a8c3d176c202131b4dc72133b2d6fed14f1065e095dcecc02f1e"), looks := true }, kinds := [], alts := [], laidByText := true, laidKinds := [.listed, .data], laidTests := true, laidLooks := .later }
def TopTreesUptoCardSaid : Prop := Claim7.holds Tryz.pinned (.plain (OpenSpec.upto topTreesSpec)) topTreesUptoCard

/-- THE SECOND FORM's CARD OF 'smockinglaw13.SamePrints'. -/
def samePrintsUptoCard : Claim7 := { stood := { row := samePrintsUptoRow, standIns := [], harness := (true, "1404b0297914a8c3d176c202131b4dc72133b2d6fed14f1065e095dcecc02f1e"), looks := true }, kinds := [], alts := [], laidByText := true, laidKinds := [.data, .listed, .data, .pinned], laidTests := true, laidLooks := .later }
def SamePrintsUptoCardSaid : Prop := Claim7.holds Tryz.pinned (.plain (OpenSpec.upto samePrintsSpec)) samePrintsUptoCard

/-- THE SECOND FORM's CARD OF 'smockinglaw05.ParseBehind'. -/
def parseBehindUptoCard : Claim7 := { stood := { row := parseBehindUptoRow, standIns := [], harness := (true, "1404b0297914a8c3d176c202131b4dc72133b2d6fed14f1065e095dcecc02f1e"), looks := true }, kinds := [], alts := [], laidByText := true, laidKinds := [.listed, .data], laidTests := true, laidLooks := .later }
def ParseBehindUptoCardSaid : Prop := Claim7.holds Tryz.pinned (.plain (OpenSpec.upto parseBehindSpec)) parseBehindUptoCard

/-- THE SECOND FORM's CARD OF 'smockinglaw05.ParseBlanks'. -/
def parseBlanksUptoCard : Claim7 := { stood := { row := parseBlanksUptoRow, standIns := [], harness := (true, "1404b0297914a8c3d176c202131b4dc72133b2d6fed14f1065e095dcecc02f1e"), looks := true }, kinds := [], alts := [], laidByText := true, laidKinds := [.listed, .data], laidTests := true, laidLooks := .later }
def ParseBlanksUptoCardSaid : Prop := Claim7.holds Tryz.pinned (.plain (OpenSpec.upto parseBlanksSpec)) parseBlanksUptoCard

/-- THE SECOND FORM's CARD OF 'smockinglaw05.ParseCounts'. -/
def parseCountsUptoCard : Claim7 := { stood := { row := parseCountsUptoRow, standIns := [], harness := (true, "1404b0297914a8c3d176c202131b4dc72133b2d6fed14f1065e095dcecc02f1e"), looks := true }, kinds := [], alts := [], laidByText := true, laidKinds := [.listed, .data], laidTests := true, laidLooks := .later }
def ParseCountsUptoCardSaid : Prop := Claim7.holds Tryz.pinned (.plain (OpenSpec.upto parseCountsSpec)) parseCountsUptoCard

/-- THE SECOND FORM's CARD OF 'smockinglaw06.TreeDeepest'. -/
def treeDeepestUptoCard : Claim7 := { stood := { row := treeDeepestUptoRow, standIns := [], harness := (true, "1404b0297914a8c3d176c202131b4dc72133b2d6fed14f1065e095dcecc02f1e"), looks := true }, kinds := [], alts := [], laidByText := true, laidKinds := [.listed, .data], laidTests := true, laidLooks := .later }
def TreeDeepestUptoCardSaid : Prop := Claim7.holds Tryz.pinned (.plain (OpenSpec.upto treeDeepestSpec)) treeDeepestUptoCard
end Rows
end Go.Proofs.YtkdimfmnialabaaGreatDoor
