/-
  DERIVED. GIVEN WITH THE SEED: THE CARDS: each row of YtpaajkbjhnphpaaDoorRows.lean that lists a variable, with what it lists TIED to the program's text (the seventh form; the later family's looks); each row that meets fmt, with fmt's text TOLD by the authors' own Lean function (tested against real Go, not proved from fmt's source: count such statements apart). THE CARD IS WHAT COUNTS. Prove the row's statement (the work); the ties are given (YtpaajkbjhnphpaaDoorTie.lean); close each card by the builder's one call (the guide's Derived/Test/ToyasCard.lean, 'card_holds'). Laid BY PROGRAM, IN A SANDBOX (cutbox-door.mjs). By AI agents, Wed Nov 11 2026. No macro, syntax, notation, axiom, sorry.
-/
import Derived.Test.YtpaajkbjhnphpaaDoorRows
import GoSem.ClaimSeven
namespace Go.Proofs.YtpaajkbjhnphpaaDoor
namespace Rows

/-- THE TIED CARD OF 'smockinglaw04.MacroDefines'. -/
def macroDefinesCard : Claim7 := { stood := { row := macroDefinesRow, standIns := [], harness := (true, "6863ba3002193db2e3b45b936b94ec881e0da41d4077634d90b85e91259ced2b"), looks := false }, kinds := [], alts := [], laidByText := true, laidKinds := [.listed, .data], laidTests := true, laidLooks := .later }
def MacroDefinesCardSaid : Prop := Claim7.holds Tryd.pinned (.plain (OpenSpec.ofChange macroDefinesSpec)) macroDefinesCard

/-- THE TIED CARD OF 'smockinglaw04.MacroFinds'. -/
def macroFindsCard : Claim7 := { stood := { row := macroFindsRow, standIns := [], harness := (true, "6863ba3002193db2e3b45b936b94ec881e0da41d4077634d90b85e91259ced2b"), looks := false }, kinds := [], alts := [], laidByText := true, laidKinds := [.listed, .data], laidTests := true, laidLooks := .later }
def MacroFindsCardSaid : Prop := Claim7.holds Tryd.pinned (.plain (OpenSpec.ofChange macroFindsSpec)) macroFindsCard

/-- THE TIED CARD OF 'smockinglaw04.MacroBefore'. -/
def macroBeforeCard : Claim7 := { stood := { row := macroBeforeRow, standIns := [], harness := (true, "6863ba3002193db2e3b45b936b94ec881e0da41d4077634d90b85e91259ced2b"), looks := false }, kinds := [], alts := [], laidByText := true, laidKinds := [.listed, .data], laidTests := true, laidLooks := .later }
def MacroBeforeCardSaid : Prop := Claim7.holds Tryd.pinned (.plain (OpenSpec.ofChange macroBeforeSpec)) macroBeforeCard

/-- THE TIED CARD OF 'smockinglaw04.MacroExpands'. -/
def macroExpandsCard : Claim7 := { stood := { row := macroExpandsRow, standIns := [], harness := (true, "6863ba3002193db2e3b45b936b94ec881e0da41d4077634d90b85e91259ced2b"), looks := false }, kinds := [], alts := [], laidByText := true, laidKinds := [.listed, .data], laidTests := true, laidLooks := .later }
def MacroExpandsCardSaid : Prop := Claim7.holds Tryd.pinned (.plain (OpenSpec.ofChange macroExpandsSpec)) macroExpandsCard

/-- THE TIED CARD OF 'smockinglaw04.MacroBodies'. -/
def macroBodiesCard : Claim7 := { stood := { row := macroBodiesRow, standIns := [], harness := (true, "6863ba3002193db2e3b45b936b94ec881e0da41d4077634d90b85e91259ced2b"), looks := false }, kinds := [], alts := [], laidByText := true, laidKinds := [.listed, .data], laidTests := true, laidLooks := .later }
def MacroBodiesCardSaid : Prop := Claim7.holds Tryd.pinned (.plain (OpenSpec.ofChange macroBodiesSpec)) macroBodiesCard

/-- THE TIED CARD OF 'smockinglaw04.MacroSame'. -/
def macroSameCard : Claim7 := { stood := { row := macroSameRow, standIns := [], harness := (true, "6863ba3002193db2e3b45b936b94ec881e0da41d4077634d90b85e91259ced2b"), looks := false }, kinds := [], alts := [], laidByText := true, laidKinds := [.listed, .data], laidTests := true, laidLooks := .later }
def MacroSameCardSaid : Prop := Claim7.holds Tryd.pinned (.plain (OpenSpec.ofChange macroSameSpec)) macroSameCard

/-- THE TIED CARD OF 'smockinglaw04.MacroGuesses'. -/
def macroGuessesCard : Claim7 := { stood := { row := macroGuessesRow, standIns := [], harness := (true, "6863ba3002193db2e3b45b936b94ec881e0da41d4077634d90b85e91259ced2b"), looks := false }, kinds := [], alts := [], laidByText := true, laidKinds := [.listed, .data], laidTests := true, laidLooks := .later }
def MacroGuessesCardSaid : Prop := Claim7.holds Tryd.pinned (.plain (OpenSpec.ofChange macroGuessesSpec)) macroGuessesCard

/-- THE SECOND FORM's CARD OF 'smockinglaw04.MacroDefines'. -/
def macroDefinesUptoCard : Claim7 := { stood := { row := macroDefinesUptoRow, standIns := [], harness := (true, "6863ba3002193db2e3b45b936b94ec881e0da41d4077634d90b85e91259ced2b"), looks := false }, kinds := [], alts := [], laidByText := true, laidKinds := [.listed, .data], laidTests := true, laidLooks := .later }
def MacroDefinesUptoCardSaid : Prop := Claim7.holds Tryd.pinned (.plain (OpenSpec.upto macroDefinesSpec)) macroDefinesUptoCard

/-- THE SECOND FORM's CARD OF 'smockinglaw04.MacroFinds'. -/
def macroFindsUptoCard : Claim7 := { stood := { row := macroFindsUptoRow, standIns := [], harness := (true, "6863ba3002193db2e3b45b936b94ec881e0da41d4077634d90b85e91259ced2b"), looks := false }, kinds := [], alts := [], laidByText := true, laidKinds := [.listed, .data], laidTests := true, laidLooks := .later }
def MacroFindsUptoCardSaid : Prop := Claim7.holds Tryd.pinned (.plain (OpenSpec.upto macroFindsSpec)) macroFindsUptoCard

/-- THE SECOND FORM's CARD OF 'smockinglaw04.MacroBefore'. -/
def macroBeforeUptoCard : Claim7 := { stood := { row := macroBeforeUptoRow, standIns := [], harness := (true, "6863ba3002193db2e3b45b936b94ec881e0da41d4077634d90b85e91259ced2b"), looks := false }, kinds := [], alts := [], laidByText := true, laidKinds := [.listed, .data], laidTests := true, laidLooks := .later }
def MacroBeforeUptoCardSaid : Prop := Claim7.holds Tryd.pinned (.plain (OpenSpec.upto macroBeforeSpec)) macroBeforeUptoCard

/-- THE SECOND FORM's CARD OF 'smockinglaw04.MacroExpands'. -/
def macroExpandsUptoCard : Claim7 := { stood := { row := macroExpandsUptoRow, standIns := [], harness := (true, "6863ba3002193db2e3b45b936b94ec881e0da41d4077634d90b85e91259ced2b"), looks := false }, kinds := [], alts := [], laidByText := true, laidKinds := [.listed, .data], laidTests := true, laidLooks := .later }
def MacroExpandsUptoCardSaid : Prop := Claim7.holds Tryd.pinned (.plain (OpenSpec.upto macroExpandsSpec)) macroExpandsUptoCard

/-- THE SECOND FORM's CARD OF 'smockinglaw04.MacroBodies'. -/
def macroBodiesUptoCard : Claim7 := { stood := { row := macroBodiesUptoRow, standIns := [], harness := (true, "6863ba3002193db2e3b45b936b94ec881e0da41d4077634d90b85e91259ced2b"), looks := false }, kinds := [], alts := [], laidByText := true, laidKinds := [.listed, .data], laidTests := true, laidLooks := .later }
def MacroBodiesUptoCardSaid : Prop := Claim7.holds Tryd.pinned (.plain (OpenSpec.upto macroBodiesSpec)) macroBodiesUptoCard

/-- THE SECOND FORM's CARD OF 'smockinglaw04.MacroSame'. -/
def macroSameUptoCard : Claim7 := { stood := { row := macroSameUptoRow, standIns := [], harness := (true, "6863ba3002193db2e3b45b936b94ec881e0da41d4077634d90b85e91259ced2b"), looks := false }, kinds := [], alts := [], laidByText := true, laidKinds := [.listed, .data], laidTests := true, laidLooks := .later }
def MacroSameUptoCardSaid : Prop := Claim7.holds Tryd.pinned (.plain (OpenSpec.upto macroSameSpec)) macroSameUptoCard

/-- THE SECOND FORM's CARD OF 'smockinglaw04.MacroGuesses'. -/
def macroGuessesUptoCard : Claim7 := { stood := { row := macroGuessesUptoRow, standIns := [], harness := (true, "6863ba3002193db2e3b45b936b94ec881e0da41d4077634d90b85e91259ced2b"), looks := false }, kinds := [], alts := [], laidByText := true, laidKinds := [.listed, .data], laidTests := true, laidLooks := .later }
def MacroGuessesUptoCardSaid : Prop := Claim7.holds Tryd.pinned (.plain (OpenSpec.upto macroGuessesSpec)) macroGuessesUptoCard
end Rows
end Go.Proofs.YtpaajkbjhnphpaaDoor
