/-
  DERIVED. GIVEN WITH THE SEED: THE CARDS: each row of YtngkobejdjjeeaaGreatDoorRows.lean that lists a variable, with what it lists TIED to the program's text (the seventh form; the later family's looks); each row that meets fmt, with fmt's text TOLD by the authors' own Lean function (tested against real Go, not proved from fmt's source: count such statements apart). THE CARD IS WHAT COUNTS. Prove the row's statement (the work); the ties are given (YtngkobejdjjeeaaGreatDoorTie.lean); close each card by the builder's one call (the guide's Derived/Test/ToyasCard.lean, 'card_holds'). Laid BY PROGRAM, IN A SANDBOX (cutbox-door.mjs). By AI agents, Wed Nov 11 2026. No macro, syntax, notation, axiom, sorry.
-/
import Derived.Test.YtngkobejdjjeeaaGreatDoorRows
import GoSem.ClaimSeven
namespace Go.Proofs.YtngkobejdjjeeaaGreatDoor
namespace Rows

/-- THE TIED CARD OF 'cabochonlaw16.ParseTree'. -/
def parseTreeCard : Claim7 := { stood := { row := parseTreeRow, standIns := [], harness := (true, "3cb7ad6795857febce6e2e3c0d11d2b7fe8f68f32a9d1b0ea802ec440b2262e4"), looks := true }, kinds := [], alts := [], laidByText := true, laidKinds := [.data, .data, .data, .data, .sentinel, .sentinel, .listed, .data, .pinned], laidTests := true, laidLooks := .later }
def ParseTreeCardSaid : Prop := Claim7.holds Tryz.pinned (.plain (OpenSpec.ofChange parseTreeSpec)) parseTreeCard

/-- THE TIED CARD OF 'cabochonlaw16.ParseQuiet'. -/
def parseQuietCard : Claim7 := { stood := { row := parseQuietRow, standIns := [], harness := (true, "3cb7ad6795857febce6e2e3c0d11d2b7fe8f68f32a9d1b0ea802ec440b2262e4"), looks := true }, kinds := [], alts := [], laidByText := true, laidKinds := [.data, .data, .data, .data, .sentinel, .sentinel, .listed, .data, .pinned], laidTests := true, laidLooks := .later }
def ParseQuietCardSaid : Prop := Claim7.holds Tryz.pinned (.plain (OpenSpec.ofChange parseQuietSpec)) parseQuietCard

/-- THE TIED CARD OF 'cabochonlaw16.ParseRight'. -/
def parseRightCard : Claim7 := { stood := { row := parseRightRow, standIns := [], harness := (true, "3cb7ad6795857febce6e2e3c0d11d2b7fe8f68f32a9d1b0ea802ec440b2262e4"), looks := true }, kinds := [], alts := [], laidByText := true, laidKinds := [.data, .data, .data, .data, .sentinel, .sentinel, .listed, .data, .pinned], laidTests := true, laidLooks := .later }
def ParseRightCardSaid : Prop := Claim7.holds Tryz.pinned (.plain (OpenSpec.ofChange parseRightSpec)) parseRightCard

/-- THE SECOND FORM's CARD OF 'cabochonlaw16.ParseTree'. -/
def parseTreeUptoCard : Claim7 := { stood := { row := parseTreeUptoRow, standIns := [], harness := (true, "3cb7ad6795857febce6e2e3c0d11d2b7fe8f68f32a9d1b0ea802ec440b2262e4"), looks := true }, kinds := [], alts := [], laidByText := true, laidKinds := [.data, .data, .data, .data, .sentinel, .sentinel, .listed, .data, .pinned], laidTests := true, laidLooks := .later }
def ParseTreeUptoCardSaid : Prop := Claim7.holds Tryz.pinned (.plain (OpenSpec.upto parseTreeSpec)) parseTreeUptoCard

/-- THE SECOND FORM's CARD OF 'cabochonlaw16.ParseQuiet'. -/
def parseQuietUptoCard : Claim7 := { stood := { row := parseQuietUptoRow, standIns := [], harness := (true, "3cb7ad6795857febce6e2e3c0d11d2b7fe8f68f32a9d1b0ea802ec440b2262e4"), looks := true }, kinds := [], alts := [], laidByText := true, laidKinds := [.data, .data, .data, .data, .sentinel, .sentinel, .listed, .data, .pinned], laidTests := true, laidLooks := .later }
def ParseQuietUptoCardSaid : Prop := Claim7.holds Tryz.pinned (.plain (OpenSpec.upto parseQuietSpec)) parseQuietUptoCard

/-- THE SECOND FORM's CARD OF 'cabochonlaw16.ParseRight'. -/
def parseRightUptoCard : Claim7 := { stood := { row := parseRightUptoRow, standIns := [], harness := (true, "3cb7ad6795857febce6e2e3c0d11d2b7fe8f68f32a9d1b0ea802ec440b2262e4"), looks := true }, kinds := [], alts := [], laidByText := true, laidKinds := [.data, .data, .data, .data, .sentinel, .sentinel, .listed, .data, .pinned], laidTests := true, laidLooks := .later }
def ParseRightUptoCardSaid : Prop := Claim7.holds Tryz.pinned (.plain (OpenSpec.upto parseRightSpec)) parseRightUptoCard
end Rows
end Go.Proofs.YtngkobejdjjeeaaGreatDoor
