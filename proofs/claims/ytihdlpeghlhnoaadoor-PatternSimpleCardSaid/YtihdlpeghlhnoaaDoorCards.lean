/-
  DERIVED. GIVEN WITH THE SEED: THE CARDS: each row of YtihdlpeghlhnoaaDoorRows.lean that lists a variable, with what it lists TIED to the program's text (the seventh form; the later family's looks); each row that meets fmt, with fmt's text TOLD by the authors' own Lean function (tested against real Go, not proved from fmt's source: count such statements apart). THE CARD IS WHAT COUNTS. Prove the row's statement (the work); the ties are given (YtihdlpeghlhnoaaDoorTie.lean); close each card by the builder's one call (the guide's Derived/Test/ToyasCard.lean, 'card_holds'). Laid BY PROGRAM, IN A SANDBOX (cutbox-door.mjs). By AI agents, Wed Nov 11 2026. No macro, syntax, notation, axiom, sorry.
-/
import Derived.Test.YtihdlpeghlhnoaaDoorRows
import GoSem.ClaimSeven
namespace Go.Proofs.YtihdlpeghlhnoaaDoor
namespace Rows

/-- THE TIED CARD OF 'aigrettelaw13.PatternSimple'. -/
def patternSimpleCard : Claim7 := { stood := { row := patternSimpleRow, standIns := [], harness := (true, "327676b89681660f39f8ca6492b10ddd766389f01776174d8a506a1a0e31e9eb"), looks := true }, kinds := [], alts := [], laidByText := true, laidKinds := [.data], laidTests := true, laidLooks := .later }
def PatternSimpleCardSaid : Prop := Claim7.holds Tryd.pinned (.plain (OpenSpec.ofChange patternSimpleSpec)) patternSimpleCard

/-- THE TIED CARD OF 'aigrettelaw13.PatternKnown'. -/
def patternKnownCard : Claim7 := { stood := { row := patternKnownRow, standIns := [], harness := (true, "327676b89681660f39f8ca6492b10ddd766389f01776174d8a506a1a0e31e9eb"), looks := true }, kinds := [], alts := [], laidByText := true, laidKinds := [.data], laidTests := true, laidLooks := .later }
def PatternKnownCardSaid : Prop := Claim7.holds Tryd.pinned (.plain (OpenSpec.ofChange patternKnownSpec)) patternKnownCard

/-- THE SECOND FORM's CARD OF 'aigrettelaw13.PatternSimple'. -/
def patternSimpleUptoCard : Claim7 := { stood := { row := patternSimpleUptoRow, standIns := [], harness := (true, "327676b89681660f39f8ca6492b10ddd766389f01776174d8a506a1a0e31e9eb"), looks := true }, kinds := [], alts := [], laidByText := true, laidKinds := [.data], laidTests := true, laidLooks := .later }
def PatternSimpleUptoCardSaid : Prop := Claim7.holds Tryd.pinned (.plain (OpenSpec.upto patternSimpleSpec)) patternSimpleUptoCard

/-- THE SECOND FORM's CARD OF 'aigrettelaw13.PatternKnown'. -/
def patternKnownUptoCard : Claim7 := { stood := { row := patternKnownUptoRow, standIns := [], harness := (true, "327676b89681660f39f8ca6492b10ddd766389f01776174d8a506a1a0e31e9eb"), looks := true }, kinds := [], alts := [], laidByText := true, laidKinds := [.data], laidTests := true, laidLooks := .later }
def PatternKnownUptoCardSaid : Prop := Claim7.holds Tryd.pinned (.plain (OpenSpec.upto patternKnownSpec)) patternKnownUptoCard
end Rows
end Go.Proofs.YtihdlpeghlhnoaaDoor
