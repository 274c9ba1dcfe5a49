/-
  DERIVED. GIVEN WITH THE SEED: THE CARDS: each row of YtihdlpeghlhnoaaGreatDoorRows.lean that lists a variable, with what it lists TIED to the program's text (the seventh form; the later family's looks); each row that meets fmt, with fmt's text TOLD by the authors' own Lean function (tested against real Go, not proved from fmt's source: count such statements apart). THE CARD IS WHAT COUNTS. Prove the row's statement (the work); the ties are given (YtihdlpeghlhnoaaGreatDoorTie.lean); close each card by the builder's one call (the guide's Derived/Test/ToyasCard.lean, 'card_holds'). Laid BY PROGRAM, IN A SANDBOX (cutbox-door.mjs). By AI agents, Wed Nov 11 2026. No macro, syntax, notation, axiom, sorry.
-/
import Derived.Test.YtihdlpeghlhnoaaGreatDoorRows
import GoSem.ClaimSeven
namespace Go.Proofs.YtihdlpeghlhnoaaGreatDoor
namespace Rows

/-- THE TIED CARD OF 'aigrettelaw13.PatternPoints'. -/
def patternPointsCard : Claim7 := { stood := { row := patternPointsRow, standIns := [], harness := (true, "4b8f8a562a8bd9698c3e180e323e99f17011b2f434d0c7de81bf406eff542b82"), looks := true }, kinds := [], alts := [], laidByText := true, laidKinds := [.data], laidTests := true, laidLooks := .later }
def PatternPointsCardSaid : Prop := Claim7.holds Tryz.pinned (.plain (OpenSpec.ofChange patternPointsSpec)) patternPointsCard

/-- THE TIED CARD OF 'aigrettelaw13.PatternCuts'. -/
def patternCutsCard : Claim7 := { stood := { row := patternCutsRow, standIns := [], harness := (true, "4b8f8a562a8bd9698c3e180e323e99f17011b2f434d0c7de81bf406eff542b82"), looks := true }, kinds := [], alts := [], laidByText := true, laidKinds := [.data], laidTests := true, laidLooks := .later }
def PatternCutsCardSaid : Prop := Claim7.holds Tryz.pinned (.plain (OpenSpec.ofChange patternCutsSpec)) patternCutsCard

/-- THE TIED CARD OF 'aigrettelaw13.PatternTriangles'. -/
def patternTrianglesCard : Claim7 := { stood := { row := patternTrianglesRow, standIns := [], harness := (true, "4b8f8a562a8bd9698c3e180e323e99f17011b2f434d0c7de81bf406eff542b82"), looks := true }, kinds := [], alts := [], laidByText := true, laidKinds := [.data], laidTests := true, laidLooks := .later }
def PatternTrianglesCardSaid : Prop := Claim7.holds Tryz.pinned (.plain (OpenSpec.ofChange patternTrianglesSpec)) patternTrianglesCard

/-- THE TIED CARD OF 'aigrettelaw13.PatternHulls'. -/
def patternHullsCard : Claim7 := { stood := { row := patternHullsRow, standIns := [], harness := (true, "4b8f8a562a8bd9698c3e180e323e99f17011b2f434d0c7de81bf406eff542b82"), looks := true }, kinds := [], alts := [], laidByText := true, laidKinds := [.data], laidTests := true, laidLooks := .later }
def PatternHullsCardSaid : Prop := Claim7.holds Tryz.pinned (.plain (OpenSpec.ofChange patternHullsSpec)) patternHullsCard

/-- THE TIED CARD OF 'aigrettelaw13.PatternPick'. -/
def patternPickCard : Claim7 := { stood := { row := patternPickRow, standIns := [], harness := (true, "4b8f8a562a8bd9698c3e180e323e99f17011b2f434d0c7de81bf406eff542b82"), looks := true }, kinds := [], alts := [], laidByText := true, laidKinds := [.data], laidTests := true, laidLooks := .later }
def PatternPickCardSaid : Prop := Claim7.holds Tryz.pinned (.plain (OpenSpec.ofChange patternPickSpec)) patternPickCard

/-- THE TIED CARD OF 'aigrettelaw13.PatternParts'. -/
def patternPartsCard : Claim7 := { stood := { row := patternPartsRow, standIns := [], harness := (true, "4b8f8a562a8bd9698c3e180e323e99f17011b2f434d0c7de81bf406eff542b82"), looks := true }, kinds := [], alts := [], laidByText := true, laidKinds := [.data], laidTests := true, laidLooks := .later }
def PatternPartsCardSaid : Prop := Claim7.holds Tryz.pinned (.plain (OpenSpec.ofChange patternPartsSpec)) patternPartsCard

/-- THE TIED CARD OF 'aigrettelaw13.PatternEars'. -/
def patternEarsCard : Claim7 := { stood := { row := patternEarsRow, standIns := [], harness := (true, "4b8f8a562a8bd9698c3e180e323e99f17011b2f434d0c7de81bf406eff542b82"), looks := true }, kinds := [], alts := [], laidByText := true, laidKinds := [.data], laidTests := true, laidLooks := .later }
def PatternEarsCardSaid : Prop := Claim7.holds Tryz.pinned (.plain (OpenSpec.ofChange patternEarsSpec)) patternEarsCard

/-- THE TIED CARD OF 'aigrettelaw13.PatternDivided'. -/
def patternDividedCard : Claim7 := { stood := { row := patternDividedRow, standIns := [], harness := (true, "4b8f8a562a8bd9698c3e180e323e99f17011b2f434d0c7de81bf406eff542b82"), looks := true }, kinds := [], alts := [], laidByText := true, laidKinds := [.data], laidTests := true, laidLooks := .later }
def PatternDividedCardSaid : Prop := Claim7.holds Tryz.pinned (.plain (OpenSpec.ofChange patternDividedSpec)) patternDividedCard

/-- THE TIED CARD OF 'aigrettelaw13.PatternMoved'. -/
def patternMovedCard : Claim7 := { stood := { row := patternMovedRow, standIns := [], harness := (true, "4b8f8a562a8bd9698c3e180e323e99f17011b2f434d0c7de81bf406eff542b82"), looks := true }, kinds := [], alts := [], laidByText := true, laidKinds := [.data], laidTests := true, laidLooks := .later }
def PatternMovedCardSaid : Prop := Claim7.holds Tryz.pinned (.plain (OpenSpec.ofChange patternMovedSpec)) patternMovedCard

/-- THE TIED CARD OF 'aigrettelaw13.PatternHulled'. -/
def patternHulledCard : Claim7 := { stood := { row := patternHulledRow, standIns := [], harness := (true, "4b8f8a562a8bd9698c3e180e323e99f17011b2f434d0c7de81bf406eff542b82"), looks := true }, kinds := [], alts := [], laidByText := true, laidKinds := [.data], laidTests := true, laidLooks := .later }
def PatternHulledCardSaid : Prop := Claim7.holds Tryz.pinned (.plain (OpenSpec.ofChange patternHulledSpec)) patternHulledCard

/-- THE SECOND FORM's CARD OF 'aigrettelaw13.PatternPoints'. -/
def patternPointsUptoCard : Claim7 := { stood := { row := patternPointsUptoRow, standIns := [], harness := (true, "4b8f8a562a8bd9698c3e180e323e99f17011b2f434d0c7de81bf406eff542b82"), looks := true }, kinds := [], alts := [], laidByText := true, laidKinds := [.data], laidTests := true, laidLooks := .later }
def PatternPointsUptoCardSaid : Prop := Claim7.holds Tryz.pinned (.plain (OpenSpec.upto patternPointsSpec)) patternPointsUptoCard

/-- THE SECOND FORM's CARD OF 'aigrettelaw13.PatternCuts'. -/
def patternCutsUptoCard : Claim7 := { stood := { row := patternCutsUptoRow, standIns := [], harness := (true, "4b8f8a562a8bd9698c3e180e323e99f17011b2f434d0c7de81bf406eff542b82"), looks := true }, kinds := [], alts := [], laidByText := true, laidKinds := [.data], laidTests := true, laidLooks := .later }
def PatternCutsUptoCardSaid : Prop := Claim7.holds Tryz.pinned (.plain (OpenSpec.upto patternCutsSpec)) patternCutsUptoCard

/-- THE SECOND FORM's CARD OF 'aigrettelaw13.PatternTriangles'. -/
def patternTrianglesUptoCard : Claim7 := { stood := { row := patternTrianglesUptoRow, standIns := [], harness := (true, "4b8f8a562a8bd9698c3e180e323e99f17011b2f434d0c7de81bf406eff542b82"), looks := true }, kinds := [], alts := [], laidByText := true, laidKinds := [.data], laidTests := true, laidLooks := .later }
def PatternTrianglesUptoCardSaid : Prop := Claim7.holds Tryz.pinned (.plain (OpenSpec.upto patternTrianglesSpec)) patternTrianglesUptoCard

/-- THE SECOND FORM's CARD OF 'aigrettelaw13.PatternHulls'. -/
def patternHullsUptoCard : Claim7 := { stood := { row := patternHullsUptoRow, standIns := [], harness := (true, "4b8f8a562a8bd9698c3e180e323e99f17011b2f434d0c7de81bf406eff542b82"), looks := true }, kinds := [], alts := [], laidByText := true, laidKinds := [.data], laidTests := true, laidLooks := .later }
def PatternHullsUptoCardSaid : Prop := Claim7.holds Tryz.pinned (.plain (OpenSpec.upto patternHullsSpec)) patternHullsUptoCard

/-- THE SECOND FORM's CARD OF 'aigrettelaw13.PatternPick'. -/
def patternPickUptoCard : Claim7 := { stood := { row := patternPickUptoRow, standIns := [], harness := (true, "4b8f8a562a8bd9698c3e180e323e99f17011b2f434d0c7de81bf406eff542b82"), looks := true }, kinds := [], alts := [], laidByText := true, laidKinds := [.data], laidTests := true, laidLooks := .later }
def PatternPickUptoCardSaid : Prop := Claim7.holds Tryz.pinned (.plain (OpenSpec.upto patternPickSpec)) patternPickUptoCard

/-- THE SECOND FORM's CARD OF 'aigrettelaw13.PatternParts'. -/
def patternPartsUptoCard : Claim7 := { stood := { row := patternPartsUptoRow, standIns := [], harness := (true, "4b8f8a562a8bd9698c3e180e323e99f17011b2f434d0c7de81bf406eff542b82"), looks := true }, kinds := [], alts := [], laidByText := true, laidKinds := [.data], laidTests := true, laidLooks := .later }
def PatternPartsUptoCardSaid : Prop := Claim7.holds Tryz.pinned (.plain (OpenSpec.upto patternPartsSpec)) patternPartsUptoCard

/-- THE SECOND FORM's CARD OF 'aigrettelaw13.PatternEars'. -/
def patternEarsUptoCard : Claim7 := { stood := { row := patternEarsUptoRow, standIns := [], harness := (true, "4b8f8a562a8bd9698c3e180e323e99f17011b2f434d0c7de81bf406eff542b82"), looks := true }, kinds := [], alts := [], laidByText := true, laidKinds := [.data], laidTests := true, laidLooks := .later }
def PatternEarsUptoCardSaid : Prop := Claim7.holds Tryz.pinned (.plain (OpenSpec.upto patternEarsSpec)) patternEarsUptoCard

/-- THE SECOND FORM's CARD OF 'aigrettelaw13.PatternDivided'. -/
def patternDividedUptoCard : Claim7 := { stood := { row := patternDividedUptoRow, standIns := [], harness := (true, "4b8f8a562a8bd9698c3e180e323e99f17011b2f434d0c7de81bf406eff542b82"), looks := true }, kinds := [], alts := [], laidByText := true, laidKinds := [.data], laidTests := true, laidLooks := .later }
def PatternDividedUptoCardSaid : Prop := Claim7.holds Tryz.pinned (.plain (OpenSpec.upto patternDividedSpec)) patternDividedUptoCard

/-- THE SECOND FORM's CARD OF 'aigrettelaw13.PatternMoved'. -/
def patternMovedUptoCard : Claim7 := { stood := { row := patternMovedUptoRow, standIns := [], harness := (true, "4b8f8a562a8bd9698c3e180e323e99f17011b2f434d0c7de81bf406eff542b82"), looks := true }, kinds := [], alts := [], laidByText := true, laidKinds := [.data], laidTests := true, laidLooks := .later }
def PatternMovedUptoCardSaid : Prop := Claim7.holds Tryz.pinned (.plain (OpenSpec.upto patternMovedSpec)) patternMovedUptoCard

/-- THE SECOND FORM's CARD OF 'aigrettelaw13.PatternHulled'. -/
def patternHulledUptoCard : Claim7 := { stood := { row := patternHulledUptoRow, standIns := [], harness := (true, "4b8f8a562a8bd9698c3e180e323e99f17011b2f434d0c7de81bf406eff542b82"), looks := true }, kinds := [], alts := [], laidByText := true, laidKinds := [.data], laidTests := true, laidLooks := .later }
def PatternHulledUptoCardSaid : Prop := Claim7.holds Tryz.pinned (.plain (OpenSpec.upto patternHulledSpec)) patternHulledUptoCard
end Rows
end Go.Proofs.YtihdlpeghlhnoaaGreatDoor
