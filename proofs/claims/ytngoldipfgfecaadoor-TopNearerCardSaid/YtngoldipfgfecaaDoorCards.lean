/-
  DERIVED. GIVEN WITH THE SEED: THE CARDS: each row of YtngoldipfgfecaaDoorRows.lean that lists a variable, with what it lists TIED to the program's text (the seventh form; the later family's looks); each row that meets fmt, with fmt's text TOLD by the authors' own Lean function (tested against real Go, not proved from fmt's source: count such statements apart). THE CARD IS WHAT COUNTS. Prove the row's statement (the work); the ties are given (YtngoldipfgfecaaDoorTie.lean); close each card by the builder's one call (the guide's Derived/Test/ToyasCard.lean, 'card_holds'). Laid BY PROGRAM, IN A SANDBOX (cutbox-door.mjs). By AI agents, Wed Nov 11 2026. No macro, syntax, notation, axiom, sorry.
-/
import Derived.Test.YtngoldipfgfecaaDoorRows
import GoSem.ClaimSeven
namespace Go.Proofs.YtngoldipfgfecaaDoor
namespace Rows

/-- THE TIED CARD OF 'aigrettetop.TopDigits'. -/
def topDigitsCard : Claim7 := { stood := { row := topDigitsRow, standIns := [], harness := (true, "9a5176a5b02cff7e87b223a5ce32e96ba105df952c2dc070b705b8f866a03444"), looks := false }, kinds := [], alts := [], laidByText := true, laidKinds := [.data, .data], laidTests := true, laidLooks := .later }
def TopDigitsCardSaid : Prop := Claim7.holds Tryd.pinned (.plain (OpenSpec.ofChange topDigitsSpec)) topDigitsCard

/-- THE TIED CARD OF 'aigrettetop.TopNearer'. -/
def topNearerCard : Claim7 := { stood := { row := topNearerRow, standIns := [], harness := (true, "9a5176a5b02cff7e87b223a5ce32e96ba105df952c2dc070b705b8f866a03444"), looks := false }, kinds := [], alts := [], laidByText := true, laidKinds := [.data, .data], laidTests := true, laidLooks := .later }
def TopNearerCardSaid : Prop := Claim7.holds Tryd.pinned (.plain (OpenSpec.ofChange topNearerSpec)) topNearerCard

/-- THE TIED CARD OF 'aigrettetop.TopDivided'. -/
def topDividedCard : Claim7 := { stood := { row := topDividedRow, standIns := [], harness := (true, "9a5176a5b02cff7e87b223a5ce32e96ba105df952c2dc070b705b8f866a03444"), looks := false }, kinds := [], alts := [], laidByText := true, laidKinds := [.data, .data], laidTests := true, laidLooks := .later }
def TopDividedCardSaid : Prop := Claim7.holds Tryd.pinned (.plain (OpenSpec.ofChange topDividedSpec)) topDividedCard

/-- THE TIED CARD OF 'aigrettetop.TopRuler'. -/
def topRulerCard : Claim7 := { stood := { row := topRulerRow, standIns := [], harness := (true, "9a5176a5b02cff7e87b223a5ce32e96ba105df952c2dc070b705b8f866a03444"), looks := false }, kinds := [], alts := [], laidByText := true, laidKinds := [.data, .data], laidTests := true, laidLooks := .later }
def TopRulerCardSaid : Prop := Claim7.holds Tryd.pinned (.plain (OpenSpec.ofChange topRulerSpec)) topRulerCard

/-- THE SECOND FORM's CARD OF 'aigrettetop.TopDigits'. -/
def topDigitsUptoCard : Claim7 := { stood := { row := topDigitsUptoRow, standIns := [], harness := (true, "9a5176a5b02cff7e87b223a5ce32e96ba105df952c2dc070b705b8f866a03444"), looks := false }, kinds := [], alts := [], laidByText := true, laidKinds := [.data, .data], laidTests := true, laidLooks := .later }
def TopDigitsUptoCardSaid : Prop := Claim7.holds Tryd.pinned (.plain (OpenSpec.upto topDigitsSpec)) topDigitsUptoCard

/-- THE SECOND FORM's CARD OF 'aigrettetop.TopNearer'. -/
def topNearerUptoCard : Claim7 := { stood := { row := topNearerUptoRow, standIns := [], harness := (true, "9a5176a5b02cff7e87b223a5ce32e96ba105df952c2dc070b705b8f866a03444"), looks := false }, kinds := [], alts := [], laidByText := true, laidKinds := [.data, .data], laidTests := true, laidLooks := .later }
def TopNearerUptoCardSaid : Prop := Claim7.holds Tryd.pinned (.plain (OpenSpec.upto topNearerSpec)) topNearerUptoCard

/-- THE SECOND FORM's CARD OF 'aigrettetop.TopDivided'. -/
def topDividedUptoCard : Claim7 := { stood := { row := topDividedUptoRow, standIns := [], harness := (true, "9a5176a5b02cff7e87b223a5ce32e96ba105df952c2dc070b705b8f866a03444"), looks := false }, kinds := [], alts := [], laidByText := true, laidKinds := [.data, .data], laidTests := true, laidLooks := .later }
def TopDividedUptoCardSaid : Prop := Claim7.holds Tryd.pinned (.plain (OpenSpec.upto topDividedSpec)) topDividedUptoCard

/-- THE SECOND FORM's CARD OF 'aigrettetop.TopRuler'. -/
def topRulerUptoCard : Claim7 := { stood := { row := topRulerUptoRow, standIns := [], harness := (true, "9a5176a5b02cff7e87b223a5ce32e96ba105df952c2dc070b705b8f866a03444"), looks := false }, kinds := [], alts := [], laidByText := true, laidKinds := [.data, .data], laidTests := true, laidLooks := .later }
def TopRulerUptoCardSaid : Prop := Claim7.holds Tryd.pinned (.plain (OpenSpec.upto topRulerSpec)) topRulerUptoCard
end Rows
end Go.Proofs.YtngoldipfgfecaaDoor
