/-
  DERIVED. GIVEN WITH THE SEED: THE CARDS: each row of YtbkhffakhggdaaaDoorRows.lean that lists a variable, with what it lists TIED to the program's text (the seventh form; the later family's looks); each row that meets fmt, with fmt's text TOLD by the authors' own Lean function (tested against real Go, not proved from fmt's source: count such statements apart). THE CARD IS WHAT COUNTS. Prove the row's statement (the work); the ties are given (YtbkhffakhggdaaaDoorTie.lean); close each card by the builder's one call (the guide's Derived/Test/ToyasCard.lean, 'card_holds'). Laid BY PROGRAM, IN A SANDBOX (cutbox-door.mjs). By AI agents, Wed Nov 11 2026. No macro, syntax, notation, axiom, sorry.
-/
import Derived.Test.YtbkhffakhggdaaaDoorRows
import GoSem.ClaimSeven
namespace Go.Proofs.YtbkhffakhggdaaaDoor
namespace Rows

/-- THE TIED CARD OF 'aigrettelaw08.TrayNear'. -/
def trayNearCard : Claim7 := { stood := { row := trayNearRow, standIns := [], harness := (true, "1af2e4b2560c06ff4b1902e5e9a0bf76705fcf678f624b1a19b30b31aeb012e2"), looks := false }, kinds := [], alts := [], laidByText := true, laidKinds := [.data, .data], laidTests := true, laidLooks := .later }
def TrayNearCardSaid : Prop := Claim7.holds Tryd.pinned (.plain (OpenSpec.ofChange trayNearSpec)) trayNearCard

/-- THE TIED CARD OF 'aigrettelaw08.TrayChains'. -/
def trayChainsCard : Claim7 := { stood := { row := trayChainsRow, standIns := [], harness := (true, "1af2e4b2560c06ff4b1902e5e9a0bf76705fcf678f624b1a19b30b31aeb012e2"), looks := false }, kinds := [], alts := [], laidByText := true, laidKinds := [.data, .data], laidTests := true, laidLooks := .later }
def TrayChainsCardSaid : Prop := Claim7.holds Tryd.pinned (.plain (OpenSpec.ofChange trayChainsSpec)) trayChainsCard

/-- THE TIED CARD OF 'aigrettelaw08.TrayNumbers'. -/
def trayNumbersCard : Claim7 := { stood := { row := trayNumbersRow, standIns := [], harness := (true, "1af2e4b2560c06ff4b1902e5e9a0bf76705fcf678f624b1a19b30b31aeb012e2"), looks := false }, kinds := [], alts := [], laidByText := true, laidKinds := [.data, .data], laidTests := true, laidLooks := .later }
def TrayNumbersCardSaid : Prop := Claim7.holds Tryd.pinned (.plain (OpenSpec.ofChange trayNumbersSpec)) trayNumbersCard

/-- THE TIED CARD OF 'aigrettelaw08.TrayShelves'. -/
def trayShelvesCard : Claim7 := { stood := { row := trayShelvesRow, standIns := [], harness := (true, "1af2e4b2560c06ff4b1902e5e9a0bf76705fcf678f624b1a19b30b31aeb012e2"), looks := false }, kinds := [], alts := [], laidByText := true, laidKinds := [.data, .data], laidTests := true, laidLooks := .later }
def TrayShelvesCardSaid : Prop := Claim7.holds Tryd.pinned (.plain (OpenSpec.ofChange trayShelvesSpec)) trayShelvesCard

/-- THE TIED CARD OF 'aigrettelaw08.TrayKnown'. -/
def trayKnownCard : Claim7 := { stood := { row := trayKnownRow, standIns := [], harness := (true, "1af2e4b2560c06ff4b1902e5e9a0bf76705fcf678f624b1a19b30b31aeb012e2"), looks := false }, kinds := [], alts := [], laidByText := true, laidKinds := [.data, .data], laidTests := true, laidLooks := .later }
def TrayKnownCardSaid : Prop := Claim7.holds Tryd.pinned (.plain (OpenSpec.ofChange trayKnownSpec)) trayKnownCard

/-- THE TIED CARD OF 'aigrettelaw08.TrayChained'. -/
def trayChainedCard : Claim7 := { stood := { row := trayChainedRow, standIns := [], harness := (true, "1af2e4b2560c06ff4b1902e5e9a0bf76705fcf678f624b1a19b30b31aeb012e2"), looks := false }, kinds := [], alts := [], laidByText := true, laidKinds := [.data, .data], laidTests := true, laidLooks := .later }
def TrayChainedCardSaid : Prop := Claim7.holds Tryd.pinned (.plain (OpenSpec.ofChange trayChainedSpec)) trayChainedCard

/-- THE TIED CARD OF 'aigrettelaw08.TrayKatona'. -/
def trayKatonaCard : Claim7 := { stood := { row := trayKatonaRow, standIns := [], harness := (true, "1af2e4b2560c06ff4b1902e5e9a0bf76705fcf678f624b1a19b30b31aeb012e2"), looks := false }, kinds := [], alts := [], laidByText := true, laidKinds := [.data, .data], laidTests := true, laidLooks := .later }
def TrayKatonaCardSaid : Prop := Claim7.holds Tryd.pinned (.plain (OpenSpec.ofChange trayKatonaSpec)) trayKatonaCard

/-- THE TIED CARD OF 'aigrettelaw08.TrayBefore'. -/
def trayBeforeCard : Claim7 := { stood := { row := trayBeforeRow, standIns := [], harness := (true, "1af2e4b2560c06ff4b1902e5e9a0bf76705fcf678f624b1a19b30b31aeb012e2"), looks := false }, kinds := [], alts := [], laidByText := true, laidKinds := [.data, .data], laidTests := true, laidLooks := .later }
def TrayBeforeCardSaid : Prop := Claim7.holds Tryd.pinned (.plain (OpenSpec.ofChange trayBeforeSpec)) trayBeforeCard

/-- THE TIED CARD OF 'aigrettelaw08.TraySperner'. -/
def traySpernerCard : Claim7 := { stood := { row := traySpernerRow, standIns := [], harness := (true, "1af2e4b2560c06ff4b1902e5e9a0bf76705fcf678f624b1a19b30b31aeb012e2"), looks := false }, kinds := [], alts := [], laidByText := true, laidKinds := [.data, .data], laidTests := true, laidLooks := .later }
def TraySpernerCardSaid : Prop := Claim7.holds Tryd.pinned (.plain (OpenSpec.ofChange traySpernerSpec)) traySpernerCard

/-- THE TIED CARD OF 'aigrettelaw08.TrayLacking'. -/
def trayLackingCard : Claim7 := { stood := { row := trayLackingRow, standIns := [], harness := (true, "1af2e4b2560c06ff4b1902e5e9a0bf76705fcf678f624b1a19b30b31aeb012e2"), looks := false }, kinds := [], alts := [], laidByText := true, laidKinds := [.data, .data], laidTests := true, laidLooks := .later }
def TrayLackingCardSaid : Prop := Claim7.holds Tryd.pinned (.plain (OpenSpec.ofChange trayLackingSpec)) trayLackingCard

/-- THE TIED CARD OF 'aigrettelaw08.TrayOrders'. -/
def trayOrdersCard : Claim7 := { stood := { row := trayOrdersRow, standIns := [], harness := (true, "1af2e4b2560c06ff4b1902e5e9a0bf76705fcf678f624b1a19b30b31aeb012e2"), looks := false }, kinds := [], alts := [], laidByText := true, laidKinds := [.data, .data], laidTests := true, laidLooks := .later }
def TrayOrdersCardSaid : Prop := Claim7.holds Tryd.pinned (.plain (OpenSpec.ofChange trayOrdersSpec)) trayOrdersCard

/-- THE SECOND FORM's CARD OF 'aigrettelaw08.TrayNear'. -/
def trayNearUptoCard : Claim7 := { stood := { row := trayNearUptoRow, standIns := [], harness := (true, "1af2e4b2560c06ff4b1902e5e9a0bf76705fcf678f624b1a19b30b31aeb012e2"), looks := false }, kinds := [], alts := [], laidByText := true, laidKinds := [.data, .data], laidTests := true, laidLooks := .later }
def TrayNearUptoCardSaid : Prop := Claim7.holds Tryd.pinned (.plain (OpenSpec.upto trayNearSpec)) trayNearUptoCard

/-- THE SECOND FORM's CARD OF 'aigrettelaw08.TrayChains'. -/
def trayChainsUptoCard : Claim7 := { stood := { row := trayChainsUptoRow, standIns := [], harness := (true, "1af2e4b2560c06ff4b1902e5e9a0bf76705fcf678f624b1a19b30b31aeb012e2"), looks := false }, kinds := [], alts := [], laidByText := true, laidKinds := [.data, .data], laidTests := true, laidLooks := .later }
def TrayChainsUptoCardSaid : Prop := Claim7.holds Tryd.pinned (.plain (OpenSpec.upto trayChainsSpec)) trayChainsUptoCard

/-- THE SECOND FORM's CARD OF 'aigrettelaw08.TrayNumbers'. -/
def trayNumbersUptoCard : Claim7 := { stood := { row := trayNumbersUptoRow, standIns := [], harness := (true, "1af2e4b2560c06ff4b1902e5e9a0bf76705fcf678f624b1a19b30b31aeb012e2"), looks := false }, kinds := [], alts := [], laidByText := true, laidKinds := [.data, .data], laidTests := true, laidLooks := .later }
def TrayNumbersUptoCardSaid : Prop := Claim7.holds Tryd.pinned (.plain (OpenSpec.upto trayNumbersSpec)) trayNumbersUptoCard

/-- THE SECOND FORM's CARD OF 'aigrettelaw08.TrayShelves'. -/
def trayShelvesUptoCard : Claim7 := { stood := { row := trayShelvesUptoRow, standIns := [], harness := (true, "1af2e4b2560c06ff4b1902e5e9a0bf76705fcf678f624b1a19b30b31aeb012e2"), looks := false }, kinds := [], alts := [], laidByText := true, laidKinds := [.data, .data], laidTests := true, laidLooks := .later }
def TrayShelvesUptoCardSaid : Prop := Claim7.holds Tryd.pinned (.plain (OpenSpec.upto trayShelvesSpec)) trayShelvesUptoCard

/-- THE SECOND FORM's CARD OF 'aigrettelaw08.TrayKnown'. -/
def trayKnownUptoCard : Claim7 := { stood := { row := trayKnownUptoRow, standIns := [], harness := (true, "1af2e4b2560c06ff4b1902e5e9a0bf76705fcf678f624b1a19b30b31aeb012e2"), looks := false }, kinds := [], alts := [], laidByText := true, laidKinds := [.data, .data], laidTests := true, laidLooks := .later }
def TrayKnownUptoCardSaid : Prop := Claim7.holds Tryd.pinned (.plain (OpenSpec.upto trayKnownSpec)) trayKnownUptoCard

/-- THE SECOND FORM's CARD OF 'aigrettelaw08.TrayChained'. -/
def trayChainedUptoCard : Claim7 := { stood := { row := trayChainedUptoRow, standIns := [], harness := (true, "1af2e4b2560c06ff4b1902e5e9a0bf76705fcf678f624b1a19b30b31aeb012e2"), looks := false }, kinds := [], alts := [], laidByText := true, laidKinds := [.data, .data], laidTests := true, laidLooks := .later }
def TrayChainedUptoCardSaid : Prop := Claim7.holds Tryd.pinned (.plain (OpenSpec.upto trayChainedSpec)) trayChainedUptoCard

/-- THE SECOND FORM's CARD OF 'aigrettelaw08.TrayKatona'. -/
def trayKatonaUptoCard : Claim7 := { stood := { row := trayKatonaUptoRow, standIns := [], harness := (true, "1af2e4b2560c06ff4b1902e5e9a0bf76705fcf678f624b1a19b30b31aeb012e2"), looks := false }, kinds := [], alts := [], laidByText := true, laidKinds := [.data, .data], laidTests := true, laidLooks := .later }
def TrayKatonaUptoCardSaid : Prop := Claim7.holds Tryd.pinned (.plain (OpenSpec.upto trayKatonaSpec)) trayKatonaUptoCard

/-- THE SECOND FORM's CARD OF 'aigrettelaw08.TrayBefore'. -/
def trayBeforeUptoCard : Claim7 := { stood := { row := trayBeforeUptoRow, standIns := [], harness := (true, "1af2e4b2560c06ff4b1902e5e9a0bf76705fcf678f624b1a19b30b31aeb012e2"), looks := false }, kinds := [], alts := [], laidByText := true, laidKinds := [.data, .data], laidTests := true, laidLooks := .later }
def TrayBeforeUptoCardSaid : Prop := Claim7.holds Tryd.pinned (.plain (OpenSpec.upto trayBeforeSpec)) trayBeforeUptoCard

/-- THE SECOND FORM's CARD OF 'aigrettelaw08.TraySperner'. -/
def traySpernerUptoCard : Claim7 := { stood := { row := traySpernerUptoRow, standIns := [], harness := (true, "1af2e4b2560c06ff4b1902e5e9a0bf76705fcf678f624b1a19b30b31aeb012e2"), looks := false }, kinds := [], alts := [], laidByText := true, laidKinds := [.data, .data], laidTests := true, laidLooks := .later }
def TraySpernerUptoCardSaid : Prop := Claim7.holds Tryd.pinned (.plain (OpenSpec.upto traySpernerSpec)) traySpernerUptoCard

/-- THE SECOND FORM's CARD OF 'aigrettelaw08.TrayLacking'. -/
def trayLackingUptoCard : Claim7 := { stood := { row := trayLackingUptoRow, standIns := [], harness := (true, "1af2e4b2560c06ff4b1902e5e9a0bf76705fcf678f624b1a19b30b31aeb012e2"), looks := false }, kinds := [], alts := [], laidByText := true, laidKinds := [.data, .data], laidTests := true, laidLooks := .later }
def TrayLackingUptoCardSaid : Prop := Claim7.holds Tryd.pinned (.plain (OpenSpec.upto trayLackingSpec)) trayLackingUptoCard

/-- THE SECOND FORM's CARD OF 'aigrettelaw08.TrayOrders'. -/
def trayOrdersUptoCard : Claim7 := { stood := { row := trayOrdersUptoRow, standIns := [], harness := (true, "1af2e4b2560c06ff4b1902e5e9a0bf76705fcf678f624b1a19b30b31aeb012e2"), looks := false }, kinds := [], alts := [], laidByText := true, laidKinds := [.data, .data], laidTests := true, laidLooks := .later }
def TrayOrdersUptoCardSaid : Prop := Claim7.holds Tryd.pinned (.plain (OpenSpec.upto trayOrdersSpec)) trayOrdersUptoCard
end Rows
end Go.Proofs.YtbkhffakhggdaaaDoor
