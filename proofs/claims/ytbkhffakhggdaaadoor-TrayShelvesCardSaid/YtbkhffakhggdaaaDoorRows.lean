/-
  NARROWER THAN 'FOR EVERY INPUT', by the rows' own cells (each row's printed sentence says how): TrayNear: laid · TrayChains: laid · TrayNumbers: laid · TrayShelves: laid · TrayKnown: laid · TrayChained: laid · TrayKatona: laid · TrayBefore: laid · TraySperner: laid · TrayLacking: laid · TrayOrders: laid.
  DERIVED. THE GIVEN ROWS OF THIS SEAT. 11 by the template 'for every input the law returns true; each argument reads behind the call as it read before'; 0 by the template 'total and deterministic' (their statements: YtbkhffakhggdaaaDoorTotals.lean).
  GIVEN WITH THE SEED: the statements are not yours to turn. If you find one false, say at which input.
  Laid BY PROGRAM, IN A SANDBOX (cutbox-rows.mjs): the forced cells as the released guide's own fill.sh prints them over the translation dcf99522df1c7a03… (all of the seat's roots in one cut). By AI agents, Wed Nov 11 2026. No macro, syntax, notation, axiom, sorry.
-/
import Derived.Test.YtbkhffakhggdaaaDoorChecked
import GoSem.Claim
import GoSem.ClaimJoined
import GoSem.ClaimMapViews
import Derived.JoinedTies
import Derived.KernelRfl
namespace Go.Proofs.YtbkhffakhggdaaaDoor
/- THE CELL 'sum', in the pinned program and in every row, IS THE sha256 OF THE DUMP (.gsa) THAT YtbkhffakhggdaaaDoorProg.lean LOADS. Nothing in Lean hashes anything: it is a label: what it is worth is what the hold of that sum in a sandbox is worth. -/
noncomputable def Tryd.pinned : Pinned := { name := "ytbkhffakhggdaaadoor", sum := "dcf99522df1c7a03f907bf47cf4684e28ed7d0aee06d540222e4bc4ff822ae47", checked := Tryd.checked }
namespace Rows
def none {H : Type} : Left H := { results := [], args := [] }

/- WHAT THE LISTED PACKAGE-LEVEL VARIABLES READ AS WHEN THE CALL BEGINS. Each datum BY PROGRAM (the guide's laid-datum.mjs) off the statement by which the dump's own 'gosem.cut.vars' lays the variable. In a bare row this is a premise. The card (YtbkhffakhggdaaaDoorCards.lean) ties it to the program's text. -/
def laid_math_bits_deBruijn32tab {H : Type} : DataW H := .agg [.lit (.int .u8 0), .lit (.int .u8 1), .lit (.int .u8 28), .lit (.int .u8 2), .lit (.int .u8 29), .lit (.int .u8 14), .lit (.int .u8 24), .lit (.int .u8 3), .lit (.int .u8 30), .lit (.int .u8 22), .lit (.int .u8 20), .lit (.int .u8 15), .lit (.int .u8 25), .lit (.int .u8 17), .lit (.int .u8 4), .lit (.int .u8 8), .lit (.int .u8 31), .lit (.int .u8 27), .lit (.int .u8 13), .lit (.int .u8 23), .lit (.int .u8 21), .lit (.int .u8 19), .lit (.int .u8 16), .lit (.int .u8 7), .lit (.int .u8 26), .lit (.int .u8 12), .lit (.int .u8 18), .lit (.int .u8 6), .lit (.int .u8 11), .lit (.int .u8 5), .lit (.int .u8 10), .lit (.int .u8 9)]
def laid_math_bits_deBruijn64tab {H : Type} : DataW H := .agg [.lit (.int .u8 0), .lit (.int .u8 1), .lit (.int .u8 56), .lit (.int .u8 2), .lit (.int .u8 57), .lit (.int .u8 49), .lit (.int .u8 28), .lit (.int .u8 3), .lit (.int .u8 61), .lit (.int .u8 58), .lit (.int .u8 42), .lit (.int .u8 50), .lit (.int .u8 38), .lit (.int .u8 29), .lit (.int .u8 17), .lit (.int .u8 4), .lit (.int .u8 62), .lit (.int .u8 47), .lit (.int .u8 59), .lit (.int .u8 36), .lit (.int .u8 45), .lit (.int .u8 43), .lit (.int .u8 51), .lit (.int .u8 22), .lit (.int .u8 53), .lit (.int .u8 39), .lit (.int .u8 33), .lit (.int .u8 30), .lit (.int .u8 24), .lit (.int .u8 18), .lit (.int .u8 12), .lit (.int .u8 5), .lit (.int .u8 63), .lit (.int .u8 55), .lit (.int .u8 48), .lit (.int .u8 27), .lit (.int .u8 60), .lit (.int .u8 41), .lit (.int .u8 37), .lit (.int .u8 16), .lit (.int .u8 46), .lit (.int .u8 35), .lit (.int .u8 44), .lit (.int .u8 21), .lit (.int .u8 52), .lit (.int .u8 32), .lit (.int .u8 23), .lit (.int .u8 11), .lit (.int .u8 54), .lit (.int .u8 26), .lit (.int .u8 40), .lit (.int .u8 15), .lit (.int .u8 34), .lit (.int .u8 20), .lit (.int .u8 31), .lit (.int .u8 10), .lit (.int .u8 25), .lit (.int .u8 14), .lit (.int .u8 19), .lit (.int .u8 9), .lit (.int .u8 13), .lit (.int .u8 8), .lit (.int .u8 7), .lit (.int .u8 6)]

/-- 'aigrettelaw08.TrayNear': WHATEVER THE INPUT: true; the input reads as it did. -/
def trayNearSpec : ChangeSpec := { name := "trayNear", fn := fun _ => fun
  | [d] => { results := [.lit (.bool true)], args := [d] }
  | _ => none }
def trayNearRow : OpenClaim := { program := "ytbkhffakhggdaaadoor", sum := "dcf99522df1c7a03f907bf47cf4684e28ed7d0aee06d540222e4bc4ff822ae47", func := "aigrette/aigrettelaw08.TrayNear", spec := "trayNear", unfollowed := true, recurses := true, named := ["math/bits.deBruijn32tab", "math/bits.deBruijn64tab"], apart := false, laid := [("math/bits.deBruijn32tab", laid_math_bits_deBruijn32tab), ("math/bits.deBruijn64tab", laid_math_bits_deBruijn64tab)] }
def TrayNearSaid : Prop := trayNearRow.holds Tryd.pinned (OpenSpec.ofChange trayNearSpec)

/-- ITS FALSE NEIGHBOUR: 'it returns false'. Refute it at one input. -/
def trayNearWrong : ChangeSpec := { name := "trayNear", fn := fun _ => fun
  | [d] => { results := [.lit (.bool false)], args := [d] }
  | _ => none }
def TrayNearWrongFalsely : Prop := trayNearRow.holds Tryd.pinned (OpenSpec.ofChange trayNearWrong)

/-- 'aigrettelaw08.TrayChains': WHATEVER THE INPUT: true; the input reads as it did. -/
def trayChainsSpec : ChangeSpec := { name := "trayChains", fn := fun _ => fun
  | [d1, d2] => { results := [.lit (.bool true)], args := [d1, d2] }
  | _ => none }
def trayChainsRow : OpenClaim := { program := "ytbkhffakhggdaaadoor", sum := "dcf99522df1c7a03f907bf47cf4684e28ed7d0aee06d540222e4bc4ff822ae47", func := "aigrette/aigrettelaw08.TrayChains", spec := "trayChains", unfollowed := true, recurses := true, named := ["math/bits.deBruijn32tab", "math/bits.deBruijn64tab"], apart := false, laid := [("math/bits.deBruijn32tab", laid_math_bits_deBruijn32tab), ("math/bits.deBruijn64tab", laid_math_bits_deBruijn64tab)] }
def TrayChainsSaid : Prop := trayChainsRow.holds Tryd.pinned (OpenSpec.ofChange trayChainsSpec)

/-- ITS FALSE NEIGHBOUR: 'it returns false'. Refute it at one input. -/
def trayChainsWrong : ChangeSpec := { name := "trayChains", fn := fun _ => fun
  | [d1, d2] => { results := [.lit (.bool false)], args := [d1, d2] }
  | _ => none }
def TrayChainsWrongFalsely : Prop := trayChainsRow.holds Tryd.pinned (OpenSpec.ofChange trayChainsWrong)

/-- 'aigrettelaw08.TrayNumbers': WHATEVER THE INPUT: true; the input reads as it did. -/
def trayNumbersSpec : ChangeSpec := { name := "trayNumbers", fn := fun _ => fun
  | [d1, d2, d3, d4] => { results := [.lit (.bool true)], args := [d1, d2, d3, d4] }
  | _ => none }
def trayNumbersRow : OpenClaim := { program := "ytbkhffakhggdaaadoor", sum := "dcf99522df1c7a03f907bf47cf4684e28ed7d0aee06d540222e4bc4ff822ae47", func := "aigrette/aigrettelaw08.TrayNumbers", spec := "trayNumbers", unfollowed := true, recurses := true, named := ["math/bits.deBruijn32tab", "math/bits.deBruijn64tab"], apart := false, laid := [("math/bits.deBruijn32tab", laid_math_bits_deBruijn32tab), ("math/bits.deBruijn64tab", laid_math_bits_deBruijn64tab)] }
def TrayNumbersSaid : Prop := trayNumbersRow.holds Tryd.pinned (OpenSpec.ofChange trayNumbersSpec)

/-- ITS FALSE NEIGHBOUR: 'it returns false'. Refute it at one input. -/
def trayNumbersWrong : ChangeSpec := { name := "trayNumbers", fn := fun _ => fun
  | [d1, d2, d3, d4] => { results := [.lit (.bool false)], args := [d1, d2, d3, d4] }
  | _ => none }
def TrayNumbersWrongFalsely : Prop := trayNumbersRow.holds Tryd.pinned (OpenSpec.ofChange trayNumbersWrong)

/-- 'aigrettelaw08.TrayShelves': WHATEVER THE INPUT: true; the input reads as it did. -/
def trayShelvesSpec : ChangeSpec := { name := "trayShelves", fn := fun _ => fun
  | [d] => { results := [.lit (.bool true)], args := [d] }
  | _ => none }
def trayShelvesRow : OpenClaim := { program := "ytbkhffakhggdaaadoor", sum := "dcf99522df1c7a03f907bf47cf4684e28ed7d0aee06d540222e4bc4ff822ae47", func := "aigrette/aigrettelaw08.TrayShelves", spec := "trayShelves", unfollowed := true, recurses := true, named := ["math/bits.deBruijn32tab", "math/bits.deBruijn64tab"], apart := false, laid := [("math/bits.deBruijn32tab", laid_math_bits_deBruijn32tab), ("math/bits.deBruijn64tab", laid_math_bits_deBruijn64tab)] }
def TrayShelvesSaid : Prop := trayShelvesRow.holds Tryd.pinned (OpenSpec.ofChange trayShelvesSpec)

/-- ITS FALSE NEIGHBOUR: 'it returns false'. Refute it at one input. -/
def trayShelvesWrong : ChangeSpec := { name := "trayShelves", fn := fun _ => fun
  | [d] => { results := [.lit (.bool false)], args := [d] }
  | _ => none }
def TrayShelvesWrongFalsely : Prop := trayShelvesRow.holds Tryd.pinned (OpenSpec.ofChange trayShelvesWrong)

/-- 'aigrettelaw08.TrayKnown': WHATEVER THE INPUT: true; the input reads as it did. -/
def trayKnownSpec : ChangeSpec := { name := "trayKnown", fn := fun _ => fun
  | [] => { results := [.lit (.bool true)], args := [] }
  | _ => none }
def trayKnownRow : OpenClaim := { program := "ytbkhffakhggdaaadoor", sum := "dcf99522df1c7a03f907bf47cf4684e28ed7d0aee06d540222e4bc4ff822ae47", func := "aigrette/aigrettelaw08.TrayKnown", spec := "trayKnown", unfollowed := true, recurses := true, named := ["math/bits.deBruijn32tab", "math/bits.deBruijn64tab"], apart := false, laid := [("math/bits.deBruijn32tab", laid_math_bits_deBruijn32tab), ("math/bits.deBruijn64tab", laid_math_bits_deBruijn64tab)] }
def TrayKnownSaid : Prop := trayKnownRow.holds Tryd.pinned (OpenSpec.ofChange trayKnownSpec)

/-- ITS FALSE NEIGHBOUR: 'it returns false'. Refute it at one input. -/
def trayKnownWrong : ChangeSpec := { name := "trayKnown", fn := fun _ => fun
  | [] => { results := [.lit (.bool false)], args := [] }
  | _ => none }
def TrayKnownWrongFalsely : Prop := trayKnownRow.holds Tryd.pinned (OpenSpec.ofChange trayKnownWrong)

/-- 'aigrettelaw08.TrayChained': WHATEVER THE INPUT: true; the input reads as it did. -/
def trayChainedSpec : ChangeSpec := { name := "trayChained", fn := fun _ => fun
  | [d1, d2] => { results := [.lit (.bool true)], args := [d1, d2] }
  | _ => none }
def trayChainedRow : OpenClaim := { program := "ytbkhffakhggdaaadoor", sum := "dcf99522df1c7a03f907bf47cf4684e28ed7d0aee06d540222e4bc4ff822ae47", func := "aigrette/aigrettelaw08.TrayChained", spec := "trayChained", unfollowed := true, recurses := true, named := ["math/bits.deBruijn32tab", "math/bits.deBruijn64tab"], apart := false, laid := [("math/bits.deBruijn32tab", laid_math_bits_deBruijn32tab), ("math/bits.deBruijn64tab", laid_math_bits_deBruijn64tab)] }
def TrayChainedSaid : Prop := trayChainedRow.holds Tryd.pinned (OpenSpec.ofChange trayChainedSpec)

/-- ITS FALSE NEIGHBOUR: 'it returns false'. Refute it at one input. -/
def trayChainedWrong : ChangeSpec := { name := "trayChained", fn := fun _ => fun
  | [d1, d2] => { results := [.lit (.bool false)], args := [d1, d2] }
  | _ => none }
def TrayChainedWrongFalsely : Prop := trayChainedRow.holds Tryd.pinned (OpenSpec.ofChange trayChainedWrong)

/-- 'aigrettelaw08.TrayKatona': WHATEVER THE INPUT: true; the input reads as it did. -/
def trayKatonaSpec : ChangeSpec := { name := "trayKatona", fn := fun _ => fun
  | [d1, d2, d3] => { results := [.lit (.bool true)], args := [d1, d2, d3] }
  | _ => none }
def trayKatonaRow : OpenClaim := { program := "ytbkhffakhggdaaadoor", sum := "dcf99522df1c7a03f907bf47cf4684e28ed7d0aee06d540222e4bc4ff822ae47", func := "aigrette/aigrettelaw08.TrayKatona", spec := "trayKatona", unfollowed := true, recurses := true, named := ["math/bits.deBruijn32tab", "math/bits.deBruijn64tab"], apart := false, laid := [("math/bits.deBruijn32tab", laid_math_bits_deBruijn32tab), ("math/bits.deBruijn64tab", laid_math_bits_deBruijn64tab)] }
def TrayKatonaSaid : Prop := trayKatonaRow.holds Tryd.pinned (OpenSpec.ofChange trayKatonaSpec)

/-- ITS FALSE NEIGHBOUR: 'it returns false'. Refute it at one input. -/
def trayKatonaWrong : ChangeSpec := { name := "trayKatona", fn := fun _ => fun
  | [d1, d2, d3] => { results := [.lit (.bool false)], args := [d1, d2, d3] }
  | _ => none }
def TrayKatonaWrongFalsely : Prop := trayKatonaRow.holds Tryd.pinned (OpenSpec.ofChange trayKatonaWrong)

/-- 'aigrettelaw08.TrayBefore': WHATEVER THE INPUT: true; the input reads as it did. -/
def trayBeforeSpec : ChangeSpec := { name := "trayBefore", fn := fun _ => fun
  | [d1, d2, d3] => { results := [.lit (.bool true)], args := [d1, d2, d3] }
  | _ => none }
def trayBeforeRow : OpenClaim := { program := "ytbkhffakhggdaaadoor", sum := "dcf99522df1c7a03f907bf47cf4684e28ed7d0aee06d540222e4bc4ff822ae47", func := "aigrette/aigrettelaw08.TrayBefore", spec := "trayBefore", unfollowed := true, recurses := true, named := ["math/bits.deBruijn32tab", "math/bits.deBruijn64tab"], apart := false, laid := [("math/bits.deBruijn32tab", laid_math_bits_deBruijn32tab), ("math/bits.deBruijn64tab", laid_math_bits_deBruijn64tab)] }
def TrayBeforeSaid : Prop := trayBeforeRow.holds Tryd.pinned (OpenSpec.ofChange trayBeforeSpec)

/-- ITS FALSE NEIGHBOUR: 'it returns false'. Refute it at one input. -/
def trayBeforeWrong : ChangeSpec := { name := "trayBefore", fn := fun _ => fun
  | [d1, d2, d3] => { results := [.lit (.bool false)], args := [d1, d2, d3] }
  | _ => none }
def TrayBeforeWrongFalsely : Prop := trayBeforeRow.holds Tryd.pinned (OpenSpec.ofChange trayBeforeWrong)

/-- 'aigrettelaw08.TraySperner': WHATEVER THE INPUT: true; the input reads as it did. -/
def traySpernerSpec : ChangeSpec := { name := "traySperner", fn := fun _ => fun
  | [d] => { results := [.lit (.bool true)], args := [d] }
  | _ => none }
def traySpernerRow : OpenClaim := { program := "ytbkhffakhggdaaadoor", sum := "dcf99522df1c7a03f907bf47cf4684e28ed7d0aee06d540222e4bc4ff822ae47", func := "aigrette/aigrettelaw08.TraySperner", spec := "traySperner", unfollowed := true, recurses := true, named := ["math/bits.deBruijn32tab", "math/bits.deBruijn64tab"], apart := false, laid := [("math/bits.deBruijn32tab", laid_math_bits_deBruijn32tab), ("math/bits.deBruijn64tab", laid_math_bits_deBruijn64tab)] }
def TraySpernerSaid : Prop := traySpernerRow.holds Tryd.pinned (OpenSpec.ofChange traySpernerSpec)

/-- ITS FALSE NEIGHBOUR: 'it returns false'. Refute it at one input. -/
def traySpernerWrong : ChangeSpec := { name := "traySperner", fn := fun _ => fun
  | [d] => { results := [.lit (.bool false)], args := [d] }
  | _ => none }
def TraySpernerWrongFalsely : Prop := traySpernerRow.holds Tryd.pinned (OpenSpec.ofChange traySpernerWrong)

/-- 'aigrettelaw08.TrayLacking': WHATEVER THE INPUT: true; the input reads as it did. -/
def trayLackingSpec : ChangeSpec := { name := "trayLacking", fn := fun _ => fun
  | [d1, d2] => { results := [.lit (.bool true)], args := [d1, d2] }
  | _ => none }
def trayLackingRow : OpenClaim := { program := "ytbkhffakhggdaaadoor", sum := "dcf99522df1c7a03f907bf47cf4684e28ed7d0aee06d540222e4bc4ff822ae47", func := "aigrette/aigrettelaw08.TrayLacking", spec := "trayLacking", unfollowed := true, recurses := true, named := ["math/bits.deBruijn32tab", "math/bits.deBruijn64tab"], apart := false, laid := [("math/bits.deBruijn32tab", laid_math_bits_deBruijn32tab), ("math/bits.deBruijn64tab", laid_math_bits_deBruijn64tab)] }
def TrayLackingSaid : Prop := trayLackingRow.holds Tryd.pinned (OpenSpec.ofChange trayLackingSpec)

/-- ITS FALSE NEIGHBOUR: 'it returns false'. Refute it at one input. -/
def trayLackingWrong : ChangeSpec := { name := "trayLacking", fn := fun _ => fun
  | [d1, d2] => { results := [.lit (.bool false)], args := [d1, d2] }
  | _ => none }
def TrayLackingWrongFalsely : Prop := trayLackingRow.holds Tryd.pinned (OpenSpec.ofChange trayLackingWrong)

/-- 'aigrettelaw08.TrayOrders': WHATEVER THE INPUT: true; the input reads as it did. -/
def trayOrdersSpec : ChangeSpec := { name := "trayOrders", fn := fun _ => fun
  | [d1, d2] => { results := [.lit (.bool true)], args := [d1, d2] }
  | _ => none }
def trayOrdersRow : OpenClaim := { program := "ytbkhffakhggdaaadoor", sum := "dcf99522df1c7a03f907bf47cf4684e28ed7d0aee06d540222e4bc4ff822ae47", func := "aigrette/aigrettelaw08.TrayOrders", spec := "trayOrders", unfollowed := true, recurses := true, named := ["math/bits.deBruijn32tab", "math/bits.deBruijn64tab"], apart := false, laid := [("math/bits.deBruijn32tab", laid_math_bits_deBruijn32tab), ("math/bits.deBruijn64tab", laid_math_bits_deBruijn64tab)] }
def TrayOrdersSaid : Prop := trayOrdersRow.holds Tryd.pinned (OpenSpec.ofChange trayOrdersSpec)

/-- ITS FALSE NEIGHBOUR: 'it returns false'. Refute it at one input. -/
def trayOrdersWrong : ChangeSpec := { name := "trayOrders", fn := fun _ => fun
  | [d1, d2] => { results := [.lit (.bool false)], args := [d1, d2] }
  | _ => none }
def TrayOrdersWrongFalsely : Prop := trayOrdersRow.holds Tryd.pinned (OpenSpec.ofChange trayOrdersWrong)

/- THE SECOND FORM. 'bulk': how many values and letters a reading holds, each counted each time it is reached (what is shared counts as often as it is met; a slice's spare places count too). A statement '..UptoSaid' is the law's where the arguments, and the package variables that the reading takes, are together of bulk at most 1048576: NARROWER than '..Said'. Prove '..Said' where nothing that the law and all that it calls make is longer than what came in: it says more and counts as full. Else prove '..UptoSaid'. A law counts once. -/
mutual
def uptoBulk {H : Type} : DataW H → Nat
  | .lit (.string bytes) => bytes.length + 1
  | .lit _ => 1
  | .nil => 1
  | .ptr d => uptoBulk d + 1
  | .slice elems spare => uptoBulkAll elems + uptoBulkAll spare + 1
  | .agg parts => uptoBulkAll parts + 1
  | .iface _ d => uptoBulk d + 1
  | .map entries => uptoBulkEntries entries + 1
  | .held _ => 1
def uptoBulkAll {H : Type} : List (DataW H) → Nat
  | [] => 0
  | d :: r => uptoBulk d + uptoBulkAll r
def uptoBulkEntries {H : Type} : List (Lit × DataW H) → Nat
  | [] => 0
  | x :: r => uptoBulkEntry x + uptoBulkEntries r
def uptoBulkEntry {H : Type} : Lit × DataW H → Nat
  | (.string bytes, d) => bytes.length + uptoBulk d + 1
  | (_, d) => uptoBulk d + 1
 end
def uptoSmall : (H : Type) → List (DataW H) → Bool := fun _ ds => decide (uptoBulkAll ds ≤ 1048576)
def OpenSpec.upto (s : _root_.Go.ChangeSpec) : _root_.Go.OpenSpec := { _root_.Go.OpenSpec.ofChange s with cond := some uptoSmall }

/-- 'aigrettelaw08.TrayNear', WHERE WHAT IT READS IS OF BULK AT MOST 1048576: true; the input reads as it did. -/
def trayNearUptoRow : OpenClaim := { program := "ytbkhffakhggdaaadoor", sum := "dcf99522df1c7a03f907bf47cf4684e28ed7d0aee06d540222e4bc4ff822ae47", func := "aigrette/aigrettelaw08.TrayNear", spec := "trayNear", unfollowed := true, recurses := true, named := ["math/bits.deBruijn32tab", "math/bits.deBruijn64tab"], apart := false, laid := [("math/bits.deBruijn32tab", laid_math_bits_deBruijn32tab), ("math/bits.deBruijn64tab", laid_math_bits_deBruijn64tab)], narrowed := true }
def TrayNearUptoSaid : Prop := trayNearUptoRow.holds Tryd.pinned (OpenSpec.upto trayNearSpec)

/-- 'aigrettelaw08.TrayChains', WHERE WHAT IT READS IS OF BULK AT MOST 1048576: true; the input reads as it did. -/
def trayChainsUptoRow : OpenClaim := { program := "ytbkhffakhggdaaadoor", sum := "dcf99522df1c7a03f907bf47cf4684e28ed7d0aee06d540222e4bc4ff822ae47", func := "aigrette/aigrettelaw08.TrayChains", spec := "trayChains", unfollowed := true, recurses := true, named := ["math/bits.deBruijn32tab", "math/bits.deBruijn64tab"], apart := false, laid := [("math/bits.deBruijn32tab", laid_math_bits_deBruijn32tab), ("math/bits.deBruijn64tab", laid_math_bits_deBruijn64tab)], narrowed := true }
def TrayChainsUptoSaid : Prop := trayChainsUptoRow.holds Tryd.pinned (OpenSpec.upto trayChainsSpec)

/-- 'aigrettelaw08.TrayNumbers', WHERE WHAT IT READS IS OF BULK AT MOST 1048576: true; the input reads as it did. -/
def trayNumbersUptoRow : OpenClaim := { program := "ytbkhffakhggdaaadoor", sum := "dcf99522df1c7a03f907bf47cf4684e28ed7d0aee06d540222e4bc4ff822ae47", func := "aigrette/aigrettelaw08.TrayNumbers", spec := "trayNumbers", unfollowed := true, recurses := true, named := ["math/bits.deBruijn32tab", "math/bits.deBruijn64tab"], apart := false, laid := [("math/bits.deBruijn32tab", laid_math_bits_deBruijn32tab), ("math/bits.deBruijn64tab", laid_math_bits_deBruijn64tab)], narrowed := true }
def TrayNumbersUptoSaid : Prop := trayNumbersUptoRow.holds Tryd.pinned (OpenSpec.upto trayNumbersSpec)

/-- 'aigrettelaw08.TrayShelves', WHERE WHAT IT READS IS OF BULK AT MOST 1048576: true; the input reads as it did. -/
def trayShelvesUptoRow : OpenClaim := { program := "ytbkhffakhggdaaadoor", sum := "dcf99522df1c7a03f907bf47cf4684e28ed7d0aee06d540222e4bc4ff822ae47", func := "aigrette/aigrettelaw08.TrayShelves", spec := "trayShelves", unfollowed := true, recurses := true, named := ["math/bits.deBruijn32tab", "math/bits.deBruijn64tab"], apart := false, laid := [("math/bits.deBruijn32tab", laid_math_bits_deBruijn32tab), ("math/bits.deBruijn64tab", laid_math_bits_deBruijn64tab)], narrowed := true }
def TrayShelvesUptoSaid : Prop := trayShelvesUptoRow.holds Tryd.pinned (OpenSpec.upto trayShelvesSpec)

/-- 'aigrettelaw08.TrayKnown', WHERE WHAT IT READS IS OF BULK AT MOST 1048576: true; the input reads as it did. -/
def trayKnownUptoRow : OpenClaim := { program := "ytbkhffakhggdaaadoor", sum := "dcf99522df1c7a03f907bf47cf4684e28ed7d0aee06d540222e4bc4ff822ae47", func := "aigrette/aigrettelaw08.TrayKnown", spec := "trayKnown", unfollowed := true, recurses := true, named := ["math/bits.deBruijn32tab", "math/bits.deBruijn64tab"], apart := false, laid := [("math/bits.deBruijn32tab", laid_math_bits_deBruijn32tab), ("math/bits.deBruijn64tab", laid_math_bits_deBruijn64tab)], narrowed := true }
def TrayKnownUptoSaid : Prop := trayKnownUptoRow.holds Tryd.pinned (OpenSpec.upto trayKnownSpec)

/-- 'aigrettelaw08.TrayChained', WHERE WHAT IT READS IS OF BULK AT MOST 1048576: true; the input reads as it did. -/
def trayChainedUptoRow : OpenClaim := { program := "ytbkhffakhggdaaadoor", sum := "dcf99522df1c7a03f907bf47cf4684e28ed7d0aee06d540222e4bc4ff822ae47", func := "aigrette/aigrettelaw08.TrayChained", spec := "trayChained", unfollowed := true, recurses := true, named := ["math/bits.deBruijn32tab", "math/bits.deBruijn64tab"], apart := false, laid := [("math/bits.deBruijn32tab", laid_math_bits_deBruijn32tab), ("math/bits.deBruijn64tab", laid_math_bits_deBruijn64tab)], narrowed := true }
def TrayChainedUptoSaid : Prop := trayChainedUptoRow.holds Tryd.pinned (OpenSpec.upto trayChainedSpec)

/-- 'aigrettelaw08.TrayKatona', WHERE WHAT IT READS IS OF BULK AT MOST 1048576: true; the input reads as it did. -/
def trayKatonaUptoRow : OpenClaim := { program := "ytbkhffakhggdaaadoor", sum := "dcf99522df1c7a03f907bf47cf4684e28ed7d0aee06d540222e4bc4ff822ae47", func := "aigrette/aigrettelaw08.TrayKatona", spec := "trayKatona", unfollowed := true, recurses := true, named := ["math/bits.deBruijn32tab", "math/bits.deBruijn64tab"], apart := false, laid := [("math/bits.deBruijn32tab", laid_math_bits_deBruijn32tab), ("math/bits.deBruijn64tab", laid_math_bits_deBruijn64tab)], narrowed := true }
def TrayKatonaUptoSaid : Prop := trayKatonaUptoRow.holds Tryd.pinned (OpenSpec.upto trayKatonaSpec)

/-- 'aigrettelaw08.TrayBefore', WHERE WHAT IT READS IS OF BULK AT MOST 1048576: true; the input reads as it did. -/
def trayBeforeUptoRow : OpenClaim := { program := "ytbkhffakhggdaaadoor", sum := "dcf99522df1c7a03f907bf47cf4684e28ed7d0aee06d540222e4bc4ff822ae47", func := "aigrette/aigrettelaw08.TrayBefore", spec := "trayBefore", unfollowed := true, recurses := true, named := ["math/bits.deBruijn32tab", "math/bits.deBruijn64tab"], apart := false, laid := [("math/bits.deBruijn32tab", laid_math_bits_deBruijn32tab), ("math/bits.deBruijn64tab", laid_math_bits_deBruijn64tab)], narrowed := true }
def TrayBeforeUptoSaid : Prop := trayBeforeUptoRow.holds Tryd.pinned (OpenSpec.upto trayBeforeSpec)

/-- 'aigrettelaw08.TraySperner', WHERE WHAT IT READS IS OF BULK AT MOST 1048576: true; the input reads as it did. -/
def traySpernerUptoRow : OpenClaim := { program := "ytbkhffakhggdaaadoor", sum := "dcf99522df1c7a03f907bf47cf4684e28ed7d0aee06d540222e4bc4ff822ae47", func := "aigrette/aigrettelaw08.TraySperner", spec := "traySperner", unfollowed := true, recurses := true, named := ["math/bits.deBruijn32tab", "math/bits.deBruijn64tab"], apart := false, laid := [("math/bits.deBruijn32tab", laid_math_bits_deBruijn32tab), ("math/bits.deBruijn64tab", laid_math_bits_deBruijn64tab)], narrowed := true }
def TraySpernerUptoSaid : Prop := traySpernerUptoRow.holds Tryd.pinned (OpenSpec.upto traySpernerSpec)

/-- 'aigrettelaw08.TrayLacking', WHERE WHAT IT READS IS OF BULK AT MOST 1048576: true; the input reads as it did. -/
def trayLackingUptoRow : OpenClaim := { program := "ytbkhffakhggdaaadoor", sum := "dcf99522df1c7a03f907bf47cf4684e28ed7d0aee06d540222e4bc4ff822ae47", func := "aigrette/aigrettelaw08.TrayLacking", spec := "trayLacking", unfollowed := true, recurses := true, named := ["math/bits.deBruijn32tab", "math/bits.deBruijn64tab"], apart := false, laid := [("math/bits.deBruijn32tab", laid_math_bits_deBruijn32tab), ("math/bits.deBruijn64tab", laid_math_bits_deBruijn64tab)], narrowed := true }
def TrayLackingUptoSaid : Prop := trayLackingUptoRow.holds Tryd.pinned (OpenSpec.upto trayLackingSpec)

/-- 'aigrettelaw08.TrayOrders', WHERE WHAT IT READS IS OF BULK AT MOST 1048576: true; the input reads as it did. -/
def trayOrdersUptoRow : OpenClaim := { program := "ytbkhffakhggdaaadoor", sum := "dcf99522df1c7a03f907bf47cf4684e28ed7d0aee06d540222e4bc4ff822ae47", func := "aigrette/aigrettelaw08.TrayOrders", spec := "trayOrders", unfollowed := true, recurses := true, named := ["math/bits.deBruijn32tab", "math/bits.deBruijn64tab"], apart := false, laid := [("math/bits.deBruijn32tab", laid_math_bits_deBruijn32tab), ("math/bits.deBruijn64tab", laid_math_bits_deBruijn64tab)], narrowed := true }
def TrayOrdersUptoSaid : Prop := trayOrdersUptoRow.holds Tryd.pinned (OpenSpec.upto trayOrdersSpec)

end Rows
end Go.Proofs.YtbkhffakhggdaaaDoor
