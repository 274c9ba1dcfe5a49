/-
  No cell of these rows narrows 'for every input' (looked for: loops, veiled, ifaces, maps, wideKeys, modest, calm, conditions, laid).
  DERIVED. THE GIVEN ROWS OF THIS SEAT. 7 by the template 'for every input the law returns true; each argument reads behind the call as it read before'; 0 by the template 'total and deterministic' (their statements: YtoipleipokpnaaaTotals.lean).
  GIVEN WITH THE SEED: the statements are not yours to turn. If you find one false, say at which input.
  Laid BY PROGRAM, IN A SANDBOX (cutbox-rows.mjs): the forced cells as the released guide's own fill.sh prints them over the translation e22251b5a7112b7c… (all of the seat's roots in one cut). By AI agents, Wed Nov 11 2026. No macro, syntax, notation, axiom, sorry.
-/
import Derived.Test.YtoipleipokpnaaaChecked
import GoSem.Claim
import GoSem.ClaimJoined
import GoSem.ClaimMapViews
import Derived.JoinedTies
import Derived.KernelRfl
namespace Go.Proofs.Ytoipleipokpnaaa
/- THE CELL 'sum', in the pinned program and in every row, IS THE sha256 OF THE DUMP (.gsa) THAT YtoipleipokpnaaaProg.lean LOADS. Nothing in Lean hashes anything: it is a label: what it is worth is what the hold of that sum in a sandbox is worth. -/
noncomputable def Try.pinned : Pinned := { name := "ytoipleipokpnaaa", sum := "e22251b5a7112b7c58986757b4254448927b0fd8fa3bb8b5208f1fa809a6814f", checked := Try.checked }
namespace Rows
def none {H : Type} : Left H := { results := [], args := [] }

/-- 'aigrettelaw11.BranchWays': WHATEVER THE INPUT: true; the input reads as it did. -/
def branchWaysSpec : ChangeSpec := { name := "branchWays", fn := fun _ => fun
  | [d1, d2, d3] => { results := [.lit (.bool true)], args := [d1, d2, d3] }
  | _ => none }
def branchWaysRow : OpenClaim := { program := "ytoipleipokpnaaa", sum := "e22251b5a7112b7c58986757b4254448927b0fd8fa3bb8b5208f1fa809a6814f", func := "aigrette/aigrettelaw11.BranchWays", spec := "branchWays", inPlace := ["internal/bytealg.abigen_runtime_cmpstring", "internal/abi.NoEscape", "internal/bytealg.MakeNoZero"], unfollowed := true, recurses := true, plainKeys := false, apart := false }
def BranchWaysSaid : Prop := branchWaysRow.holds Try.pinned (OpenSpec.ofChange branchWaysSpec)

/-- ITS FALSE NEIGHBOUR: 'it returns false'. Refute it at one input. -/
def branchWaysWrong : ChangeSpec := { name := "branchWays", fn := fun _ => fun
  | [d1, d2, d3] => { results := [.lit (.bool false)], args := [d1, d2, d3] }
  | _ => none }
def BranchWaysWrongFalsely : Prop := branchWaysRow.holds Try.pinned (OpenSpec.ofChange branchWaysWrong)

/-- 'aigrettelaw11.BranchSwaps': WHATEVER THE INPUT: true; the input reads as it did. -/
def branchSwapsSpec : ChangeSpec := { name := "branchSwaps", fn := fun _ => fun
  | [d1, d2, d3, d4] => { results := [.lit (.bool true)], args := [d1, d2, d3, d4] }
  | _ => none }
def branchSwapsRow : OpenClaim := { program := "ytoipleipokpnaaa", sum := "e22251b5a7112b7c58986757b4254448927b0fd8fa3bb8b5208f1fa809a6814f", func := "aigrette/aigrettelaw11.BranchSwaps", spec := "branchSwaps", inPlace := ["internal/bytealg.abigen_runtime_cmpstring", "internal/abi.NoEscape", "internal/bytealg.MakeNoZero"], unfollowed := true, recurses := true, plainKeys := false, apart := false }
def BranchSwapsSaid : Prop := branchSwapsRow.holds Try.pinned (OpenSpec.ofChange branchSwapsSpec)

/-- ITS FALSE NEIGHBOUR: 'it returns false'. Refute it at one input. -/
def branchSwapsWrong : ChangeSpec := { name := "branchSwaps", fn := fun _ => fun
  | [d1, d2, d3, d4] => { results := [.lit (.bool false)], args := [d1, d2, d3, d4] }
  | _ => none }
def BranchSwapsWrongFalsely : Prop := branchSwapsRow.holds Try.pinned (OpenSpec.ofChange branchSwapsWrong)

/-- 'aigrettelaw11.BranchWith': WHATEVER THE INPUT: true; the input reads as it did. -/
def branchWithSpec : ChangeSpec := { name := "branchWith", fn := fun _ => fun
  | [d1, d2, d3] => { results := [.lit (.bool true)], args := [d1, d2, d3] }
  | _ => none }
def branchWithRow : OpenClaim := { program := "ytoipleipokpnaaa", sum := "e22251b5a7112b7c58986757b4254448927b0fd8fa3bb8b5208f1fa809a6814f", func := "aigrette/aigrettelaw11.BranchWith", spec := "branchWith", inPlace := ["internal/bytealg.abigen_runtime_cmpstring", "internal/abi.NoEscape", "internal/bytealg.MakeNoZero"], unfollowed := true, recurses := true, plainKeys := false, apart := false }
def BranchWithSaid : Prop := branchWithRow.holds Try.pinned (OpenSpec.ofChange branchWithSpec)

/-- ITS FALSE NEIGHBOUR: 'it returns false'. Refute it at one input. -/
def branchWithWrong : ChangeSpec := { name := "branchWith", fn := fun _ => fun
  | [d1, d2, d3] => { results := [.lit (.bool false)], args := [d1, d2, d3] }
  | _ => none }
def BranchWithWrongFalsely : Prop := branchWithRow.holds Try.pinned (OpenSpec.ofChange branchWithWrong)

/-- 'aigrettelaw11.BranchNamed': WHATEVER THE INPUT: true; the input reads as it did. -/
def branchNamedSpec : ChangeSpec := { name := "branchNamed", fn := fun _ => fun
  | [d1, d2] => { results := [.lit (.bool true)], args := [d1, d2] }
  | _ => none }
def branchNamedRow : OpenClaim := { program := "ytoipleipokpnaaa", sum := "e22251b5a7112b7c58986757b4254448927b0fd8fa3bb8b5208f1fa809a6814f", func := "aigrette/aigrettelaw11.BranchNamed", spec := "branchNamed", inPlace := ["internal/bytealg.abigen_runtime_cmpstring", "internal/abi.NoEscape", "internal/bytealg.MakeNoZero"], unfollowed := true, recurses := true, plainKeys := false, apart := false }
def BranchNamedSaid : Prop := branchNamedRow.holds Try.pinned (OpenSpec.ofChange branchNamedSpec)

/-- ITS FALSE NEIGHBOUR: 'it returns false'. Refute it at one input. -/
def branchNamedWrong : ChangeSpec := { name := "branchNamed", fn := fun _ => fun
  | [d1, d2] => { results := [.lit (.bool false)], args := [d1, d2] }
  | _ => none }
def BranchNamedWrongFalsely : Prop := branchNamedRow.holds Try.pinned (OpenSpec.ofChange branchNamedWrong)

/-- 'aigrettelaw11.BranchShapes': WHATEVER THE INPUT: true; the input reads as it did. -/
def branchShapesSpec : ChangeSpec := { name := "branchShapes", fn := fun _ => fun
  | [d1, d2] => { results := [.lit (.bool true)], args := [d1, d2] }
  | _ => none }
def branchShapesRow : OpenClaim := { program := "ytoipleipokpnaaa", sum := "e22251b5a7112b7c58986757b4254448927b0fd8fa3bb8b5208f1fa809a6814f", func := "aigrette/aigrettelaw11.BranchShapes", spec := "branchShapes", inPlace := ["internal/bytealg.abigen_runtime_cmpstring", "internal/abi.NoEscape", "internal/bytealg.MakeNoZero"], unfollowed := true, recurses := true, plainKeys := false, apart := false }
def BranchShapesSaid : Prop := branchShapesRow.holds Try.pinned (OpenSpec.ofChange branchShapesSpec)

/-- ITS FALSE NEIGHBOUR: 'it returns false'. Refute it at one input. -/
def branchShapesWrong : ChangeSpec := { name := "branchShapes", fn := fun _ => fun
  | [d1, d2] => { results := [.lit (.bool false)], args := [d1, d2] }
  | _ => none }
def BranchShapesWrongFalsely : Prop := branchShapesRow.holds Try.pinned (OpenSpec.ofChange branchShapesWrong)

/-- 'aigrettelaw11.BranchMiddle': WHATEVER THE INPUT: true; the input reads as it did. -/
def branchMiddleSpec : ChangeSpec := { name := "branchMiddle", fn := fun _ => fun
  | [d1, d2, d3] => { results := [.lit (.bool true)], args := [d1, d2, d3] }
  | _ => none }
def branchMiddleRow : OpenClaim := { program := "ytoipleipokpnaaa", sum := "e22251b5a7112b7c58986757b4254448927b0fd8fa3bb8b5208f1fa809a6814f", func := "aigrette/aigrettelaw11.BranchMiddle", spec := "branchMiddle", inPlace := ["internal/bytealg.abigen_runtime_cmpstring", "internal/abi.NoEscape", "internal/bytealg.MakeNoZero"], unfollowed := true, recurses := true, plainKeys := false, apart := false }
def BranchMiddleSaid : Prop := branchMiddleRow.holds Try.pinned (OpenSpec.ofChange branchMiddleSpec)

/-- ITS FALSE NEIGHBOUR: 'it returns false'. Refute it at one input. -/
def branchMiddleWrong : ChangeSpec := { name := "branchMiddle", fn := fun _ => fun
  | [d1, d2, d3] => { results := [.lit (.bool false)], args := [d1, d2, d3] }
  | _ => none }
def BranchMiddleWrongFalsely : Prop := branchMiddleRow.holds Try.pinned (OpenSpec.ofChange branchMiddleWrong)

/-- 'aigrettelaw11.BranchKnown': WHATEVER THE INPUT: true; the input reads as it did. -/
def branchKnownSpec : ChangeSpec := { name := "branchKnown", fn := fun _ => fun
  | [] => { results := [.lit (.bool true)], args := [] }
  | _ => none }
def branchKnownRow : OpenClaim := { program := "ytoipleipokpnaaa", sum := "e22251b5a7112b7c58986757b4254448927b0fd8fa3bb8b5208f1fa809a6814f", func := "aigrette/aigrettelaw11.BranchKnown", spec := "branchKnown", inPlace := ["internal/bytealg.abigen_runtime_cmpstring", "internal/abi.NoEscape", "internal/bytealg.MakeNoZero"], unfollowed := true, recurses := true, plainKeys := false, apart := false }
def BranchKnownSaid : Prop := branchKnownRow.holds Try.pinned (OpenSpec.ofChange branchKnownSpec)

/-- ITS FALSE NEIGHBOUR: 'it returns false'. Refute it at one input. -/
def branchKnownWrong : ChangeSpec := { name := "branchKnown", fn := fun _ => fun
  | [] => { results := [.lit (.bool false)], args := [] }
  | _ => none }
def BranchKnownWrongFalsely : Prop := branchKnownRow.holds Try.pinned (OpenSpec.ofChange branchKnownWrong)

/- THE SECOND FORM. 'bulk': how many values and letters a reading holds, each counted each time it is reached (what is shared counts as often as it is met; a slice's spare places count too). A statement '..UptoSaid' is the law's where the arguments, and the package variables that the reading takes, are together of bulk at most 1048576: NARROWER than '..Said'. Prove '..Said' where nothing that the law and all that it calls make is longer than what came in: it says more and counts as full. Else prove '..UptoSaid'. A law counts once. -/
mutual
def uptoBulk {H : Type} : DataW H → Nat
  | .lit (.string bytes) => bytes.length + 1
  | .lit _ => 1
  | .nil => 1
  | .ptr d => uptoBulk d + 1
  | .slice elems spare => uptoBulkAll elems + uptoBulkAll spare + 1
  | .agg parts => uptoBulkAll parts + 1
  | .iface _ d => uptoBulk d + 1
  | .map entries => uptoBulkEntries entries + 1
  | .held _ => 1
def uptoBulkAll {H : Type} : List (DataW H) → Nat
  | [] => 0
  | d :: r => uptoBulk d + uptoBulkAll r
def uptoBulkEntries {H : Type} : List (Lit × DataW H) → Nat
  | [] => 0
  | x :: r => uptoBulkEntry x + uptoBulkEntries r
def uptoBulkEntry {H : Type} : Lit × DataW H → Nat
  | (.string bytes, d) => bytes.length + uptoBulk d + 1
  | (_, d) => uptoBulk d + 1
 end
def uptoSmall : (H : Type) → List (DataW H) → Bool := fun _ ds => decide (uptoBulkAll ds ≤ 1048576)
def OpenSpec.upto (s : _root_.Go.ChangeSpec) : _root_.Go.OpenSpec := { _root_.Go.OpenSpec.ofChange s with cond := some uptoSmall }

/-- 'aigrettelaw11.BranchWays', WHERE WHAT IT READS IS OF BULK AT MOST 1048576: true; the input reads as it did. -/
def branchWaysUptoRow : OpenClaim := { program := "ytoipleipokpnaaa", sum := "e22251b5a7112b7c58986757b4254448927b0fd8fa3bb8b5208f1fa809a6814f", func := "aigrette/aigrettelaw11.BranchWays", spec := "branchWays", inPlace := ["internal/bytealg.abigen_runtime_cmpstring", "internal/abi.NoEscape", "internal/bytealg.MakeNoZero"], unfollowed := true, recurses := true, plainKeys := false, apart := false, narrowed := true }
def BranchWaysUptoSaid : Prop := branchWaysUptoRow.holds Try.pinned (OpenSpec.upto branchWaysSpec)

/-- 'aigrettelaw11.BranchSwaps', WHERE WHAT IT READS IS OF BULK AT MOST 1048576: true; the input reads as it did. -/
def branchSwapsUptoRow : OpenClaim := { program := "ytoipleipokpnaaa", sum := "e22251b5a7112b7c58986757b4254448927b0fd8fa3bb8b5208f1fa809a6814f", func := "aigrette/aigrettelaw11.BranchSwaps", spec := "branchSwaps", inPlace := ["internal/bytealg.abigen_runtime_cmpstring", "internal/abi.NoEscape", "internal/bytealg.MakeNoZero"], unfollowed := true, recurses := true, plainKeys := false, apart := false, narrowed := true }
def BranchSwapsUptoSaid : Prop := branchSwapsUptoRow.holds Try.pinned (OpenSpec.upto branchSwapsSpec)

/-- 'aigrettelaw11.BranchWith', WHERE WHAT IT READS IS OF BULK AT MOST 1048576: true; the input reads as it did. -/
def branchWithUptoRow : OpenClaim := { program := "ytoipleipokpnaaa", sum := "e22251b5a7112b7c58986757b4254448927b0fd8fa3bb8b5208f1fa809a6814f", func := "aigrette/aigrettelaw11.BranchWith", spec := "branchWith", inPlace := ["internal/bytealg.abigen_runtime_cmpstring", "internal/abi.NoEscape", "internal/bytealg.MakeNoZero"], unfollowed := true, recurses := true, plainKeys := false, apart := false, narrowed := true }
def BranchWithUptoSaid : Prop := branchWithUptoRow.holds Try.pinned (OpenSpec.upto branchWithSpec)

/-- 'aigrettelaw11.BranchNamed', WHERE WHAT IT READS IS OF BULK AT MOST 1048576: true; the input reads as it did. -/
def branchNamedUptoRow : OpenClaim := { program := "ytoipleipokpnaaa", sum := "e22251b5a7112b7c58986757b4254448927b0fd8fa3bb8b5208f1fa809a6814f", func := "aigrette/aigrettelaw11.BranchNamed", spec := "branchNamed", inPlace := ["internal/bytealg.abigen_runtime_cmpstring", "internal/abi.NoEscape", "internal/bytealg.MakeNoZero"], unfollowed := true, recurses := true, plainKeys := false, apart := false, narrowed := true }
def BranchNamedUptoSaid : Prop := branchNamedUptoRow.holds Try.pinned (OpenSpec.upto branchNamedSpec)

/-- 'aigrettelaw11.BranchShapes', WHERE WHAT IT READS IS OF BULK AT MOST 1048576: true; the input reads as it did. -/
def branchShapesUptoRow : OpenClaim := { program := "ytoipleipokpnaaa", sum := "e22251b5a7112b7c58986757b4254448927b0fd8fa3bb8b5208f1fa809a6814f", func := "aigrette/aigrettelaw11.BranchShapes", spec := "branchShapes", inPlace := ["internal/bytealg.abigen_runtime_cmpstring", "internal/abi.NoEscape", "internal/bytealg.MakeNoZero"], unfollowed := true, recurses := true, plainKeys := false, apart := false, narrowed := true }
def BranchShapesUptoSaid : Prop := branchShapesUptoRow.holds Try.pinned (OpenSpec.upto branchShapesSpec)

/-- 'aigrettelaw11.BranchMiddle', WHERE WHAT IT READS IS OF BULK AT MOST 1048576: true; the input reads as it did. -/
def branchMiddleUptoRow : OpenClaim := { program := "ytoipleipokpnaaa", sum := "e22251b5a7112b7c58986757b4254448927b0fd8fa3bb8b5208f1fa809a6814f", func := "aigrette/aigrettelaw11.BranchMiddle", spec := "branchMiddle", inPlace := ["internal/bytealg.abigen_runtime_cmpstring", "internal/abi.NoEscape", "internal/bytealg.MakeNoZero"], unfollowed := true, recurses := true, plainKeys := false, apart := false, narrowed := true }
def BranchMiddleUptoSaid : Prop := branchMiddleUptoRow.holds Try.pinned (OpenSpec.upto branchMiddleSpec)

/-- 'aigrettelaw11.BranchKnown', WHERE WHAT IT READS IS OF BULK AT MOST 1048576: true; the input reads as it did. -/
def branchKnownUptoRow : OpenClaim := { program := "ytoipleipokpnaaa", sum := "e22251b5a7112b7c58986757b4254448927b0fd8fa3bb8b5208f1fa809a6814f", func := "aigrette/aigrettelaw11.BranchKnown", spec := "branchKnown", inPlace := ["internal/bytealg.abigen_runtime_cmpstring", "internal/abi.NoEscape", "internal/bytealg.MakeNoZero"], unfollowed := true, recurses := true, plainKeys := false, apart := false, narrowed := true }
def BranchKnownUptoSaid : Prop := branchKnownUptoRow.holds Try.pinned (OpenSpec.upto branchKnownSpec)

end Rows
end Go.Proofs.Ytoipleipokpnaaa
