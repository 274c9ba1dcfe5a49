/-
  No cell of these rows narrows 'for every input' (looked for: loops, veiled, ifaces, maps, wideKeys, modest, calm, conditions, laid).
  DERIVED. THE GIVEN ROWS OF THIS SEAT. 4 by the template 'for every input the law returns true; each argument reads behind the call as it read before'; 0 by the template 'total and deterministic' (their statements: YtoipleipokpnaaaGreatTotals.lean).
  GIVEN WITH THE SEED: the statements are not yours to turn. If you find one false, say at which input.
  Laid BY PROGRAM, IN A SANDBOX (cutbox-rows.mjs): the forced cells as the released guide's own fill.sh prints them over the translation ef3d0f796316ec1e… (all of the seat's roots in one cut). By AI agents, Wed Nov 11 2026. No macro, syntax, notation, axiom, sorry.
-/
import Derived.Test.YtoipleipokpnaaaGreatChecked
import GoSem.Claim
import GoSem.ClaimJoined
import GoSem.ClaimMapViews
import Derived.JoinedTies
import Derived.KernelRfl
namespace Go.Proofs.YtoipleipokpnaaaGreat
/- THE CELL 'sum', in the pinned program and in every row, IS THE sha256 OF THE DUMP (.gsa) THAT YtoipleipokpnaaaGreatProg.lean LOADS. Nothing in Lean hashes anything: it is a label: what it is worth is what the hold of that sum in a sandbox is worth. -/
noncomputable def Tryz.pinned : Pinned := { name := "ytoipleipokpnaaagreat", sum := "ef3d0f796316ec1eff7efb3a9d497f30eef2d3b345e3c2ce8c626be1dcff6603", checked := Tryz.checked }
namespace Rows
def none {H : Type} : Left H := { results := [], args := [] }

/-- 'aigrettelaw11.BranchNumbers': WHATEVER THE INPUT: true; the input reads as it did. -/
def branchNumbersSpec : ChangeSpec := { name := "branchNumbers", fn := fun _ => fun
  | [d1, d2, d3, d4] => { results := [.lit (.bool true)], args := [d1, d2, d3, d4] }
  | _ => none }
def branchNumbersRow : OpenClaim := { program := "ytoipleipokpnaaagreat", sum := "ef3d0f796316ec1eff7efb3a9d497f30eef2d3b345e3c2ce8c626be1dcff6603", func := "aigrette/aigrettelaw11.BranchNumbers", spec := "branchNumbers", inPlace := ["internal/bytealg.abigen_runtime_cmpstring", "internal/abi.NoEscape", "internal/bytealg.MakeNoZero"], unfollowed := true, recurses := true, apart := false }
def BranchNumbersSaid : Prop := branchNumbersRow.holds Tryz.pinned (OpenSpec.ofChange branchNumbersSpec)

/-- ITS FALSE NEIGHBOUR: 'it returns false'. Refute it at one input. -/
def branchNumbersWrong : ChangeSpec := { name := "branchNumbers", fn := fun _ => fun
  | [d1, d2, d3, d4] => { results := [.lit (.bool false)], args := [d1, d2, d3, d4] }
  | _ => none }
def BranchNumbersWrongFalsely : Prop := branchNumbersRow.holds Tryz.pinned (OpenSpec.ofChange branchNumbersWrong)

/-- 'aigrettelaw11.BranchWrites': WHATEVER THE INPUT: true; the input reads as it did. -/
def branchWritesSpec : ChangeSpec := { name := "branchWrites", fn := fun _ => fun
  | [d1, d2, d3] => { results := [.lit (.bool true)], args := [d1, d2, d3] }
  | _ => none }
def branchWritesRow : OpenClaim := { program := "ytoipleipokpnaaagreat", sum := "ef3d0f796316ec1eff7efb3a9d497f30eef2d3b345e3c2ce8c626be1dcff6603", func := "aigrette/aigrettelaw11.BranchWrites", spec := "branchWrites", inPlace := ["internal/bytealg.abigen_runtime_cmpstring", "internal/abi.NoEscape", "internal/bytealg.MakeNoZero"], unfollowed := true, recurses := true, apart := false }
def BranchWritesSaid : Prop := branchWritesRow.holds Tryz.pinned (OpenSpec.ofChange branchWritesSpec)

/-- ITS FALSE NEIGHBOUR: 'it returns false'. Refute it at one input. -/
def branchWritesWrong : ChangeSpec := { name := "branchWrites", fn := fun _ => fun
  | [d1, d2, d3] => { results := [.lit (.bool false)], args := [d1, d2, d3] }
  | _ => none }
def BranchWritesWrongFalsely : Prop := branchWritesRow.holds Tryz.pinned (OpenSpec.ofChange branchWritesWrong)

/-- 'aigrettelaw11.BranchSwapped': WHATEVER THE INPUT: true; the input reads as it did. -/
def branchSwappedSpec : ChangeSpec := { name := "branchSwapped", fn := fun _ => fun
  | [d1, d2, d3, d4] => { results := [.lit (.bool true)], args := [d1, d2, d3, d4] }
  | _ => none }
def branchSwappedRow : OpenClaim := { program := "ytoipleipokpnaaagreat", sum := "ef3d0f796316ec1eff7efb3a9d497f30eef2d3b345e3c2ce8c626be1dcff6603", func := "aigrette/aigrettelaw11.BranchSwapped", spec := "branchSwapped", inPlace := ["internal/bytealg.abigen_runtime_cmpstring", "internal/abi.NoEscape", "internal/bytealg.MakeNoZero"], unfollowed := true, recurses := true, apart := false }
def BranchSwappedSaid : Prop := branchSwappedRow.holds Tryz.pinned (OpenSpec.ofChange branchSwappedSpec)

/-- ITS FALSE NEIGHBOUR: 'it returns false'. Refute it at one input. -/
def branchSwappedWrong : ChangeSpec := { name := "branchSwapped", fn := fun _ => fun
  | [d1, d2, d3, d4] => { results := [.lit (.bool false)], args := [d1, d2, d3, d4] }
  | _ => none }
def BranchSwappedWrongFalsely : Prop := branchSwappedRow.holds Tryz.pinned (OpenSpec.ofChange branchSwappedWrong)

/-- 'aigrettelaw11.BranchCayley': WHATEVER THE INPUT: true; the input reads as it did. -/
def branchCayleySpec : ChangeSpec := { name := "branchCayley", fn := fun _ => fun
  | [d1, d2] => { results := [.lit (.bool true)], args := [d1, d2] }
  | _ => none }
def branchCayleyRow : OpenClaim := { program := "ytoipleipokpnaaagreat", sum := "ef3d0f796316ec1eff7efb3a9d497f30eef2d3b345e3c2ce8c626be1dcff6603", func := "aigrette/aigrettelaw11.BranchCayley", spec := "branchCayley", inPlace := ["internal/bytealg.abigen_runtime_cmpstring", "internal/abi.NoEscape", "internal/bytealg.MakeNoZero"], unfollowed := true, recurses := true, apart := false }
def BranchCayleySaid : Prop := branchCayleyRow.holds Tryz.pinned (OpenSpec.ofChange branchCayleySpec)

/-- ITS FALSE NEIGHBOUR: 'it returns false'. Refute it at one input. -/
def branchCayleyWrong : ChangeSpec := { name := "branchCayley", fn := fun _ => fun
  | [d1, d2] => { results := [.lit (.bool false)], args := [d1, d2] }
  | _ => none }
def BranchCayleyWrongFalsely : Prop := branchCayleyRow.holds Tryz.pinned (OpenSpec.ofChange branchCayleyWrong)

/- THE SECOND FORM. 'bulk': how many values and letters a reading holds, each counted each time it is reached (what is shared counts as often as it is met; a slice's spare places count too). A statement '..UptoSaid' is the law's where the arguments, and the package variables that the reading takes, are together of bulk at most 1048576: NARROWER than '..Said'. Prove '..Said' where nothing that the law and all that it calls make is longer than what came in: it says more and counts as full. Else prove '..UptoSaid'. A law counts once. -/
mutual
def uptoBulk {H : Type} : DataW H → Nat
  | .lit (.string bytes) => bytes.length + 1
  | .lit _ => 1
  | .nil => 1
  | .ptr d => uptoBulk d + 1
  | .slice elems spare => uptoBulkAll elems + uptoBulkAll spare + 1
  | .agg parts => uptoBulkAll parts + 1
  | .iface _ d => uptoBulk d + 1
  | .map entries => uptoBulkEntries entries + 1
  | .held _ => 1
def uptoBulkAll {H : Type} : List (DataW H) → Nat
  | [] => 0
  | d :: r => uptoBulk d + uptoBulkAll r
def uptoBulkEntries {H : Type} : List (Lit × DataW H) → Nat
  | [] => 0
  | x :: r => uptoBulkEntry x + uptoBulkEntries r
def uptoBulkEntry {H : Type} : Lit × DataW H → Nat
  | (.string bytes, d) => bytes.length + uptoBulk d + 1
  | (_, d) => uptoBulk d + 1
 end
def uptoSmall : (H : Type) → List (DataW H) → Bool := fun _ ds => decide (uptoBulkAll ds ≤ 1048576)
def OpenSpec.upto (s : _root_.Go.ChangeSpec) : _root_.Go.OpenSpec := { _root_.Go.OpenSpec.ofChange s with cond := some uptoSmall }

/-- 'aigrettelaw11.BranchNumbers', WHERE WHAT IT READS IS OF BULK AT MOST 1048576: true; the input reads as it did. -/
def branchNumbersUptoRow : OpenClaim := { program := "ytoipleipokpnaaagreat", sum := "ef3d0f796316ec1eff7efb3a9d497f30eef2d3b345e3c2ce8c626be1dcff6603", func := "aigrette/aigrettelaw11.BranchNumbers", spec := "branchNumbers", inPlace := ["internal/bytealg.abigen_runtime_cmpstring", "internal/abi.NoEscape", "internal/bytealg.MakeNoZero"], unfollowed := true, recurses := true, apart := false, narrowed := true }
def BranchNumbersUptoSaid : Prop := branchNumbersUptoRow.holds Tryz.pinned (OpenSpec.upto branchNumbersSpec)

/-- 'aigrettelaw11.BranchWrites', WHERE WHAT IT READS IS OF BULK AT MOST 1048576: true; the input reads as it did. -/
def branchWritesUptoRow : OpenClaim := { program := "ytoipleipokpnaaagreat", sum := "ef3d0f796316ec1eff7efb3a9d497f30eef2d3b345e3c2ce8c626be1dcff6603", func := "aigrette/aigrettelaw11.BranchWrites", spec := "branchWrites", inPlace := ["internal/bytealg.abigen_runtime_cmpstring", "internal/abi.NoEscape", "internal/bytealg.MakeNoZero"], unfollowed := true, recurses := true, apart := false, narrowed := true }
def BranchWritesUptoSaid : Prop := branchWritesUptoRow.holds Tryz.pinned (OpenSpec.upto branchWritesSpec)

/-- 'aigrettelaw11.BranchSwapped', WHERE WHAT IT READS IS OF BULK AT MOST 1048576: true; the input reads as it did. -/
def branchSwappedUptoRow : OpenClaim := { program := "ytoipleipokpnaaagreat", sum := "ef3d0f796316ec1eff7efb3a9d497f30eef2d3b345e3c2ce8c626be1dcff6603", func := "aigrette/aigrettelaw11.BranchSwapped", spec := "branchSwapped", inPlace := ["internal/bytealg.abigen_runtime_cmpstring", "internal/abi.NoEscape", "internal/bytealg.MakeNoZero"], unfollowed := true, recurses := true, apart := false, narrowed := true }
def BranchSwappedUptoSaid : Prop := branchSwappedUptoRow.holds Tryz.pinned (OpenSpec.upto branchSwappedSpec)

/-- 'aigrettelaw11.BranchCayley', WHERE WHAT IT READS IS OF BULK AT MOST 1048576: true; the input reads as it did. -/
def branchCayleyUptoRow : OpenClaim := { program := "ytoipleipokpnaaagreat", sum := "ef3d0f796316ec1eff7efb3a9d497f30eef2d3b345e3c2ce8c626be1dcff6603", func := "aigrette/aigrettelaw11.BranchCayley", spec := "branchCayley", inPlace := ["internal/bytealg.abigen_runtime_cmpstring", "internal/abi.NoEscape", "internal/bytealg.MakeNoZero"], unfollowed := true, recurses := true, apart := false, narrowed := true }
def BranchCayleyUptoSaid : Prop := branchCayleyUptoRow.holds Tryz.pinned (OpenSpec.upto branchCayleySpec)

end Rows
end Go.Proofs.YtoipleipokpnaaaGreat
