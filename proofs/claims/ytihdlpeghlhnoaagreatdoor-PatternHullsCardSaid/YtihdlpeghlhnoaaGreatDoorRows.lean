/-
  NARROWER THAN 'FOR EVERY INPUT', by the rows' own cells (each row's printed sentence says how): PatternPoints: laid · PatternCuts: laid · PatternTriangles: laid · PatternHulls: laid · PatternPick: laid · PatternParts: laid · PatternEars: laid · PatternDivided: laid · PatternMoved: laid · PatternHulled: laid.
  DERIVED. THE GIVEN ROWS OF THIS SEAT. 10 by the template 'for every input the law returns true; each argument reads behind the call as it read before'; 0 by the template 'total and deterministic' (their statements: YtihdlpeghlhnoaaGreatDoorTotals.lean).
  GIVEN WITH THE SEED: the statements are not yours to turn. If you find one false, say at which input.
  Laid BY PROGRAM, IN A SANDBOX (cutbox-rows.mjs): the forced cells as the released guide's own fill.sh prints them over the translation e94aaa1c93284f46… (all of the seat's roots in one cut). By AI agents, Wed Nov 11 2026. No macro, syntax, notation, axiom, sorry.
-/
import Derived.Test.YtihdlpeghlhnoaaGreatDoorChecked
import GoSem.Claim
import GoSem.ClaimJoined
import GoSem.ClaimMapViews
import Derived.JoinedTies
import Derived.KernelRfl
namespace Go.Proofs.YtihdlpeghlhnoaaGreatDoor
/- THE CELL 'sum', in the pinned program and in every row, IS THE sha256 OF THE DUMP (.gsa) THAT YtihdlpeghlhnoaaGreatDoorProg.lean LOADS. Nothing in Lean hashes anything: it is a label: what it is worth is what the hold of that sum in a sandbox is worth. -/
noncomputable def Tryz.pinned : Pinned := { name := "ytihdlpeghlhnoaagreatdoor", sum := "e94aaa1c93284f46239b81a5d2ec45a946304e7f0118e698729c3432c1c8c29a", checked := Tryz.checked }
namespace Rows
def none {H : Type} : Left H := { results := [], args := [] }

/- WHAT THE LISTED PACKAGE-LEVEL VARIABLES READ AS WHEN THE CALL BEGINS. Each datum BY PROGRAM (the guide's laid-datum.mjs) off the statement by which the dump's own 'gosem.cut.vars' lays the variable. In a bare row this is a premise. The card (YtihdlpeghlhnoaaGreatDoorCards.lean) ties it to the program's text. -/
def laid_aigrette_pattern_quarters {H : Type} : DataW H := .agg [.agg [.lit (.int .i64 0), .lit (.int .i64 1), .lit (.int .i64 2), .lit (.int .i64 (-1))], .agg [.lit (.int .i64 (-1)), .lit (.int .i64 0), .lit (.int .i64 1), .lit (.int .i64 2)], .agg [.lit (.int .i64 2), .lit (.int .i64 (-1)), .lit (.int .i64 0), .lit (.int .i64 1)], .agg [.lit (.int .i64 1), .lit (.int .i64 2), .lit (.int .i64 (-1)), .lit (.int .i64 0)]]

/-- 'aigrettelaw13.PatternPoints': WHATEVER THE INPUT: true; the input reads as it did. -/
def patternPointsSpec : ChangeSpec := { name := "patternPoints", fn := fun _ => fun
  | [d1, d2] => { results := [.lit (.bool true)], args := [d1, d2] }
  | _ => none }
def patternPointsRow : OpenClaim := { program := "ytihdlpeghlhnoaagreatdoor", sum := "e94aaa1c93284f46239b81a5d2ec45a946304e7f0118e698729c3432c1c8c29a", func := "aigrette/aigrettelaw13.PatternPoints", spec := "patternPoints", unfollowed := true, recurses := true, named := ["aigrette/pattern.quarters"], apart := false, laid := [("aigrette/pattern.quarters", laid_aigrette_pattern_quarters)] }
def PatternPointsSaid : Prop := patternPointsRow.holds Tryz.pinned (OpenSpec.ofChange patternPointsSpec)

/-- ITS FALSE NEIGHBOUR: 'it returns false'. Refute it at one input. -/
def patternPointsWrong : ChangeSpec := { name := "patternPoints", fn := fun _ => fun
  | [d1, d2] => { results := [.lit (.bool false)], args := [d1, d2] }
  | _ => none }
def PatternPointsWrongFalsely : Prop := patternPointsRow.holds Tryz.pinned (OpenSpec.ofChange patternPointsWrong)

/-- 'aigrettelaw13.PatternCuts': WHATEVER THE INPUT: true; the input reads as it did. -/
def patternCutsSpec : ChangeSpec := { name := "patternCuts", fn := fun _ => fun
  | [d1, d2, d3] => { results := [.lit (.bool true)], args := [d1, d2, d3] }
  | _ => none }
def patternCutsRow : OpenClaim := { program := "ytihdlpeghlhnoaagreatdoor", sum := "e94aaa1c93284f46239b81a5d2ec45a946304e7f0118e698729c3432c1c8c29a", func := "aigrette/aigrettelaw13.PatternCuts", spec := "patternCuts", unfollowed := true, recurses := true, named := ["aigrette/pattern.quarters"], apart := false, laid := [("aigrette/pattern.quarters", laid_aigrette_pattern_quarters)] }
def PatternCutsSaid : Prop := patternCutsRow.holds Tryz.pinned (OpenSpec.ofChange patternCutsSpec)

/-- ITS FALSE NEIGHBOUR: 'it returns false'. Refute it at one input. -/
def patternCutsWrong : ChangeSpec := { name := "patternCuts", fn := fun _ => fun
  | [d1, d2, d3] => { results := [.lit (.bool false)], args := [d1, d2, d3] }
  | _ => none }
def PatternCutsWrongFalsely : Prop := patternCutsRow.holds Tryz.pinned (OpenSpec.ofChange patternCutsWrong)

/-- 'aigrettelaw13.PatternTriangles': WHATEVER THE INPUT: true; the input reads as it did. -/
def patternTrianglesSpec : ChangeSpec := { name := "patternTriangles", fn := fun _ => fun
  | [d] => { results := [.lit (.bool true)], args := [d] }
  | _ => none }
def patternTrianglesRow : OpenClaim := { program := "ytihdlpeghlhnoaagreatdoor", sum := "e94aaa1c93284f46239b81a5d2ec45a946304e7f0118e698729c3432c1c8c29a", func := "aigrette/aigrettelaw13.PatternTriangles", spec := "patternTriangles", unfollowed := true, recurses := true, named := ["aigrette/pattern.quarters"], apart := false, laid := [("aigrette/pattern.quarters", laid_aigrette_pattern_quarters)] }
def PatternTrianglesSaid : Prop := patternTrianglesRow.holds Tryz.pinned (OpenSpec.ofChange patternTrianglesSpec)

/-- ITS FALSE NEIGHBOUR: 'it returns false'. Refute it at one input. -/
def patternTrianglesWrong : ChangeSpec := { name := "patternTriangles", fn := fun _ => fun
  | [d] => { results := [.lit (.bool false)], args := [d] }
  | _ => none }
def PatternTrianglesWrongFalsely : Prop := patternTrianglesRow.holds Tryz.pinned (OpenSpec.ofChange patternTrianglesWrong)

/-- 'aigrettelaw13.PatternHulls': WHATEVER THE INPUT: true; the input reads as it did. -/
def patternHullsSpec : ChangeSpec := { name := "patternHulls", fn := fun _ => fun
  | [d1, d2, d3, d4] => { results := [.lit (.bool true)], args := [d1, d2, d3, d4] }
  | _ => none }
def patternHullsRow : OpenClaim := { program := "ytihdlpeghlhnoaagreatdoor", sum := "e94aaa1c93284f46239b81a5d2ec45a946304e7f0118e698729c3432c1c8c29a", func := "aigrette/aigrettelaw13.PatternHulls", spec := "patternHulls", unfollowed := true, recurses := true, named := ["aigrette/pattern.quarters"], apart := false, laid := [("aigrette/pattern.quarters", laid_aigrette_pattern_quarters)] }
def PatternHullsSaid : Prop := patternHullsRow.holds Tryz.pinned (OpenSpec.ofChange patternHullsSpec)

/-- ITS FALSE NEIGHBOUR: 'it returns false'. Refute it at one input. -/
def patternHullsWrong : ChangeSpec := { name := "patternHulls", fn := fun _ => fun
  | [d1, d2, d3, d4] => { results := [.lit (.bool false)], args := [d1, d2, d3, d4] }
  | _ => none }
def PatternHullsWrongFalsely : Prop := patternHullsRow.holds Tryz.pinned (OpenSpec.ofChange patternHullsWrong)

/-- 'aigrettelaw13.PatternPick': WHATEVER THE INPUT: true; the input reads as it did. -/
def patternPickSpec : ChangeSpec := { name := "patternPick", fn := fun _ => fun
  | [d] => { results := [.lit (.bool true)], args := [d] }
  | _ => none }
def patternPickRow : OpenClaim := { program := "ytihdlpeghlhnoaagreatdoor", sum := "e94aaa1c93284f46239b81a5d2ec45a946304e7f0118e698729c3432c1c8c29a", func := "aigrette/aigrettelaw13.PatternPick", spec := "patternPick", inPlace := ["slices.overlaps[aigrette/pattern.Point]"], unfollowed := true, recurses := true, named := ["aigrette/pattern.quarters"], apart := false, laid := [("aigrette/pattern.quarters", laid_aigrette_pattern_quarters)] }
def PatternPickSaid : Prop := patternPickRow.holds Tryz.pinned (OpenSpec.ofChange patternPickSpec)

/-- ITS FALSE NEIGHBOUR: 'it returns false'. Refute it at one input. -/
def patternPickWrong : ChangeSpec := { name := "patternPick", fn := fun _ => fun
  | [d] => { results := [.lit (.bool false)], args := [d] }
  | _ => none }
def PatternPickWrongFalsely : Prop := patternPickRow.holds Tryz.pinned (OpenSpec.ofChange patternPickWrong)

/-- 'aigrettelaw13.PatternParts': WHATEVER THE INPUT: true; the input reads as it did. -/
def patternPartsSpec : ChangeSpec := { name := "patternParts", fn := fun _ => fun
  | [d] => { results := [.lit (.bool true)], args := [d] }
  | _ => none }
def patternPartsRow : OpenClaim := { program := "ytihdlpeghlhnoaagreatdoor", sum := "e94aaa1c93284f46239b81a5d2ec45a946304e7f0118e698729c3432c1c8c29a", func := "aigrette/aigrettelaw13.PatternParts", spec := "patternParts", inPlace := ["slices.overlaps[aigrette/pattern.Point]"], unfollowed := true, recurses := true, named := ["aigrette/pattern.quarters"], apart := false, laid := [("aigrette/pattern.quarters", laid_aigrette_pattern_quarters)] }
def PatternPartsSaid : Prop := patternPartsRow.holds Tryz.pinned (OpenSpec.ofChange patternPartsSpec)

/-- ITS FALSE NEIGHBOUR: 'it returns false'. Refute it at one input. -/
def patternPartsWrong : ChangeSpec := { name := "patternParts", fn := fun _ => fun
  | [d] => { results := [.lit (.bool false)], args := [d] }
  | _ => none }
def PatternPartsWrongFalsely : Prop := patternPartsRow.holds Tryz.pinned (OpenSpec.ofChange patternPartsWrong)

/-- 'aigrettelaw13.PatternEars': WHATEVER THE INPUT: true; the input reads as it did. -/
def patternEarsSpec : ChangeSpec := { name := "patternEars", fn := fun _ => fun
  | [d] => { results := [.lit (.bool true)], args := [d] }
  | _ => none }
def patternEarsRow : OpenClaim := { program := "ytihdlpeghlhnoaagreatdoor", sum := "e94aaa1c93284f46239b81a5d2ec45a946304e7f0118e698729c3432c1c8c29a", func := "aigrette/aigrettelaw13.PatternEars", spec := "patternEars", inPlace := ["slices.overlaps[aigrette/pattern.Point]"], unfollowed := true, recurses := true, named := ["aigrette/pattern.quarters"], apart := false, laid := [("aigrette/pattern.quarters", laid_aigrette_pattern_quarters)] }
def PatternEarsSaid : Prop := patternEarsRow.holds Tryz.pinned (OpenSpec.ofChange patternEarsSpec)

/-- ITS FALSE NEIGHBOUR: 'it returns false'. Refute it at one input. -/
def patternEarsWrong : ChangeSpec := { name := "patternEars", fn := fun _ => fun
  | [d] => { results := [.lit (.bool false)], args := [d] }
  | _ => none }
def PatternEarsWrongFalsely : Prop := patternEarsRow.holds Tryz.pinned (OpenSpec.ofChange patternEarsWrong)

/-- 'aigrettelaw13.PatternDivided': WHATEVER THE INPUT: true; the input reads as it did. -/
def patternDividedSpec : ChangeSpec := { name := "patternDivided", fn := fun _ => fun
  | [d1, d2] => { results := [.lit (.bool true)], args := [d1, d2] }
  | _ => none }
def patternDividedRow : OpenClaim := { program := "ytihdlpeghlhnoaagreatdoor", sum := "e94aaa1c93284f46239b81a5d2ec45a946304e7f0118e698729c3432c1c8c29a", func := "aigrette/aigrettelaw13.PatternDivided", spec := "patternDivided", inPlace := ["slices.overlaps[aigrette/pattern.Point]"], unfollowed := true, recurses := true, named := ["aigrette/pattern.quarters"], apart := false, laid := [("aigrette/pattern.quarters", laid_aigrette_pattern_quarters)] }
def PatternDividedSaid : Prop := patternDividedRow.holds Tryz.pinned (OpenSpec.ofChange patternDividedSpec)

/-- ITS FALSE NEIGHBOUR: 'it returns false'. Refute it at one input. -/
def patternDividedWrong : ChangeSpec := { name := "patternDivided", fn := fun _ => fun
  | [d1, d2] => { results := [.lit (.bool false)], args := [d1, d2] }
  | _ => none }
def PatternDividedWrongFalsely : Prop := patternDividedRow.holds Tryz.pinned (OpenSpec.ofChange patternDividedWrong)

/-- 'aigrettelaw13.PatternMoved': WHATEVER THE INPUT: true; the input reads as it did. -/
def patternMovedSpec : ChangeSpec := { name := "patternMoved", fn := fun _ => fun
  | [d1, d2, d3, d4] => { results := [.lit (.bool true)], args := [d1, d2, d3, d4] }
  | _ => none }
def patternMovedRow : OpenClaim := { program := "ytihdlpeghlhnoaagreatdoor", sum := "e94aaa1c93284f46239b81a5d2ec45a946304e7f0118e698729c3432c1c8c29a", func := "aigrette/aigrettelaw13.PatternMoved", spec := "patternMoved", inPlace := ["slices.overlaps[aigrette/pattern.Point]"], unfollowed := true, recurses := true, named := ["aigrette/pattern.quarters"], apart := false, laid := [("aigrette/pattern.quarters", laid_aigrette_pattern_quarters)] }
def PatternMovedSaid : Prop := patternMovedRow.holds Tryz.pinned (OpenSpec.ofChange patternMovedSpec)

/-- ITS FALSE NEIGHBOUR: 'it returns false'. Refute it at one input. -/
def patternMovedWrong : ChangeSpec := { name := "patternMoved", fn := fun _ => fun
  | [d1, d2, d3, d4] => { results := [.lit (.bool false)], args := [d1, d2, d3, d4] }
  | _ => none }
def PatternMovedWrongFalsely : Prop := patternMovedRow.holds Tryz.pinned (OpenSpec.ofChange patternMovedWrong)

/-- 'aigrettelaw13.PatternHulled': WHATEVER THE INPUT: true; the input reads as it did. -/
def patternHulledSpec : ChangeSpec := { name := "patternHulled", fn := fun _ => fun
  | [d] => { results := [.lit (.bool true)], args := [d] }
  | _ => none }
def patternHulledRow : OpenClaim := { program := "ytihdlpeghlhnoaagreatdoor", sum := "e94aaa1c93284f46239b81a5d2ec45a946304e7f0118e698729c3432c1c8c29a", func := "aigrette/aigrettelaw13.PatternHulled", spec := "patternHulled", inPlace := ["slices.overlaps[aigrette/pattern.Point]"], unfollowed := true, recurses := true, named := ["aigrette/pattern.quarters"], apart := false, laid := [("aigrette/pattern.quarters", laid_aigrette_pattern_quarters)] }
def PatternHulledSaid : Prop := patternHulledRow.holds Tryz.pinned (OpenSpec.ofChange patternHulledSpec)

/-- ITS FALSE NEIGHBOUR: 'it returns false'. Refute it at one input. -/
def patternHulledWrong : ChangeSpec := { name := "patternHulled", fn := fun _ => fun
  | [d] => { results := [.lit (.bool false)], args := [d] }
  | _ => none }
def PatternHulledWrongFalsely : Prop := patternHulledRow.holds Tryz.pinned (OpenSpec.ofChange patternHulledWrong)

/- THE SECOND FORM. 'bulk': how many values and letters a reading holds, each counted each time it is reached (what is shared counts as often as it is met; a slice's spare places count too). A statement '..UptoSaid' is the law's where the arguments, and the package variables that the reading takes, are together of bulk at most 1048576: NARROWER than '..Said'. Prove '..Said' where nothing that the law and all that it calls make is longer than what came in: it says more and counts as full. Else prove '..UptoSaid'. A law counts once. -/
mutual
def uptoBulk {H : Type} : DataW H → Nat
  | .lit (.string bytes) => bytes.length + 1
  | .lit _ => 1
  | .nil => 1
  | .ptr d => uptoBulk d + 1
  | .slice elems spare => uptoBulkAll elems + uptoBulkAll spare + 1
  | .agg parts => uptoBulkAll parts + 1
  | .iface _ d => uptoBulk d + 1
  | .map entries => uptoBulkEntries entries + 1
  | .held _ => 1
def uptoBulkAll {H : Type} : List (DataW H) → Nat
  | [] => 0
  | d :: r => uptoBulk d + uptoBulkAll r
def uptoBulkEntries {H : Type} : List (Lit × DataW H) → Nat
  | [] => 0
  | x :: r => uptoBulkEntry x + uptoBulkEntries r
def uptoBulkEntry {H : Type} : Lit × DataW H → Nat
  | (.string bytes, d) => bytes.length + uptoBulk d + 1
  | (_, d) => uptoBulk d + 1
 end
def uptoSmall : (H : Type) → List (DataW H) → Bool := fun _ ds => decide (uptoBulkAll ds ≤ 1048576)
def OpenSpec.upto (s : _root_.Go.ChangeSpec) : _root_.Go.OpenSpec := { _root_.Go.OpenSpec.ofChange s with cond := some uptoSmall }

/-- 'aigrettelaw13.PatternPoints', WHERE WHAT IT READS IS OF BULK AT MOST 1048576: true; the input reads as it did. -/
def patternPointsUptoRow : OpenClaim := { program := "ytihdlpeghlhnoaagreatdoor", sum := "e94aaa1c93284f46239b81a5d2ec45a946304e7f0118e698729c3432c1c8c29a", func := "aigrette/aigrettelaw13.PatternPoints", spec := "patternPoints", unfollowed := true, recurses := true, named := ["aigrette/pattern.quarters"], apart := false, laid := [("aigrette/pattern.quarters", laid_aigrette_pattern_quarters)], narrowed := true }
def PatternPointsUptoSaid : Prop := patternPointsUptoRow.holds Tryz.pinned (OpenSpec.upto patternPointsSpec)

/-- 'aigrettelaw13.PatternCuts', WHERE WHAT IT READS IS OF BULK AT MOST 1048576: true; the input reads as it did. -/
def patternCutsUptoRow : OpenClaim := { program := "ytihdlpeghlhnoaagreatdoor", sum := "e94aaa1c93284f46239b81a5d2ec45a946304e7f0118e698729c3432c1c8c29a", func := "aigrette/aigrettelaw13.PatternCuts", spec := "patternCuts", unfollowed := true, recurses := true, named := ["aigrette/pattern.quarters"], apart := false, laid := [("aigrette/pattern.quarters", laid_aigrette_pattern_quarters)], narrowed := true }
def PatternCutsUptoSaid : Prop := patternCutsUptoRow.holds Tryz.pinned (OpenSpec.upto patternCutsSpec)

/-- 'aigrettelaw13.PatternTriangles', WHERE WHAT IT READS IS OF BULK AT MOST 1048576: true; the input reads as it did. -/
def patternTrianglesUptoRow : OpenClaim := { program := "ytihdlpeghlhnoaagreatdoor", sum := "e94aaa1c93284f46239b81a5d2ec45a946304e7f0118e698729c3432c1c8c29a", func := "aigrette/aigrettelaw13.PatternTriangles", spec := "patternTriangles", unfollowed := true, recurses := true, named := ["aigrette/pattern.quarters"], apart := false, laid := [("aigrette/pattern.quarters", laid_aigrette_pattern_quarters)], narrowed := true }
def PatternTrianglesUptoSaid : Prop := patternTrianglesUptoRow.holds Tryz.pinned (OpenSpec.upto patternTrianglesSpec)

/-- 'aigrettelaw13.PatternHulls', WHERE WHAT IT READS IS OF BULK AT MOST 1048576: true; the input reads as it did. -/
def patternHullsUptoRow : OpenClaim := { program := "ytihdlpeghlhnoaagreatdoor", sum := "e94aaa1c93284f46239b81a5d2ec45a946304e7f0118e698729c3432c1c8c29a", func := "aigrette/aigrettelaw13.PatternHulls", spec := "patternHulls", unfollowed := true, recurses := true, named := ["aigrette/pattern.quarters"], apart := false, laid := [("aigrette/pattern.quarters", laid_aigrette_pattern_quarters)], narrowed := true }
def PatternHullsUptoSaid : Prop := patternHullsUptoRow.holds Tryz.pinned (OpenSpec.upto patternHullsSpec)

/-- 'aigrettelaw13.PatternPick', WHERE WHAT IT READS IS OF BULK AT MOST 1048576: true; the input reads as it did. -/
def patternPickUptoRow : OpenClaim := { program := "ytihdlpeghlhnoaagreatdoor", sum := "e94aaa1c93284f46239b81a5d2ec45a946304e7f0118e698729c3432c1c8c29a", func := "aigrette/aigrettelaw13.PatternPick", spec := "patternPick", inPlace := ["slices.overlaps[aigrette/pattern.Point]"], unfollowed := true, recurses := true, named := ["aigrette/pattern.quarters"], apart := false, laid := [("aigrette/pattern.quarters", laid_aigrette_pattern_quarters)], narrowed := true }
def PatternPickUptoSaid : Prop := patternPickUptoRow.holds Tryz.pinned (OpenSpec.upto patternPickSpec)

/-- 'aigrettelaw13.PatternParts', WHERE WHAT IT READS IS OF BULK AT MOST 1048576: true; the input reads as it did. -/
def patternPartsUptoRow : OpenClaim := { program := "ytihdlpeghlhnoaagreatdoor", sum := "e94aaa1c93284f46239b81a5d2ec45a946304e7f0118e698729c3432c1c8c29a", func := "aigrette/aigrettelaw13.PatternParts", spec := "patternParts", inPlace := ["slices.overlaps[aigrette/pattern.Point]"], unfollowed := true, recurses := true, named := ["aigrette/pattern.quarters"], apart := false, laid := [("aigrette/pattern.quarters", laid_aigrette_pattern_quarters)], narrowed := true }
def PatternPartsUptoSaid : Prop := patternPartsUptoRow.holds Tryz.pinned (OpenSpec.upto patternPartsSpec)

/-- 'aigrettelaw13.PatternEars', WHERE WHAT IT READS IS OF BULK AT MOST 1048576: true; the input reads as it did. -/
def patternEarsUptoRow : OpenClaim := { program := "ytihdlpeghlhnoaagreatdoor", sum := "e94aaa1c93284f46239b81a5d2ec45a946304e7f0118e698729c3432c1c8c29a", func := "aigrette/aigrettelaw13.PatternEars", spec := "patternEars", inPlace := ["slices.overlaps[aigrette/pattern.Point]"], unfollowed := true, recurses := true, named := ["aigrette/pattern.quarters"], apart := false, laid := [("aigrette/pattern.quarters", laid_aigrette_pattern_quarters)], narrowed := true }
def PatternEarsUptoSaid : Prop := patternEarsUptoRow.holds Tryz.pinned (OpenSpec.upto patternEarsSpec)

/-- 'aigrettelaw13.PatternDivided', WHERE WHAT IT READS IS OF BULK AT MOST 1048576: true; the input reads as it did. -/
def patternDividedUptoRow : OpenClaim := { program := "ytihdlpeghlhnoaagreatdoor", sum := "e94aaa1c93284f46239b81a5d2ec45a946304e7f0118e698729c3432c1c8c29a", func := "aigrette/aigrettelaw13.PatternDivided", spec := "patternDivided", inPlace := ["slices.overlaps[aigrette/pattern.Point]"], unfollowed := true, recurses := true, named := ["aigrette/pattern.quarters"], apart := false, laid := [("aigrette/pattern.quarters", laid_aigrette_pattern_quarters)], narrowed := true }
def PatternDividedUptoSaid : Prop := patternDividedUptoRow.holds Tryz.pinned (OpenSpec.upto patternDividedSpec)

/-- 'aigrettelaw13.PatternMoved', WHERE WHAT IT READS IS OF BULK AT MOST 1048576: true; the input reads as it did. -/
def patternMovedUptoRow : OpenClaim := { program := "ytihdlpeghlhnoaagreatdoor", sum := "e94aaa1c93284f46239b81a5d2ec45a946304e7f0118e698729c3432c1c8c29a", func := "aigrette/aigrettelaw13.PatternMoved", spec := "patternMoved", inPlace := ["slices.overlaps[aigrette/pattern.Point]"], unfollowed := true, recurses := true, named := ["aigrette/pattern.quarters"], apart := false, laid := [("aigrette/pattern.quarters", laid_aigrette_pattern_quarters)], narrowed := true }
def PatternMovedUptoSaid : Prop := patternMovedUptoRow.holds Tryz.pinned (OpenSpec.upto patternMovedSpec)

/-- 'aigrettelaw13.PatternHulled', WHERE WHAT IT READS IS OF BULK AT MOST 1048576: true; the input reads as it did. -/
def patternHulledUptoRow : OpenClaim := { program := "ytihdlpeghlhnoaagreatdoor", sum := "e94aaa1c93284f46239b81a5d2ec45a946304e7f0118e698729c3432c1c8c29a", func := "aigrette/aigrettelaw13.PatternHulled", spec := "patternHulled", inPlace := ["slices.overlaps[aigrette/pattern.Point]"], unfollowed := true, recurses := true, named := ["aigrette/pattern.quarters"], apart := false, laid := [("aigrette/pattern.quarters", laid_aigrette_pattern_quarters)], narrowed := true }
def PatternHulledUptoSaid : Prop := patternHulledUptoRow.holds Tryz.pinned (OpenSpec.upto patternHulledSpec)

end Rows
end Go.Proofs.YtihdlpeghlhnoaaGreatDoor
