/-
  NARROWER THAN 'FOR EVERY INPUT', by the rows' own cells (each row's printed sentence says how): PatternSimple: laid · PatternKnown: laid.
  DERIVED. THE GIVEN ROWS OF THIS SEAT. 2 by the template 'for every input the law returns true; each argument reads behind the call as it read before'; 0 by the template 'total and deterministic' (their statements: YtihdlpeghlhnoaaDoorTotals.lean).
  GIVEN WITH THE SEED: the statements are not yours to turn. If you find one false, say at which input.
  Laid BY PROGRAM, IN A SANDBOX (cutbox-rows.mjs): the forced cells as the released guide's own fill.sh prints them over the translation 6c40758392bd4184… (all of the seat's roots in one cut). By AI agents, Wed Nov 11 2026. No macro, syntax, notation, axiom, sorry.
-/
import Derived.Test.YtihdlpeghlhnoaaDoorChecked
import GoSem.Claim
import GoSem.ClaimJoined
import GoSem.ClaimMapViews
import Derived.JoinedTies
import Derived.KernelRfl
namespace Go.Proofs.YtihdlpeghlhnoaaDoor
/- THE CELL 'sum', in the pinned program and in every row, IS THE sha256 OF THE DUMP (.gsa) THAT YtihdlpeghlhnoaaDoorProg.lean LOADS. Nothing in Lean hashes anything: it is a label: what it is worth is what the hold of that sum in a sandbox is worth. -/
noncomputable def Tryd.pinned : Pinned := { name := "ytihdlpeghlhnoaadoor", sum := "6c40758392bd41848ce21c3474ef519e1fc647cf807b028e0eff4704430be6ae", checked := Tryd.checked }
namespace Rows
def none {H : Type} : Left H := { results := [], args := [] }

/- WHAT THE LISTED PACKAGE-LEVEL VARIABLES READ AS WHEN THE CALL BEGINS. Each datum BY PROGRAM (the guide's laid-datum.mjs) off the statement by which the dump's own 'gosem.cut.vars' lays the variable. In a bare row this is a premise. The card (YtihdlpeghlhnoaaDoorCards.lean) ties it to the program's text. -/
def laid_aigrette_pattern_quarters {H : Type} : DataW H := .agg [.agg [.lit (.int .i64 0), .lit (.int .i64 1), .lit (.int .i64 2), .lit (.int .i64 (-1))], .agg [.lit (.int .i64 (-1)), .lit (.int .i64 0), .lit (.int .i64 1), .lit (.int .i64 2)], .agg [.lit (.int .i64 2), .lit (.int .i64 (-1)), .lit (.int .i64 0), .lit (.int .i64 1)], .agg [.lit (.int .i64 1), .lit (.int .i64 2), .lit (.int .i64 (-1)), .lit (.int .i64 0)]]

/-- 'aigrettelaw13.PatternSimple': WHATEVER THE INPUT: true; the input reads as it did. -/
def patternSimpleSpec : ChangeSpec := { name := "patternSimple", fn := fun _ => fun
  | [d1, d2] => { results := [.lit (.bool true)], args := [d1, d2] }
  | _ => none }
def patternSimpleRow : OpenClaim := { program := "ytihdlpeghlhnoaadoor", sum := "6c40758392bd41848ce21c3474ef519e1fc647cf807b028e0eff4704430be6ae", func := "aigrette/aigrettelaw13.PatternSimple", spec := "patternSimple", unfollowed := true, recurses := true, named := ["aigrette/pattern.quarters"], apart := false, laid := [("aigrette/pattern.quarters", laid_aigrette_pattern_quarters)] }
def PatternSimpleSaid : Prop := patternSimpleRow.holds Tryd.pinned (OpenSpec.ofChange patternSimpleSpec)

/-- ITS FALSE NEIGHBOUR: 'it returns false'. Refute it at one input. -/
def patternSimpleWrong : ChangeSpec := { name := "patternSimple", fn := fun _ => fun
  | [d1, d2] => { results := [.lit (.bool false)], args := [d1, d2] }
  | _ => none }
def PatternSimpleWrongFalsely : Prop := patternSimpleRow.holds Tryd.pinned (OpenSpec.ofChange patternSimpleWrong)

/-- 'aigrettelaw13.PatternKnown': WHATEVER THE INPUT: true; the input reads as it did. -/
def patternKnownSpec : ChangeSpec := { name := "patternKnown", fn := fun _ => fun
  | [] => { results := [.lit (.bool true)], args := [] }
  | _ => none }
def patternKnownRow : OpenClaim := { program := "ytihdlpeghlhnoaadoor", sum := "6c40758392bd41848ce21c3474ef519e1fc647cf807b028e0eff4704430be6ae", func := "aigrette/aigrettelaw13.PatternKnown", spec := "patternKnown", unfollowed := true, recurses := true, named := ["aigrette/pattern.quarters"], apart := false, laid := [("aigrette/pattern.quarters", laid_aigrette_pattern_quarters)] }
def PatternKnownSaid : Prop := patternKnownRow.holds Tryd.pinned (OpenSpec.ofChange patternKnownSpec)

/-- ITS FALSE NEIGHBOUR: 'it returns false'. Refute it at one input. -/
def patternKnownWrong : ChangeSpec := { name := "patternKnown", fn := fun _ => fun
  | [] => { results := [.lit (.bool false)], args := [] }
  | _ => none }
def PatternKnownWrongFalsely : Prop := patternKnownRow.holds Tryd.pinned (OpenSpec.ofChange patternKnownWrong)

/- THE SECOND FORM. 'bulk': how many values and letters a reading holds, each counted each time it is reached (what is shared counts as often as it is met; a slice's spare places count too). A statement '..UptoSaid' is the law's where the arguments, and the package variables that the reading takes, are together of bulk at most 1048576: NARROWER than '..Said'. Prove '..Said' where nothing that the law and all that it calls make is longer than what came in: it says more and counts as full. Else prove '..UptoSaid'. A law counts once. -/
mutual
def uptoBulk {H : Type} : DataW H → Nat
  | .lit (.string bytes) => bytes.length + 1
  | .lit _ => 1
  | .nil => 1
  | .ptr d => uptoBulk d + 1
  | .slice elems spare => uptoBulkAll elems + uptoBulkAll spare + 1
  | .agg parts => uptoBulkAll parts + 1
  | .iface _ d => uptoBulk d + 1
  | .map entries => uptoBulkEntries entries + 1
  | .held _ => 1
def uptoBulkAll {H : Type} : List (DataW H) → Nat
  | [] => 0
  | d :: r => uptoBulk d + uptoBulkAll r
def uptoBulkEntries {H : Type} : List (Lit × DataW H) → Nat
  | [] => 0
  | x :: r => uptoBulkEntry x + uptoBulkEntries r
def uptoBulkEntry {H : Type} : Lit × DataW H → Nat
  | (.string bytes, d) => bytes.length + uptoBulk d + 1
  | (_, d) => uptoBulk d + 1
 end
def uptoSmall : (H : Type) → List (DataW H) → Bool := fun _ ds => decide (uptoBulkAll ds ≤ 1048576)
def OpenSpec.upto (s : _root_.Go.ChangeSpec) : _root_.Go.OpenSpec := { _root_.Go.OpenSpec.ofChange s with cond := some uptoSmall }

/-- 'aigrettelaw13.PatternSimple', WHERE WHAT IT READS IS OF BULK AT MOST 1048576: true; the input reads as it did. -/
def patternSimpleUptoRow : OpenClaim := { program := "ytihdlpeghlhnoaadoor", sum := "6c40758392bd41848ce21c3474ef519e1fc647cf807b028e0eff4704430be6ae", func := "aigrette/aigrettelaw13.PatternSimple", spec := "patternSimple", unfollowed := true, recurses := true, named := ["aigrette/pattern.quarters"], apart := false, laid := [("aigrette/pattern.quarters", laid_aigrette_pattern_quarters)], narrowed := true }
def PatternSimpleUptoSaid : Prop := patternSimpleUptoRow.holds Tryd.pinned (OpenSpec.upto patternSimpleSpec)

/-- 'aigrettelaw13.PatternKnown', WHERE WHAT IT READS IS OF BULK AT MOST 1048576: true; the input reads as it did. -/
def patternKnownUptoRow : OpenClaim := { program := "ytihdlpeghlhnoaadoor", sum := "6c40758392bd41848ce21c3474ef519e1fc647cf807b028e0eff4704430be6ae", func := "aigrette/aigrettelaw13.PatternKnown", spec := "patternKnown", unfollowed := true, recurses := true, named := ["aigrette/pattern.quarters"], apart := false, laid := [("aigrette/pattern.quarters", laid_aigrette_pattern_quarters)], narrowed := true }
def PatternKnownUptoSaid : Prop := patternKnownUptoRow.holds Tryd.pinned (OpenSpec.upto patternKnownSpec)

end Rows
end Go.Proofs.YtihdlpeghlhnoaaDoor
