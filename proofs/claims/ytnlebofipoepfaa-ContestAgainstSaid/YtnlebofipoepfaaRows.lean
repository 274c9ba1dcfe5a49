/-
  No cell of these rows narrows 'for every input' (looked for: loops, veiled, ifaces, maps, wideKeys, modest, calm, conditions, laid).
  DERIVED. THE GIVEN ROWS OF THIS SEAT. 12 by the template 'for every input the law returns true; each argument reads behind the call as it read before'; 0 by the template 'total and deterministic' (their statements: YtnlebofipoepfaaTotals.lean).
  GIVEN WITH THE SEED: the statements are not yours to turn. If you find one false, say at which input.
  Laid BY PROGRAM, IN A SANDBOX (cutbox-rows.mjs): the forced cells as the released guide's own fill.sh prints them over the translation ef488887e8a9c20c… (all of the seat's roots in one cut). By AI agents, Wed Nov 11 2026. No macro, syntax, notation, axiom, sorry.
-/
import Derived.Test.YtnlebofipoepfaaChecked
import GoSem.Claim
import GoSem.ClaimJoined
import GoSem.ClaimMapViews
import Derived.JoinedTies
import Derived.KernelRfl
namespace Go.Proofs.Ytnlebofipoepfaa
/- THE CELL 'sum', in the pinned program and in every row, IS THE sha256 OF THE DUMP (.gsa) THAT YtnlebofipoepfaaProg.lean LOADS. Nothing in Lean hashes anything: it is a label: what it is worth is what the hold of that sum in a sandbox is worth. -/
noncomputable def Try.pinned : Pinned := { name := "ytnlebofipoepfaa", sum := "ef488887e8a9c20c806af4ed603c6c2cdd756a3875d1a62e8dc055f2cbe99871", checked := Try.checked }
namespace Rows
def none {H : Type} : Left H := { results := [], args := [] }

/-- 'aigrettelaw02.ContestScores': WHATEVER THE INPUT: true; the input reads as it did. -/
def contestScoresSpec : ChangeSpec := { name := "contestScores", fn := fun _ => fun
  | [d] => { results := [.lit (.bool true)], args := [d] }
  | _ => none }
def contestScoresRow : OpenClaim := { program := "ytnlebofipoepfaa", sum := "ef488887e8a9c20c806af4ed603c6c2cdd756a3875d1a62e8dc055f2cbe99871", func := "aigrette/aigrettelaw02.ContestScores", spec := "contestScores", unfollowed := true, recurses := true, apart := false }
def ContestScoresSaid : Prop := contestScoresRow.holds Try.pinned (OpenSpec.ofChange contestScoresSpec)

/-- ITS FALSE NEIGHBOUR: 'it returns false'. Refute it at one input. -/
def contestScoresWrong : ChangeSpec := { name := "contestScores", fn := fun _ => fun
  | [d] => { results := [.lit (.bool false)], args := [d] }
  | _ => none }
def ContestScoresWrongFalsely : Prop := contestScoresRow.holds Try.pinned (OpenSpec.ofChange contestScoresWrong)

/-- 'aigrettelaw02.ContestRows': WHATEVER THE INPUT: true; the input reads as it did. -/
def contestRowsSpec : ChangeSpec := { name := "contestRows", fn := fun _ => fun
  | [d1, d2, d3] => { results := [.lit (.bool true)], args := [d1, d2, d3] }
  | _ => none }
def contestRowsRow : OpenClaim := { program := "ytnlebofipoepfaa", sum := "ef488887e8a9c20c806af4ed603c6c2cdd756a3875d1a62e8dc055f2cbe99871", func := "aigrette/aigrettelaw02.ContestRows", spec := "contestRows", unfollowed := true, recurses := true, apart := false }
def ContestRowsSaid : Prop := contestRowsRow.holds Try.pinned (OpenSpec.ofChange contestRowsSpec)

/-- ITS FALSE NEIGHBOUR: 'it returns false'. Refute it at one input. -/
def contestRowsWrong : ChangeSpec := { name := "contestRows", fn := fun _ => fun
  | [d1, d2, d3] => { results := [.lit (.bool false)], args := [d1, d2, d3] }
  | _ => none }
def ContestRowsWrongFalsely : Prop := contestRowsRow.holds Try.pinned (OpenSpec.ofChange contestRowsWrong)

/-- 'aigrettelaw02.ContestGroups': WHATEVER THE INPUT: true; the input reads as it did. -/
def contestGroupsSpec : ChangeSpec := { name := "contestGroups", fn := fun _ => fun
  | [d] => { results := [.lit (.bool true)], args := [d] }
  | _ => none }
def contestGroupsRow : OpenClaim := { program := "ytnlebofipoepfaa", sum := "ef488887e8a9c20c806af4ed603c6c2cdd756a3875d1a62e8dc055f2cbe99871", func := "aigrette/aigrettelaw02.ContestGroups", spec := "contestGroups", unfollowed := true, recurses := true, apart := false }
def ContestGroupsSaid : Prop := contestGroupsRow.holds Try.pinned (OpenSpec.ofChange contestGroupsSpec)

/-- ITS FALSE NEIGHBOUR: 'it returns false'. Refute it at one input. -/
def contestGroupsWrong : ChangeSpec := { name := "contestGroups", fn := fun _ => fun
  | [d] => { results := [.lit (.bool false)], args := [d] }
  | _ => none }
def ContestGroupsWrongFalsely : Prop := contestGroupsRow.holds Try.pinned (OpenSpec.ofChange contestGroupsWrong)

/-- 'aigrettelaw02.ContestAgainst': WHATEVER THE INPUT: true; the input reads as it did. -/
def contestAgainstSpec : ChangeSpec := { name := "contestAgainst", fn := fun _ => fun
  | [d1, d2] => { results := [.lit (.bool true)], args := [d1, d2] }
  | _ => none }
def contestAgainstRow : OpenClaim := { program := "ytnlebofipoepfaa", sum := "ef488887e8a9c20c806af4ed603c6c2cdd756a3875d1a62e8dc055f2cbe99871", func := "aigrette/aigrettelaw02.ContestAgainst", spec := "contestAgainst", unfollowed := true, recurses := true, apart := false }
def ContestAgainstSaid : Prop := contestAgainstRow.holds Try.pinned (OpenSpec.ofChange contestAgainstSpec)

/-- ITS FALSE NEIGHBOUR: 'it returns false'. Refute it at one input. -/
def contestAgainstWrong : ChangeSpec := { name := "contestAgainst", fn := fun _ => fun
  | [d1, d2] => { results := [.lit (.bool false)], args := [d1, d2] }
  | _ => none }
def ContestAgainstWrongFalsely : Prop := contestAgainstRow.holds Try.pinned (OpenSpec.ofChange contestAgainstWrong)

/-- 'aigrettelaw02.ContestChains': WHATEVER THE INPUT: true; the input reads as it did. -/
def contestChainsSpec : ChangeSpec := { name := "contestChains", fn := fun _ => fun
  | [d1, d2, d3] => { results := [.lit (.bool true)], args := [d1, d2, d3] }
  | _ => none }
def contestChainsRow : OpenClaim := { program := "ytnlebofipoepfaa", sum := "ef488887e8a9c20c806af4ed603c6c2cdd756a3875d1a62e8dc055f2cbe99871", func := "aigrette/aigrettelaw02.ContestChains", spec := "contestChains", unfollowed := true, recurses := true, apart := false }
def ContestChainsSaid : Prop := contestChainsRow.holds Try.pinned (OpenSpec.ofChange contestChainsSpec)

/-- ITS FALSE NEIGHBOUR: 'it returns false'. Refute it at one input. -/
def contestChainsWrong : ChangeSpec := { name := "contestChains", fn := fun _ => fun
  | [d1, d2, d3] => { results := [.lit (.bool false)], args := [d1, d2, d3] }
  | _ => none }
def ContestChainsWrongFalsely : Prop := contestChainsRow.holds Try.pinned (OpenSpec.ofChange contestChainsWrong)

/-- 'aigrettelaw02.ContestDivided': WHATEVER THE INPUT: true; the input reads as it did. -/
def contestDividedSpec : ChangeSpec := { name := "contestDivided", fn := fun _ => fun
  | [d] => { results := [.lit (.bool true)], args := [d] }
  | _ => none }
def contestDividedRow : OpenClaim := { program := "ytnlebofipoepfaa", sum := "ef488887e8a9c20c806af4ed603c6c2cdd756a3875d1a62e8dc055f2cbe99871", func := "aigrette/aigrettelaw02.ContestDivided", spec := "contestDivided", unfollowed := true, recurses := true, apart := false }
def ContestDividedSaid : Prop := contestDividedRow.holds Try.pinned (OpenSpec.ofChange contestDividedSpec)

/-- ITS FALSE NEIGHBOUR: 'it returns false'. Refute it at one input. -/
def contestDividedWrong : ChangeSpec := { name := "contestDivided", fn := fun _ => fun
  | [d] => { results := [.lit (.bool false)], args := [d] }
  | _ => none }
def ContestDividedWrongFalsely : Prop := contestDividedRow.holds Try.pinned (OpenSpec.ofChange contestDividedWrong)

/-- 'aigrettelaw02.ContestLandau': WHATEVER THE INPUT: true; the input reads as it did. -/
def contestLandauSpec : ChangeSpec := { name := "contestLandau", fn := fun _ => fun
  | [d1, d2] => { results := [.lit (.bool true)], args := [d1, d2] }
  | _ => none }
def contestLandauRow : OpenClaim := { program := "ytnlebofipoepfaa", sum := "ef488887e8a9c20c806af4ed603c6c2cdd756a3875d1a62e8dc055f2cbe99871", func := "aigrette/aigrettelaw02.ContestLandau", spec := "contestLandau", unfollowed := true, recurses := true, apart := false }
def ContestLandauSaid : Prop := contestLandauRow.holds Try.pinned (OpenSpec.ofChange contestLandauSpec)

/-- ITS FALSE NEIGHBOUR: 'it returns false'. Refute it at one input. -/
def contestLandauWrong : ChangeSpec := { name := "contestLandau", fn := fun _ => fun
  | [d1, d2] => { results := [.lit (.bool false)], args := [d1, d2] }
  | _ => none }
def ContestLandauWrongFalsely : Prop := contestLandauRow.holds Try.pinned (OpenSpec.ofChange contestLandauWrong)

/-- 'aigrettelaw02.ContestThrees': WHATEVER THE INPUT: true; the input reads as it did. -/
def contestThreesSpec : ChangeSpec := { name := "contestThrees", fn := fun _ => fun
  | [d] => { results := [.lit (.bool true)], args := [d] }
  | _ => none }
def contestThreesRow : OpenClaim := { program := "ytnlebofipoepfaa", sum := "ef488887e8a9c20c806af4ed603c6c2cdd756a3875d1a62e8dc055f2cbe99871", func := "aigrette/aigrettelaw02.ContestThrees", spec := "contestThrees", unfollowed := true, recurses := true, apart := false }
def ContestThreesSaid : Prop := contestThreesRow.holds Try.pinned (OpenSpec.ofChange contestThreesSpec)

/-- ITS FALSE NEIGHBOUR: 'it returns false'. Refute it at one input. -/
def contestThreesWrong : ChangeSpec := { name := "contestThrees", fn := fun _ => fun
  | [d] => { results := [.lit (.bool false)], args := [d] }
  | _ => none }
def ContestThreesWrongFalsely : Prop := contestThreesRow.holds Try.pinned (OpenSpec.ofChange contestThreesWrong)

/-- 'aigrettelaw02.ContestKnown': WHATEVER THE INPUT: true; the input reads as it did. -/
def contestKnownSpec : ChangeSpec := { name := "contestKnown", fn := fun _ => fun
  | [] => { results := [.lit (.bool true)], args := [] }
  | _ => none }
def contestKnownRow : OpenClaim := { program := "ytnlebofipoepfaa", sum := "ef488887e8a9c20c806af4ed603c6c2cdd756a3875d1a62e8dc055f2cbe99871", func := "aigrette/aigrettelaw02.ContestKnown", spec := "contestKnown", unfollowed := true, recurses := true, apart := false }
def ContestKnownSaid : Prop := contestKnownRow.holds Try.pinned (OpenSpec.ofChange contestKnownSpec)

/-- ITS FALSE NEIGHBOUR: 'it returns false'. Refute it at one input. -/
def contestKnownWrong : ChangeSpec := { name := "contestKnown", fn := fun _ => fun
  | [] => { results := [.lit (.bool false)], args := [] }
  | _ => none }
def ContestKnownWrongFalsely : Prop := contestKnownRow.holds Try.pinned (OpenSpec.ofChange contestKnownWrong)

/-- 'aigrettelaw02.ContestRedei': WHATEVER THE INPUT: true; the input reads as it did. -/
def contestRedeiSpec : ChangeSpec := { name := "contestRedei", fn := fun _ => fun
  | [d] => { results := [.lit (.bool true)], args := [d] }
  | _ => none }
def contestRedeiRow : OpenClaim := { program := "ytnlebofipoepfaa", sum := "ef488887e8a9c20c806af4ed603c6c2cdd756a3875d1a62e8dc055f2cbe99871", func := "aigrette/aigrettelaw02.ContestRedei", spec := "contestRedei", unfollowed := true, recurses := true, apart := false }
def ContestRedeiSaid : Prop := contestRedeiRow.holds Try.pinned (OpenSpec.ofChange contestRedeiSpec)

/-- ITS FALSE NEIGHBOUR: 'it returns false'. Refute it at one input. -/
def contestRedeiWrong : ChangeSpec := { name := "contestRedei", fn := fun _ => fun
  | [d] => { results := [.lit (.bool false)], args := [d] }
  | _ => none }
def ContestRedeiWrongFalsely : Prop := contestRedeiRow.holds Try.pinned (OpenSpec.ofChange contestRedeiWrong)

/-- 'aigrettelaw02.ContestKings': WHATEVER THE INPUT: true; the input reads as it did. -/
def contestKingsSpec : ChangeSpec := { name := "contestKings", fn := fun _ => fun
  | [d] => { results := [.lit (.bool true)], args := [d] }
  | _ => none }
def contestKingsRow : OpenClaim := { program := "ytnlebofipoepfaa", sum := "ef488887e8a9c20c806af4ed603c6c2cdd756a3875d1a62e8dc055f2cbe99871", func := "aigrette/aigrettelaw02.ContestKings", spec := "contestKings", unfollowed := true, recurses := true, apart := false }
def ContestKingsSaid : Prop := contestKingsRow.holds Try.pinned (OpenSpec.ofChange contestKingsSpec)

/-- ITS FALSE NEIGHBOUR: 'it returns false'. Refute it at one input. -/
def contestKingsWrong : ChangeSpec := { name := "contestKings", fn := fun _ => fun
  | [d] => { results := [.lit (.bool false)], args := [d] }
  | _ => none }
def ContestKingsWrongFalsely : Prop := contestKingsRow.holds Try.pinned (OpenSpec.ofChange contestKingsWrong)

/-- 'aigrettelaw02.ContestTurned': WHATEVER THE INPUT: true; the input reads as it did. -/
def contestTurnedSpec : ChangeSpec := { name := "contestTurned", fn := fun _ => fun
  | [d1, d2] => { results := [.lit (.bool true)], args := [d1, d2] }
  | _ => none }
def contestTurnedRow : OpenClaim := { program := "ytnlebofipoepfaa", sum := "ef488887e8a9c20c806af4ed603c6c2cdd756a3875d1a62e8dc055f2cbe99871", func := "aigrette/aigrettelaw02.ContestTurned", spec := "contestTurned", unfollowed := true, recurses := true, apart := false }
def ContestTurnedSaid : Prop := contestTurnedRow.holds Try.pinned (OpenSpec.ofChange contestTurnedSpec)

/-- ITS FALSE NEIGHBOUR: 'it returns false'. Refute it at one input. -/
def contestTurnedWrong : ChangeSpec := { name := "contestTurned", fn := fun _ => fun
  | [d1, d2] => { results := [.lit (.bool false)], args := [d1, d2] }
  | _ => none }
def ContestTurnedWrongFalsely : Prop := contestTurnedRow.holds Try.pinned (OpenSpec.ofChange contestTurnedWrong)

/- THE SECOND FORM. 'bulk': how many values and letters a reading holds, each counted each time it is reached (what is shared counts as often as it is met; a slice's spare places count too). A statement '..UptoSaid' is the law's where the arguments, and the package variables that the reading takes, are together of bulk at most 1048576: NARROWER than '..Said'. Prove '..Said' where nothing that the law and all that it calls make is longer than what came in: it says more and counts as full. Else prove '..UptoSaid'. A law counts once. -/
mutual
def uptoBulk {H : Type} : DataW H → Nat
  | .lit (.string bytes) => bytes.length + 1
  | .lit _ => 1
  | .nil => 1
  | .ptr d => uptoBulk d + 1
  | .slice elems spare => uptoBulkAll elems + uptoBulkAll spare + 1
  | .agg parts => uptoBulkAll parts + 1
  | .iface _ d => uptoBulk d + 1
  | .map entries => uptoBulkEntries entries + 1
  | .held _ => 1
def uptoBulkAll {H : Type} : List (DataW H) → Nat
  | [] => 0
  | d :: r => uptoBulk d + uptoBulkAll r
def uptoBulkEntries {H : Type} : List (Lit × DataW H) → Nat
  | [] => 0
  | x :: r => uptoBulkEntry x + uptoBulkEntries r
def uptoBulkEntry {H : Type} : Lit × DataW H → Nat
  | (.string bytes, d) => bytes.length + uptoBulk d + 1
  | (_, d) => uptoBulk d + 1
 end
def uptoSmall : (H : Type) → List (DataW H) → Bool := fun _ ds => decide (uptoBulkAll ds ≤ 1048576)
def OpenSpec.upto (s : _root_.Go.ChangeSpec) : _root_.Go.OpenSpec := { _root_.Go.OpenSpec.ofChange s with cond := some uptoSmall }

/-- 'aigrettelaw02.ContestScores', WHERE WHAT IT READS IS OF BULK AT MOST 1048576: true; the input reads as it did. -/
def contestScoresUptoRow : OpenClaim := { program := "ytnlebofipoepfaa", sum := "ef488887e8a9c20c806af4ed603c6c2cdd756a3875d1a62e8dc055f2cbe99871", func := "aigrette/aigrettelaw02.ContestScores", spec := "contestScores", unfollowed := true, recurses := true, apart := false, narrowed := true }
def ContestScoresUptoSaid : Prop := contestScoresUptoRow.holds Try.pinned (OpenSpec.upto contestScoresSpec)

/-- 'aigrettelaw02.ContestRows', WHERE WHAT IT READS IS OF BULK AT MOST 1048576: true; the input reads as it did. -/
def contestRowsUptoRow : OpenClaim := { program := "ytnlebofipoepfaa", sum := "ef488887e8a9c20c806af4ed603c6c2cdd756a3875d1a62e8dc055f2cbe99871", func := "aigrette/aigrettelaw02.ContestRows", spec := "contestRows", unfollowed := true, recurses := true, apart := false, narrowed := true }
def ContestRowsUptoSaid : Prop := contestRowsUptoRow.holds Try.pinned (OpenSpec.upto contestRowsSpec)

/-- 'aigrettelaw02.ContestGroups', WHERE WHAT IT READS IS OF BULK AT MOST 1048576: true; the input reads as it did. -/
def contestGroupsUptoRow : OpenClaim := { program := "ytnlebofipoepfaa", sum := "ef488887e8a9c20c806af4ed603c6c2cdd756a3875d1a62e8dc055f2cbe99871", func := "aigrette/aigrettelaw02.ContestGroups", spec := "contestGroups", unfollowed := true, recurses := true, apart := false, narrowed := true }
def ContestGroupsUptoSaid : Prop := contestGroupsUptoRow.holds Try.pinned (OpenSpec.upto contestGroupsSpec)

/-- 'aigrettelaw02.ContestAgainst', WHERE WHAT IT READS IS OF BULK AT MOST 1048576: true; the input reads as it did. -/
def contestAgainstUptoRow : OpenClaim := { program := "ytnlebofipoepfaa", sum := "ef488887e8a9c20c806af4ed603c6c2cdd756a3875d1a62e8dc055f2cbe99871", func := "aigrette/aigrettelaw02.ContestAgainst", spec := "contestAgainst", unfollowed := true, recurses := true, apart := false, narrowed := true }
def ContestAgainstUptoSaid : Prop := contestAgainstUptoRow.holds Try.pinned (OpenSpec.upto contestAgainstSpec)

/-- 'aigrettelaw02.ContestChains', WHERE WHAT IT READS IS OF BULK AT MOST 1048576: true; the input reads as it did. -/
def contestChainsUptoRow : OpenClaim := { program := "ytnlebofipoepfaa", sum := "ef488887e8a9c20c806af4ed603c6c2cdd756a3875d1a62e8dc055f2cbe99871", func := "aigrette/aigrettelaw02.ContestChains", spec := "contestChains", unfollowed := true, recurses := true, apart := false, narrowed := true }
def ContestChainsUptoSaid : Prop := contestChainsUptoRow.holds Try.pinned (OpenSpec.upto contestChainsSpec)

/-- 'aigrettelaw02.ContestDivided', WHERE WHAT IT READS IS OF BULK AT MOST 1048576: true; the input reads as it did. -/
def contestDividedUptoRow : OpenClaim := { program := "ytnlebofipoepfaa", sum := "ef488887e8a9c20c806af4ed603c6c2cdd756a3875d1a62e8dc055f2cbe99871", func := "aigrette/aigrettelaw02.ContestDivided", spec := "contestDivided", unfollowed := true, recurses := true, apart := false, narrowed := true }
def ContestDividedUptoSaid : Prop := contestDividedUptoRow.holds Try.pinned (OpenSpec.upto contestDividedSpec)

/-- 'aigrettelaw02.ContestLandau', WHERE WHAT IT READS IS OF BULK AT MOST 1048576: true; the input reads as it did. -/
def contestLandauUptoRow : OpenClaim := { program := "ytnlebofipoepfaa", sum := "ef488887e8a9c20c806af4ed603c6c2cdd756a3875d1a62e8dc055f2cbe99871", func := "aigrette/aigrettelaw02.ContestLandau", spec := "contestLandau", unfollowed := true, recurses := true, apart := false, narrowed := true }
def ContestLandauUptoSaid : Prop := contestLandauUptoRow.holds Try.pinned (OpenSpec.upto contestLandauSpec)

/-- 'aigrettelaw02.ContestThrees', WHERE WHAT IT READS IS OF BULK AT MOST 1048576: true; the input reads as it did. -/
def contestThreesUptoRow : OpenClaim := { program := "ytnlebofipoepfaa", sum := "ef488887e8a9c20c806af4ed603c6c2cdd756a3875d1a62e8dc055f2cbe99871", func := "aigrette/aigrettelaw02.ContestThrees", spec := "contestThrees", unfollowed := true, recurses := true, apart := false, narrowed := true }
def ContestThreesUptoSaid : Prop := contestThreesUptoRow.holds Try.pinned (OpenSpec.upto contestThreesSpec)

/-- 'aigrettelaw02.ContestKnown', WHERE WHAT IT READS IS OF BULK AT MOST 1048576: true; the input reads as it did. -/
def contestKnownUptoRow : OpenClaim := { program := "ytnlebofipoepfaa", sum := "ef488887e8a9c20c806af4ed603c6c2cdd756a3875d1a62e8dc055f2cbe99871", func := "aigrette/aigrettelaw02.ContestKnown", spec := "contestKnown", unfollowed := true, recurses := true, apart := false, narrowed := true }
def ContestKnownUptoSaid : Prop := contestKnownUptoRow.holds Try.pinned (OpenSpec.upto contestKnownSpec)

/-- 'aigrettelaw02.ContestRedei', WHERE WHAT IT READS IS OF BULK AT MOST 1048576: true; the input reads as it did. -/
def contestRedeiUptoRow : OpenClaim := { program := "ytnlebofipoepfaa", sum := "ef488887e8a9c20c806af4ed603c6c2cdd756a3875d1a62e8dc055f2cbe99871", func := "aigrette/aigrettelaw02.ContestRedei", spec := "contestRedei", unfollowed := true, recurses := true, apart := false, narrowed := true }
def ContestRedeiUptoSaid : Prop := contestRedeiUptoRow.holds Try.pinned (OpenSpec.upto contestRedeiSpec)

/-- 'aigrettelaw02.ContestKings', WHERE WHAT IT READS IS OF BULK AT MOST 1048576: true; the input reads as it did. -/
def contestKingsUptoRow : OpenClaim := { program := "ytnlebofipoepfaa", sum := "ef488887e8a9c20c806af4ed603c6c2cdd756a3875d1a62e8dc055f2cbe99871", func := "aigrette/aigrettelaw02.ContestKings", spec := "contestKings", unfollowed := true, recurses := true, apart := false, narrowed := true }
def ContestKingsUptoSaid : Prop := contestKingsUptoRow.holds Try.pinned (OpenSpec.upto contestKingsSpec)

/-- 'aigrettelaw02.ContestTurned', WHERE WHAT IT READS IS OF BULK AT MOST 1048576: true; the input reads as it did. -/
def contestTurnedUptoRow : OpenClaim := { program := "ytnlebofipoepfaa", sum := "ef488887e8a9c20c806af4ed603c6c2cdd756a3875d1a62e8dc055f2cbe99871", func := "aigrette/aigrettelaw02.ContestTurned", spec := "contestTurned", unfollowed := true, recurses := true, apart := false, narrowed := true }
def ContestTurnedUptoSaid : Prop := contestTurnedUptoRow.holds Try.pinned (OpenSpec.upto contestTurnedSpec)

end Rows
end Go.Proofs.Ytnlebofipoepfaa
