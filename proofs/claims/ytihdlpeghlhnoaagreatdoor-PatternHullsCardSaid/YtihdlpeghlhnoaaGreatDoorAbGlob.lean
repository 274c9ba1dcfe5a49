/-
  The package variables that this seat's code reads, with what they hold.
-/
import Derived.Test.YtihdlpeghlhnoaaGreatDoorAbDefs
set_option linter.all false
namespace Go.Ab
def quarters : List Int := [0, 1, 2, -1, -1, 0, 1, 2, 2, -1, 0, 1, 1, 2, -1, 0]
def globs : Nat → Option AV
  | 0 => some (.agg (quarters.map (AV.int .i64)))
  | _ => none
end Go.Ab
