/-
  The package variables that this seat's code reads, with what they hold: none.
-/
import Derived.Test.YtoipleipokpnaaaAbDefs
set_option linter.all false
namespace Go.Ab
def globs : Nat → Option AV := fun _ => none
end Go.Ab
