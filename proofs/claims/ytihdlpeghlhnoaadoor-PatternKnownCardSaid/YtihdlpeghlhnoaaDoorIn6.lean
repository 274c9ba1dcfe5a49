/-
  The points inside a piece, computed over the answers of In5.
-/
import Derived.Test.YtihdlpeghlhnoaaDoorIn5
set_option linter.all false
namespace Go.Proofs.YtihdlpeghlhnoaaDoor.Code
open Go Go.Ab
def inLl : AV := .lst 2 false [pq 1 1, pq 1 2, pq 1 3, pq 2 1, pq 3 1]
theorem wkIn : Kept Tryd.prog (29, [L6], .tup [inLl, .int .i64 (.ofNat 0)]) := keptI (by kernel_rfl) (by kernel_rfl) (by kernel_rfl)
end Go.Proofs.YtihdlpeghlhnoaaDoor.Code
