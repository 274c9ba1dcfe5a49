/-
  Answers of calls, each computed by the proved evaluator.
-/
import Derived.Test.YtngoldipfgfecaaDoorEv0
import Derived.KernelRfl
set_option linter.all false
namespace Go.Proofs.YtngoldipfgfecaaDoor.Code
open Go Go.Ab
theorem e8_6 : e8 6 = true := by kernel_rfl
theorem e8_9 : e8 9 = true := by kernel_rfl
theorem e8_22 : e8 22 = true := by kernel_rfl
theorem e8_25 : e8 25 = true := by kernel_rfl
end Go.Proofs.YtngoldipfgfecaaDoor.Code
