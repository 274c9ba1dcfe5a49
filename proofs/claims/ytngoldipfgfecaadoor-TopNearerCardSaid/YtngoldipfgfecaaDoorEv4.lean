/-
  Answers of calls, each computed by the proved evaluator.
-/
import Derived.Test.YtngoldipfgfecaaDoorEv0
import Derived.KernelRfl
set_option linter.all false
namespace Go.Proofs.YtngoldipfgfecaaDoor.Code
open Go Go.Ab
theorem e8_3 : e8 3 = true := by kernel_rfl
theorem e8_12 : e8 12 = true := by kernel_rfl
theorem e8_19 : e8 19 = true := by kernel_rfl
theorem e8_28 : e8 28 = true := by kernel_rfl
end Go.Proofs.YtngoldipfgfecaaDoor.Code
