/-
  Answers of calls, each computed by the proved evaluator.
-/
import Derived.Test.YtngoldipfgfecaaDoorEv0
import Derived.KernelRfl
set_option linter.all false
namespace Go.Proofs.YtngoldipfgfecaaDoor.Code
open Go Go.Ab
theorem e8_1 : e8 1 = true := by kernel_rfl
theorem e8_14 : e8 14 = true := by kernel_rfl
theorem e8_17 : e8 17 = true := by kernel_rfl
theorem e8_30 : e8 30 = true := by kernel_rfl
end Go.Proofs.YtngoldipfgfecaaDoor.Code
