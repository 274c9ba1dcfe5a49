/-
  Answers of calls, each computed by the proved evaluator.
-/
import Derived.Test.YtngoldipfgfecaaDoorEv0
import Derived.KernelRfl
set_option linter.all false
namespace Go.Proofs.YtngoldipfgfecaaDoor.Code
open Go Go.Ab
theorem e8_0 : e8 0 = true := by kernel_rfl
theorem e8_15 : e8 15 = true := by kernel_rfl
theorem e8_16 : e8 16 = true := by kernel_rfl
theorem e8_31 : e8 31 = true := by kernel_rfl
end Go.Proofs.YtngoldipfgfecaaDoor.Code
