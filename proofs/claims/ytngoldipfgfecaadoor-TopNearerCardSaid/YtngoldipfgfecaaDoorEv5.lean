/-
  Answers of calls, each computed by the proved evaluator.
-/
import Derived.Test.YtngoldipfgfecaaDoorEv0
import Derived.KernelRfl
set_option linter.all false
namespace Go.Proofs.YtngoldipfgfecaaDoor.Code
open Go Go.Ab
theorem e8_4 : e8 4 = true := by kernel_rfl
theorem e8_11 : e8 11 = true := by kernel_rfl
theorem e8_20 : e8 20 = true := by kernel_rfl
theorem e8_27 : e8 27 = true := by kernel_rfl
end Go.Proofs.YtngoldipfgfecaaDoor.Code
