/-
  Answers of calls, each computed by the proved evaluator.
-/
import Derived.Test.YtngoldipfgfecaaDoorEv0
import Derived.KernelRfl
set_option linter.all false
namespace Go.Proofs.YtngoldipfgfecaaDoor.Code
open Go Go.Ab
theorem e8_2 : e8 2 = true := by kernel_rfl
theorem e8_13 : e8 13 = true := by kernel_rfl
theorem e8_18 : e8 18 = true := by kernel_rfl
theorem e8_29 : e8 29 = true := by kernel_rfl
end Go.Proofs.YtngoldipfgfecaaDoor.Code
