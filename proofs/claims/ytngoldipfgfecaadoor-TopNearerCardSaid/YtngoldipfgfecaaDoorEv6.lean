/-
  Answers of calls, each computed by the proved evaluator.
-/
import Derived.Test.YtngoldipfgfecaaDoorEv0
import Derived.KernelRfl
set_option linter.all false
namespace Go.Proofs.YtngoldipfgfecaaDoor.Code
open Go Go.Ab
theorem e8_5 : e8 5 = true := by kernel_rfl
theorem e8_10 : e8 10 = true := by kernel_rfl
theorem e8_21 : e8 21 = true := by kernel_rfl
theorem e8_26 : e8 26 = true := by kernel_rfl
end Go.Proofs.YtngoldipfgfecaaDoor.Code
