/-
  Answers of calls, each computed by the proved evaluator.
-/
import Derived.Test.YtngoldipfgfecaaDoorEv0
import Derived.KernelRfl
set_option linter.all false
namespace Go.Proofs.YtngoldipfgfecaaDoor.Code
open Go Go.Ab
theorem e8_7 : e8 7 = true := by kernel_rfl
theorem e8_8 : e8 8 = true := by kernel_rfl
theorem e8_23 : e8 23 = true := by kernel_rfl
theorem e8_24 : e8 24 = true := by kernel_rfl
end Go.Proofs.YtngoldipfgfecaaDoor.Code
