/-
  Answers of calls, each computed by the proved evaluator.
-/
import Derived.Test.YtngoldipfgfecaaDoorEv0
import Derived.KernelRfl
set_option linter.all false
namespace Go.Proofs.YtngoldipfgfecaaDoor.Code
open Go Go.Ab
theorem e12_t : e12 = true := by kernel_rfl
theorem e67_t : e67 = true := by kernel_rfl
theorem e10_0 : (List.range' 0 8).all e10 = true := by kernel_rfl
theorem e10_8 : (List.range' 8 8).all e10 = true := by kernel_rfl
theorem e10_16 : (List.range' 16 8).all e10 = true := by kernel_rfl
theorem e10_24 : (List.range' 24 8).all e10 = true := by kernel_rfl
theorem e11_0 : (List.range' 0 4).all e11 = true := by kernel_rfl
theorem e11_4 : (List.range' 4 4).all e11 = true := by kernel_rfl
theorem e11_8 : (List.range' 8 4).all e11 = true := by kernel_rfl
theorem e11_12 : (List.range' 12 4).all e11 = true := by kernel_rfl
theorem e11_16 : (List.range' 16 4).all e11 = true := by kernel_rfl
theorem e11_20 : (List.range' 20 4).all e11 = true := by kernel_rfl
theorem e11_24 : (List.range' 24 4).all e11 = true := by kernel_rfl
theorem e11_28 : (List.range' 28 4).all e11 = true := by kernel_rfl
theorem e10b_0 : (List.range' 0 8).all e10b = true := by kernel_rfl
theorem e10b_8 : (List.range' 8 8).all e10b = true := by kernel_rfl
theorem e13_0 : (List.range' 0 4).all e13 = true := by kernel_rfl
theorem e13_4 : (List.range' 4 4).all e13 = true := by kernel_rfl
theorem e13_8 : (List.range' 8 4).all e13 = true := by kernel_rfl
theorem e13_12 : (List.range' 12 4).all e13 = true := by kernel_rfl
end Go.Proofs.YtngoldipfgfecaaDoor.Code
