/-
  Answers of calls, each computed by the proved evaluator, and kept on every heap.
-/
import Derived.Test.YtbkhffakhggdaaaDoorKp0
import Derived.KernelRfl
set_option linter.all false
namespace Go.Proofs.YtbkhffakhggdaaaDoor.Code
open Go Go.Ab
theorem e47_0 : (List.range' 0 16).all e47 = true := by kernel_rfl
theorem e47_16 : (List.range' 16 16).all e47 = true := by kernel_rfl
theorem e47_32 : (List.range' 32 16).all e47 = true := by kernel_rfl
theorem e47_48 : (List.range' 48 16).all e47 = true := by kernel_rfl
theorem e88_1 : (List.range' 0 2).all (e88 1) = true := by kernel_rfl
theorem e87_1 : (List.range' 0 2).all (e87 1) = true := by kernel_rfl
theorem e85_1 : (List.range' 1 1).all e85 = true := by kernel_rfl
theorem e88_2 : (List.range' 0 3).all (e88 2) = true := by kernel_rfl
theorem e87_2 : (List.range' 0 3).all (e87 2) = true := by kernel_rfl
theorem e85_2 : (List.range' 2 1).all e85 = true := by kernel_rfl
theorem e88_3 : (List.range' 0 4).all (e88 3) = true := by kernel_rfl
theorem e87_3 : (List.range' 0 4).all (e87 3) = true := by kernel_rfl
theorem e85_3 : (List.range' 3 1).all e85 = true := by kernel_rfl
theorem e88_4 : (List.range' 0 5).all (e88 4) = true := by kernel_rfl
theorem e87_4 : (List.range' 0 5).all (e87 4) = true := by kernel_rfl
theorem e85_4 : (List.range' 4 1).all e85 = true := by kernel_rfl
theorem e88_5 : (List.range' 0 6).all (e88 5) = true := by kernel_rfl
theorem e87_5 : (List.range' 0 6).all (e87 5) = true := by kernel_rfl
theorem e85_5 : (List.range' 5 1).all e85 = true := by kernel_rfl
theorem e88_6 : (List.range' 0 7).all (e88 6) = true := by kernel_rfl
theorem e87_6 : (List.range' 0 7).all (e87 6) = true := by kernel_rfl
theorem e85_6 : (List.range' 6 1).all e85 = true := by kernel_rfl
theorem e65_0 : (List.range' 0 7).all e65 = true := by kernel_rfl
theorem e27_1 : (List.range' 1 6).all e27 = true := by kernel_rfl
theorem e25_1 : (List.range' 1 1).all e25 = true := by kernel_rfl
theorem e26_1 : (List.range' 1 1).all e26 = true := by kernel_rfl
theorem e25_2 : (List.range' 2 1).all e25 = true := by kernel_rfl
theorem e26_2 : (List.range' 2 1).all e26 = true := by kernel_rfl
theorem e25_3 : (List.range' 3 1).all e25 = true := by kernel_rfl
theorem e26_3 : (List.range' 3 1).all e26 = true := by kernel_rfl
end Go.Proofs.YtbkhffakhggdaaaDoor.Code
