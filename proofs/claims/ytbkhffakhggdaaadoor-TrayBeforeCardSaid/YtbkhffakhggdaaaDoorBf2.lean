/-
  Answers of calls, each computed by the proved evaluator: what the law on numbers leans on.
-/
import Derived.Test.YtbkhffakhggdaaaDoorBf0
import Derived.KernelRfl
set_option linter.all false
namespace Go.Proofs.YtbkhffakhggdaaaDoor.Code
open Go Go.Ab
theorem k31_1_0 : (List.range' 0 2).all (k31 1) = true := by kernel_rfl
theorem k31_2_0 : (List.range' 0 4).all (k31 2) = true := by kernel_rfl
theorem k31_3_0 : (List.range' 0 8).all (k31 3) = true := by kernel_rfl
theorem k31_4_0 : (List.range' 0 8).all (k31 4) = true := by kernel_rfl
theorem k31_4_8 : (List.range' 8 8).all (k31 4) = true := by kernel_rfl
theorem k31_5_0 : (List.range' 0 8).all (k31 5) = true := by kernel_rfl
theorem k31_5_8 : (List.range' 8 8).all (k31 5) = true := by kernel_rfl
theorem k31_5_16 : (List.range' 16 8).all (k31 5) = true := by kernel_rfl
theorem k31_5_24 : (List.range' 24 8).all (k31 5) = true := by kernel_rfl
theorem k31_6_0 : (List.range' 0 8).all (k31 6) = true := by kernel_rfl
theorem k31_6_8 : (List.range' 8 8).all (k31 6) = true := by kernel_rfl
theorem k31_6_16 : (List.range' 16 8).all (k31 6) = true := by kernel_rfl
theorem k31_6_24 : (List.range' 24 8).all (k31 6) = true := by kernel_rfl
theorem k31_6_32 : (List.range' 32 8).all (k31 6) = true := by kernel_rfl
theorem k31_6_40 : (List.range' 40 8).all (k31 6) = true := by kernel_rfl
theorem k31_6_48 : (List.range' 48 8).all (k31 6) = true := by kernel_rfl
theorem k31_6_56 : (List.range' 56 8).all (k31 6) = true := by kernel_rfl
end Go.Proofs.YtbkhffakhggdaaaDoor.Code
