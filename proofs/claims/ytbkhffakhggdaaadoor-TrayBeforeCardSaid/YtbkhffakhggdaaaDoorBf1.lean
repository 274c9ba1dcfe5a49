/-
  Answers of calls, each computed by the proved evaluator: what the law on numbers leans on.
-/
import Derived.Test.YtbkhffakhggdaaaDoorBf0
import Derived.KernelRfl
set_option linter.all false
namespace Go.Proofs.YtbkhffakhggdaaaDoor.Code
open Go Go.Ab
theorem k47_0 : (List.range' 0 16).all k47 = true := by kernel_rfl
theorem k47_16 : (List.range' 16 16).all k47 = true := by kernel_rfl
theorem k47_32 : (List.range' 32 16).all k47 = true := by kernel_rfl
theorem k47_48 : (List.range' 48 16).all k47 = true := by kernel_rfl
theorem k50_0 : (List.range' 0 16).all k50 = true := by kernel_rfl
theorem k50_16 : (List.range' 16 16).all k50 = true := by kernel_rfl
theorem k50_32 : (List.range' 32 16).all k50 = true := by kernel_rfl
theorem k50_48 : (List.range' 48 16).all k50 = true := by kernel_rfl
theorem k29_0 : (List.range' 0 16).all k29 = true := by kernel_rfl
theorem k29_16 : (List.range' 16 16).all k29 = true := by kernel_rfl
theorem k29_32 : (List.range' 32 16).all k29 = true := by kernel_rfl
theorem k29_48 : (List.range' 48 16).all k29 = true := by kernel_rfl
end Go.Proofs.YtbkhffakhggdaaaDoor.Code
