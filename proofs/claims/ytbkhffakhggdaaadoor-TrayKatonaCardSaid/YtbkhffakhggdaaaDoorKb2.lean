/-
  Answers of what law 9 does behind its search, each computed by the proved evaluator.
-/
import Derived.Test.YtbkhffakhggdaaaDoorTM
import Derived.KernelRfl
set_option linter.all false
namespace Go.Proofs.YtbkhffakhggdaaaDoor.Code
open Go Go.Ab
theorem kb_5_3_0 (ver : Nat) (R0 : Blk) : chk9 ver R0 5 3 0 = true := by kernel_rfl
theorem kb_5_3_1 (ver : Nat) (R0 : Blk) : chk9 ver R0 5 3 1 = true := by kernel_rfl
theorem kb_5_3_2 (ver : Nat) (R0 : Blk) : chk9 ver R0 5 3 2 = true := by kernel_rfl
theorem kb_5_3_3 (ver : Nat) (R0 : Blk) : chk9 ver R0 5 3 3 = true := by kernel_rfl
theorem kb_5_3_4 (ver : Nat) (R0 : Blk) : chk9 ver R0 5 3 4 = true := by kernel_rfl
theorem kb_5_3_5 (ver : Nat) (R0 : Blk) : chk9 ver R0 5 3 5 = true := by kernel_rfl
end Go.Proofs.YtbkhffakhggdaaaDoor.Code
