/-
  Answers of what law 9 does behind its search, each computed by the proved evaluator.
-/
import Derived.Test.YtbkhffakhggdaaaDoorTM
import Derived.KernelRfl
set_option linter.all false
namespace Go.Proofs.YtbkhffakhggdaaaDoor.Code
open Go Go.Ab
theorem kb_5_3_6 (ver : Nat) (R0 : Blk) : chk9 ver R0 5 3 6 = true := by kernel_rfl
theorem kb_5_3_7 (ver : Nat) (R0 : Blk) : chk9 ver R0 5 3 7 = true := by kernel_rfl
theorem kb_5_3_8 (ver : Nat) (R0 : Blk) : chk9 ver R0 5 3 8 = true := by kernel_rfl
theorem kb_5_3_9 (ver : Nat) (R0 : Blk) : chk9 ver R0 5 3 9 = true := by kernel_rfl
theorem kb_5_3_10 (ver : Nat) (R0 : Blk) : chk9 ver R0 5 3 10 = true := by kernel_rfl
end Go.Proofs.YtbkhffakhggdaaaDoor.Code
