/-
  Answers of what law 9 does behind its search, each computed by the proved evaluator.
-/
import Derived.Test.YtbkhffakhggdaaaDoorTM
import Derived.KernelRfl
set_option linter.all false
namespace Go.Proofs.YtbkhffakhggdaaaDoor.Code
open Go Go.Ab
theorem kb_5_2_0 (ver : Nat) (R0 : Blk) : chk9 ver R0 5 2 0 = true := by kernel_rfl
theorem kb_5_2_1 (ver : Nat) (R0 : Blk) : chk9 ver R0 5 2 1 = true := by kernel_rfl
theorem kb_5_2_2 (ver : Nat) (R0 : Blk) : chk9 ver R0 5 2 2 = true := by kernel_rfl
theorem kb_5_2_3 (ver : Nat) (R0 : Blk) : chk9 ver R0 5 2 3 = true := by kernel_rfl
theorem kb_5_2_4 (ver : Nat) (R0 : Blk) : chk9 ver R0 5 2 4 = true := by kernel_rfl
theorem kb_5_2_5 (ver : Nat) (R0 : Blk) : chk9 ver R0 5 2 5 = true := by kernel_rfl
theorem kb_5_2_6 (ver : Nat) (R0 : Blk) : chk9 ver R0 5 2 6 = true := by kernel_rfl
theorem kb_5_2_7 (ver : Nat) (R0 : Blk) : chk9 ver R0 5 2 7 = true := by kernel_rfl
theorem kb_5_2_8 (ver : Nat) (R0 : Blk) : chk9 ver R0 5 2 8 = true := by kernel_rfl
theorem kb_5_2_9 (ver : Nat) (R0 : Blk) : chk9 ver R0 5 2 9 = true := by kernel_rfl
theorem kb_5_2_10 (ver : Nat) (R0 : Blk) : chk9 ver R0 5 2 10 = true := by kernel_rfl
end Go.Proofs.YtbkhffakhggdaaaDoor.Code
