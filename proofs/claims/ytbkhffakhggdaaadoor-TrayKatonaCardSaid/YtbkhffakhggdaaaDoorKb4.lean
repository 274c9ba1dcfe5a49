/-
  Answers of what law 9 does behind its search, each computed by the proved evaluator.
-/
import Derived.Test.YtbkhffakhggdaaaDoorTM
import Derived.KernelRfl
set_option linter.all false
namespace Go.Proofs.YtbkhffakhggdaaaDoor.Code
open Go Go.Ab
theorem kb_1_0_0 (ver : Nat) (R0 : Blk) : chk9 ver R0 1 0 0 = true := by kernel_rfl
theorem kb_1_0_1 (ver : Nat) (R0 : Blk) : chk9 ver R0 1 0 1 = true := by kernel_rfl
theorem kb_1_1_0 (ver : Nat) (R0 : Blk) : chk9 ver R0 1 1 0 = true := by kernel_rfl
theorem kb_1_1_1 (ver : Nat) (R0 : Blk) : chk9 ver R0 1 1 1 = true := by kernel_rfl
theorem kb_2_0_0 (ver : Nat) (R0 : Blk) : chk9 ver R0 2 0 0 = true := by kernel_rfl
theorem kb_2_0_1 (ver : Nat) (R0 : Blk) : chk9 ver R0 2 0 1 = true := by kernel_rfl
theorem kb_2_1_0 (ver : Nat) (R0 : Blk) : chk9 ver R0 2 1 0 = true := by kernel_rfl
theorem kb_2_1_1 (ver : Nat) (R0 : Blk) : chk9 ver R0 2 1 1 = true := by kernel_rfl
theorem kb_2_1_2 (ver : Nat) (R0 : Blk) : chk9 ver R0 2 1 2 = true := by kernel_rfl
theorem kb_2_2_0 (ver : Nat) (R0 : Blk) : chk9 ver R0 2 2 0 = true := by kernel_rfl
theorem kb_2_2_1 (ver : Nat) (R0 : Blk) : chk9 ver R0 2 2 1 = true := by kernel_rfl
theorem kb_3_0_0 (ver : Nat) (R0 : Blk) : chk9 ver R0 3 0 0 = true := by kernel_rfl
theorem kb_3_0_1 (ver : Nat) (R0 : Blk) : chk9 ver R0 3 0 1 = true := by kernel_rfl
theorem kb_3_1_0 (ver : Nat) (R0 : Blk) : chk9 ver R0 3 1 0 = true := by kernel_rfl
theorem kb_3_1_1 (ver : Nat) (R0 : Blk) : chk9 ver R0 3 1 1 = true := by kernel_rfl
theorem kb_3_1_2 (ver : Nat) (R0 : Blk) : chk9 ver R0 3 1 2 = true := by kernel_rfl
theorem kb_3_1_3 (ver : Nat) (R0 : Blk) : chk9 ver R0 3 1 3 = true := by kernel_rfl
theorem kb_3_2_0 (ver : Nat) (R0 : Blk) : chk9 ver R0 3 2 0 = true := by kernel_rfl
theorem kb_3_2_1 (ver : Nat) (R0 : Blk) : chk9 ver R0 3 2 1 = true := by kernel_rfl
theorem kb_3_2_2 (ver : Nat) (R0 : Blk) : chk9 ver R0 3 2 2 = true := by kernel_rfl
theorem kb_3_2_3 (ver : Nat) (R0 : Blk) : chk9 ver R0 3 2 3 = true := by kernel_rfl
theorem kb_3_3_0 (ver : Nat) (R0 : Blk) : chk9 ver R0 3 3 0 = true := by kernel_rfl
theorem kb_3_3_1 (ver : Nat) (R0 : Blk) : chk9 ver R0 3 3 1 = true := by kernel_rfl
theorem kb_4_0_0 (ver : Nat) (R0 : Blk) : chk9 ver R0 4 0 0 = true := by kernel_rfl
theorem kb_4_0_1 (ver : Nat) (R0 : Blk) : chk9 ver R0 4 0 1 = true := by kernel_rfl
theorem kb_4_1_0 (ver : Nat) (R0 : Blk) : chk9 ver R0 4 1 0 = true := by kernel_rfl
theorem kb_4_1_1 (ver : Nat) (R0 : Blk) : chk9 ver R0 4 1 1 = true := by kernel_rfl
theorem kb_4_1_2 (ver : Nat) (R0 : Blk) : chk9 ver R0 4 1 2 = true := by kernel_rfl
theorem kb_4_1_3 (ver : Nat) (R0 : Blk) : chk9 ver R0 4 1 3 = true := by kernel_rfl
theorem kb_4_1_4 (ver : Nat) (R0 : Blk) : chk9 ver R0 4 1 4 = true := by kernel_rfl
theorem kb_4_2_0 (ver : Nat) (R0 : Blk) : chk9 ver R0 4 2 0 = true := by kernel_rfl
theorem kb_4_2_1 (ver : Nat) (R0 : Blk) : chk9 ver R0 4 2 1 = true := by kernel_rfl
theorem kb_4_2_2 (ver : Nat) (R0 : Blk) : chk9 ver R0 4 2 2 = true := by kernel_rfl
theorem kb_4_2_3 (ver : Nat) (R0 : Blk) : chk9 ver R0 4 2 3 = true := by kernel_rfl
theorem kb_4_2_4 (ver : Nat) (R0 : Blk) : chk9 ver R0 4 2 4 = true := by kernel_rfl
theorem kb_4_2_5 (ver : Nat) (R0 : Blk) : chk9 ver R0 4 2 5 = true := by kernel_rfl
theorem kb_4_2_6 (ver : Nat) (R0 : Blk) : chk9 ver R0 4 2 6 = true := by kernel_rfl
theorem kb_4_3_0 (ver : Nat) (R0 : Blk) : chk9 ver R0 4 3 0 = true := by kernel_rfl
theorem kb_4_3_1 (ver : Nat) (R0 : Blk) : chk9 ver R0 4 3 1 = true := by kernel_rfl
theorem kb_4_3_2 (ver : Nat) (R0 : Blk) : chk9 ver R0 4 3 2 = true := by kernel_rfl
theorem kb_4_3_3 (ver : Nat) (R0 : Blk) : chk9 ver R0 4 3 3 = true := by kernel_rfl
theorem kb_4_3_4 (ver : Nat) (R0 : Blk) : chk9 ver R0 4 3 4 = true := by kernel_rfl
theorem kb_4_4_0 (ver : Nat) (R0 : Blk) : chk9 ver R0 4 4 0 = true := by kernel_rfl
theorem kb_4_4_1 (ver : Nat) (R0 : Blk) : chk9 ver R0 4 4 1 = true := by kernel_rfl
theorem kb_5_0_0 (ver : Nat) (R0 : Blk) : chk9 ver R0 5 0 0 = true := by kernel_rfl
theorem kb_5_0_1 (ver : Nat) (R0 : Blk) : chk9 ver R0 5 0 1 = true := by kernel_rfl
theorem kb_5_1_0 (ver : Nat) (R0 : Blk) : chk9 ver R0 5 1 0 = true := by kernel_rfl
theorem kb_5_1_1 (ver : Nat) (R0 : Blk) : chk9 ver R0 5 1 1 = true := by kernel_rfl
theorem kb_5_1_2 (ver : Nat) (R0 : Blk) : chk9 ver R0 5 1 2 = true := by kernel_rfl
theorem kb_5_1_3 (ver : Nat) (R0 : Blk) : chk9 ver R0 5 1 3 = true := by kernel_rfl
theorem kb_5_1_4 (ver : Nat) (R0 : Blk) : chk9 ver R0 5 1 4 = true := by kernel_rfl
theorem kb_5_1_5 (ver : Nat) (R0 : Blk) : chk9 ver R0 5 1 5 = true := by kernel_rfl
theorem kb_5_4_0 (ver : Nat) (R0 : Blk) : chk9 ver R0 5 4 0 = true := by kernel_rfl
theorem kb_5_4_1 (ver : Nat) (R0 : Blk) : chk9 ver R0 5 4 1 = true := by kernel_rfl
theorem kb_5_4_2 (ver : Nat) (R0 : Blk) : chk9 ver R0 5 4 2 = true := by kernel_rfl
theorem kb_5_4_3 (ver : Nat) (R0 : Blk) : chk9 ver R0 5 4 3 = true := by kernel_rfl
theorem kb_5_4_4 (ver : Nat) (R0 : Blk) : chk9 ver R0 5 4 4 = true := by kernel_rfl
theorem kb_5_4_5 (ver : Nat) (R0 : Blk) : chk9 ver R0 5 4 5 = true := by kernel_rfl
theorem kb_5_5_0 (ver : Nat) (R0 : Blk) : chk9 ver R0 5 5 0 = true := by kernel_rfl
theorem kb_5_5_1 (ver : Nat) (R0 : Blk) : chk9 ver R0 5 5 1 = true := by kernel_rfl
end Go.Proofs.YtbkhffakhggdaaaDoor.Code
