/-
  Part of the proofs about this chapter: contracts of functions, answers of calls, and plain laws.
-/
import Derived.Test.YtbkhffakhggdaaaDoorNu0
import Derived.KernelRfl
set_option linter.all false
section
namespace Go.Proofs.YtbkhffakhggdaaaDoor.Code
open Go Go.Ab
theorem kChainX_6_0 : (List.range' 0 2).all (kChainX 6) = true := by kernel_rfl
theorem kChainX_6_2 : (List.range' 2 2).all (kChainX 6) = true := by kernel_rfl
theorem kChainX_6_4 : (List.range' 4 2).all (kChainX 6) = true := by kernel_rfl
theorem kChainX_6_6 : (List.range' 6 2).all (kChainX 6) = true := by kernel_rfl
theorem kChainX_6_8 : (List.range' 8 2).all (kChainX 6) = true := by kernel_rfl
theorem kChainX_6_10 : (List.range' 10 2).all (kChainX 6) = true := by kernel_rfl
theorem kChainX_6_12 : (List.range' 12 2).all (kChainX 6) = true := by kernel_rfl
theorem kChainX_6_14 : (List.range' 14 2).all (kChainX 6) = true := by kernel_rfl
theorem kChainX_6_16 : (List.range' 16 2).all (kChainX 6) = true := by kernel_rfl
theorem kChainX_6_18 : (List.range' 18 2).all (kChainX 6) = true := by kernel_rfl
theorem kChainX_6_20 : (List.range' 20 2).all (kChainX 6) = true := by kernel_rfl
theorem kChainX_6_22 : (List.range' 22 2).all (kChainX 6) = true := by kernel_rfl
theorem kChainX_6_24 : (List.range' 24 2).all (kChainX 6) = true := by kernel_rfl
theorem kChainX_6_26 : (List.range' 26 2).all (kChainX 6) = true := by kernel_rfl
theorem kChainX_6_28 : (List.range' 28 2).all (kChainX 6) = true := by kernel_rfl
theorem kChainX_6_30 : (List.range' 30 2).all (kChainX 6) = true := by kernel_rfl
end Go.Proofs.YtbkhffakhggdaaaDoor.Code
end

section
namespace Go.Proofs.YtbkhffakhggdaaaDoor.Code
open Go Go.Ab
theorem kChainX_6_32 : (List.range' 32 2).all (kChainX 6) = true := by kernel_rfl
theorem kChainX_6_34 : (List.range' 34 2).all (kChainX 6) = true := by kernel_rfl
theorem kChainX_6_36 : (List.range' 36 2).all (kChainX 6) = true := by kernel_rfl
theorem kChainX_6_38 : (List.range' 38 2).all (kChainX 6) = true := by kernel_rfl
theorem kChainX_6_40 : (List.range' 40 2).all (kChainX 6) = true := by kernel_rfl
theorem kChainX_6_42 : (List.range' 42 2).all (kChainX 6) = true := by kernel_rfl
theorem kChainX_6_44 : (List.range' 44 2).all (kChainX 6) = true := by kernel_rfl
theorem kChainX_6_46 : (List.range' 46 2).all (kChainX 6) = true := by kernel_rfl
theorem kChainX_6_48 : (List.range' 48 2).all (kChainX 6) = true := by kernel_rfl
theorem kChainX_6_50 : (List.range' 50 2).all (kChainX 6) = true := by kernel_rfl
theorem kChainX_6_52 : (List.range' 52 2).all (kChainX 6) = true := by kernel_rfl
theorem kChainX_6_54 : (List.range' 54 2).all (kChainX 6) = true := by kernel_rfl
theorem kChainX_6_56 : (List.range' 56 2).all (kChainX 6) = true := by kernel_rfl
theorem kChainX_6_58 : (List.range' 58 2).all (kChainX 6) = true := by kernel_rfl
theorem kChainX_6_60 : (List.range' 60 2).all (kChainX 6) = true := by kernel_rfl
theorem kChainX_6_62 : (List.range' 62 2).all (kChainX 6) = true := by kernel_rfl
end Go.Proofs.YtbkhffakhggdaaaDoor.Code
end

