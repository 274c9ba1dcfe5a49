/-
  Part of the proofs about this chapter: contracts of functions, answers of calls, and plain laws.
-/
import Derived.Test.YtbkhffakhggdaaaDoorNu0
import Derived.KernelRfl
set_option linter.all false
section
namespace Go.Proofs.YtbkhffakhggdaaaDoor.Code
open Go Go.Ab
theorem kFreeX_1_0 : (List.range' 0 2).all (kFreeX 1) = true := by kernel_rfl
theorem kFreeX_2_0 : (List.range' 0 4).all (kFreeX 2) = true := by kernel_rfl
theorem kFreeX_3_0 : (List.range' 0 8).all (kFreeX 3) = true := by kernel_rfl
theorem kFreeX_4_0 : (List.range' 0 8).all (kFreeX 4) = true := by kernel_rfl
theorem kFreeX_4_8 : (List.range' 8 8).all (kFreeX 4) = true := by kernel_rfl
theorem kFreeX_5_0 : (List.range' 0 8).all (kFreeX 5) = true := by kernel_rfl
theorem kFreeX_5_8 : (List.range' 8 8).all (kFreeX 5) = true := by kernel_rfl
theorem kFreeX_5_16 : (List.range' 16 8).all (kFreeX 5) = true := by kernel_rfl
theorem kFreeX_5_24 : (List.range' 24 8).all (kFreeX 5) = true := by kernel_rfl
theorem kFreeX_6_0 : (List.range' 0 8).all (kFreeX 6) = true := by kernel_rfl
theorem kFreeX_6_8 : (List.range' 8 8).all (kFreeX 6) = true := by kernel_rfl
theorem kFreeX_6_16 : (List.range' 16 8).all (kFreeX 6) = true := by kernel_rfl
theorem kFreeX_6_24 : (List.range' 24 8).all (kFreeX 6) = true := by kernel_rfl
theorem kFreeX_6_32 : (List.range' 32 8).all (kFreeX 6) = true := by kernel_rfl
theorem kFreeX_6_40 : (List.range' 40 8).all (kFreeX 6) = true := by kernel_rfl
theorem kFreeX_6_48 : (List.range' 48 8).all (kFreeX 6) = true := by kernel_rfl
theorem kFreeX_6_56 : (List.range' 56 8).all (kFreeX 6) = true := by kernel_rfl
end Go.Proofs.YtbkhffakhggdaaaDoor.Code
end

section
namespace Go.Proofs.YtbkhffakhggdaaaDoor.Code
open Go Go.Ab
theorem kChainX_1_0 : (List.range' 0 2).all (kChainX 1) = true := by kernel_rfl
theorem kChainX_2_0 : (List.range' 0 4).all (kChainX 2) = true := by kernel_rfl
theorem kChainX_3_0 : (List.range' 0 8).all (kChainX 3) = true := by kernel_rfl
theorem kChainX_4_0 : (List.range' 0 8).all (kChainX 4) = true := by kernel_rfl
theorem kChainX_4_8 : (List.range' 8 8).all (kChainX 4) = true := by kernel_rfl
theorem kChainX_5_0 : (List.range' 0 4).all (kChainX 5) = true := by kernel_rfl
theorem kChainX_5_4 : (List.range' 4 4).all (kChainX 5) = true := by kernel_rfl
theorem kChainX_5_8 : (List.range' 8 4).all (kChainX 5) = true := by kernel_rfl
theorem kChainX_5_12 : (List.range' 12 4).all (kChainX 5) = true := by kernel_rfl
theorem kChainX_5_16 : (List.range' 16 4).all (kChainX 5) = true := by kernel_rfl
theorem kChainX_5_20 : (List.range' 20 4).all (kChainX 5) = true := by kernel_rfl
theorem kChainX_5_24 : (List.range' 24 4).all (kChainX 5) = true := by kernel_rfl
theorem kChainX_5_28 : (List.range' 28 4).all (kChainX 5) = true := by kernel_rfl
end Go.Proofs.YtbkhffakhggdaaaDoor.Code
end

section
namespace Go.Proofs.YtbkhffakhggdaaaDoor.Code
open Go Go.Ab
theorem k20n_ok : k20n = true := by kernel_rfl
theorem k30n_ok : k30n = true := by kernel_rfl
theorem kFreeE_1 : (List.range' 1 6).all kFreeE = true := by kernel_rfl
theorem kChainE_1 : (List.range' 1 6).all kChainE = true := by kernel_rfl
theorem kEq_1 : (List.range' 1 1).all kEq = true := by kernel_rfl
theorem kEq_2 : (List.range' 2 1).all kEq = true := by kernel_rfl
theorem kEq_3 : (List.range' 3 1).all kEq = true := by kernel_rfl
theorem kEq_4 : (List.range' 4 1).all kEq = true := by kernel_rfl
theorem kEq_5 : (List.range' 5 1).all kEq = true := by kernel_rfl
theorem kEq_6 : (List.range' 6 1).all kEq = true := by kernel_rfl
end Go.Proofs.YtbkhffakhggdaaaDoor.Code
end

