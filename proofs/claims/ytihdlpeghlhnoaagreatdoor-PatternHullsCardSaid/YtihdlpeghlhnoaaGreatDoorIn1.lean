/-
  Answers of calls, each computed by the proved evaluator.
-/
import Derived.Test.YtihdlpeghlhnoaaGreatDoorLib
set_option linter.all false
section
namespace Go.Proofs.YtihdlpeghlhnoaaGreatDoor.Code
open Go Go.Ab
theorem ea_0 : ((List.range 12).all fun y => ea 0 y) = true := by kernel_rfl
theorem eb_0 : ((List.range 12).all fun y => eb 0 y) = true := by kernel_rfl
theorem ea_1 : ((List.range 12).all fun y => ea 1 y) = true := by kernel_rfl
theorem eb_1 : ((List.range 12).all fun y => eb 1 y) = true := by kernel_rfl
theorem ea_2 : ((List.range 12).all fun y => ea 2 y) = true := by kernel_rfl
theorem eb_2 : ((List.range 12).all fun y => eb 2 y) = true := by kernel_rfl
end Go.Proofs.YtihdlpeghlhnoaaGreatDoor.Code
end

section
namespace Go.Proofs.YtihdlpeghlhnoaaGreatDoor.Code
open Go Go.Ab
theorem ea_3 : ((List.range 12).all fun y => ea 3 y) = true := by kernel_rfl
theorem eb_3 : ((List.range 12).all fun y => eb 3 y) = true := by kernel_rfl
theorem ea_4 : ((List.range 12).all fun y => ea 4 y) = true := by kernel_rfl
theorem eb_4 : ((List.range 12).all fun y => eb 4 y) = true := by kernel_rfl
theorem ea_5 : ((List.range 12).all fun y => ea 5 y) = true := by kernel_rfl
theorem eb_5 : ((List.range 12).all fun y => eb 5 y) = true := by kernel_rfl
end Go.Proofs.YtihdlpeghlhnoaaGreatDoor.Code
end

