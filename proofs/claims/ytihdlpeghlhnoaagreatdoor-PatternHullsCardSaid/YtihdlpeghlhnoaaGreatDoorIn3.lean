/-
  Answers of calls, each computed by the proved evaluator.
-/
import Derived.Test.YtihdlpeghlhnoaaGreatDoorLib
set_option linter.all false
section
namespace Go.Proofs.YtihdlpeghlhnoaaGreatDoor.Code
open Go Go.Ab
theorem ea_6 : ((List.range 12).all fun y => ea 6 y) = true := by kernel_rfl
theorem eb_6 : ((List.range 12).all fun y => eb 6 y) = true := by kernel_rfl
theorem ea_7 : ((List.range 12).all fun y => ea 7 y) = true := by kernel_rfl
theorem eb_7 : ((List.range 12).all fun y => eb 7 y) = true := by kernel_rfl
theorem ea_8 : ((List.range 12).all fun y => ea 8 y) = true := by kernel_rfl
theorem eb_8 : ((List.range 12).all fun y => eb 8 y) = true := by kernel_rfl
end Go.Proofs.YtihdlpeghlhnoaaGreatDoor.Code
end

section
namespace Go.Proofs.YtihdlpeghlhnoaaGreatDoor.Code
open Go Go.Ab
theorem ea_9 : ((List.range 12).all fun y => ea 9 y) = true := by kernel_rfl
theorem eb_9 : ((List.range 12).all fun y => eb 9 y) = true := by kernel_rfl
theorem ea_10 : ((List.range 12).all fun y => ea 10 y) = true := by kernel_rfl
theorem eb_10 : ((List.range 12).all fun y => eb 10 y) = true := by kernel_rfl
theorem ea_11 : ((List.range 12).all fun y => ea 11 y) = true := by kernel_rfl
theorem eb_11 : ((List.range 12).all fun y => eb 11 y) = true := by kernel_rfl
end Go.Proofs.YtihdlpeghlhnoaaGreatDoor.Code
end

