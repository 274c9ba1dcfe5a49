/-
  The compiled functions of this seat, and that each is what the compiler gives. Written by a program of ours.
-/
import Derived.Test.YtihdlpeghlhnoaaGreatDoorCode1
import Derived.Test.YtihdlpeghlhnoaaGreatDoorCode2
import Derived.Test.YtihdlpeghlhnoaaGreatDoorProg
import Derived.KernelRfl
set_option linter.all false
namespace Go.Proofs.YtihdlpeghlhnoaaGreatDoor.Code
open Go Go.Ab
def table : List (FuncId × AFun) := [(6, c6), (13, c13), (14, c14), (15, c15), (16, c16), (18, c18), (20, c20), (22, c22), (23, c23), (25, c25), (27, c27), (28, c28), (29, c29), (31, c31), (33, c33), (34, c34), (36, c36), (38, c38), (40, c40), (41, c41), (42, c42), (43, c43), (44, c44), (49, c49), (51, c51), (53, c53), (58, c58), (60, c60), (61, c61), (62, c62), (63, c63), (64, c64), (66, c66), (67, c67), (69, c69), (70, c70), (71, c71), (72, c72), (74, c74), (75, c75), (76, c76), (77, c77), (78, c78), (79, c79), (80, c80), (81, c81), (83, c83), (84, c84), (85, c85), (88, c88), (90, c90), (91, c91), (93, c93), (94, c94), (95, c95), (96, c96), (97, c97), (101, c101), (102, c102), (103, c103), (104, c104), (105, c105), (106, c106), (107, c107), (108, c108), (109, c109), (110, c110), (111, c111), (112, c112), (114, c114), (115, c115), (116, c116), (117, c117), (120, c120), (123, c123), (124, c124), (125, c125), (126, c126), (127, c127), (128, c128), (129, c129), (130, c130), (131, c131), (132, c132), (137, c137), (138, c138), (139, c139), (147, c147)]
def env : Env := { funs := lookF table, known := fun _ _ _ => none }
theorem tableOK : ∀ p ∈ table, FunOK Tryz.prog p := by
  unfold table
  simp only [List.forall_mem_cons]
  exact ⟨ok6, ok13, ok14, ok15, ok16, ok18, ok20, ok22, ok23, ok25, ok27, ok28, ok29, ok31, ok33, ok34, ok36, ok38, ok40, ok41, ok42, ok43, ok44, ok49, ok51, ok53, ok58, ok60, ok61, ok62, ok63, ok64, ok66, ok67, ok69, ok70, ok71, ok72, ok74, ok75, ok76, ok77, ok78, ok79, ok80, ok81, ok83, ok84, ok85, ok88, ok90, ok91, ok93, ok94, ok95, ok96, ok97, ok101, ok102, ok103, ok104, ok105, ok106, ok107, ok108, ok109, ok110, ok111, ok112, ok114, ok115, ok116, ok117, ok120, ok123, ok124, ok125, ok126, ok127, ok128, ok129, ok130, ok131, ok132, ok137, ok138, ok139, ok147, by simp⟩
theorem mixed : Tryz.prog.follows .mixedOrders = true := by kernel_rfl
end Go.Proofs.YtihdlpeghlhnoaaGreatDoor.Code
