/-
  The compiled functions of this seat, and that each is what the compiler gives. Written by a program of ours.
-/
import Derived.Test.YtoipleipokpnaaaGreatCode1
import Derived.Test.YtoipleipokpnaaaGreatCode2
import Derived.Test.YtoipleipokpnaaaGreatCode3
import Derived.Test.YtoipleipokpnaaaGreatProg
import Derived.KernelRfl
set_option linter.all false
namespace Go.Proofs.YtoipleipokpnaaaGreat.Code
open Go Go.Ab
def table : List (FuncId × AFun) := [(6, c6), (8, c8), (9, c9), (11, c11), (13, c13), (16, c16), (18, c18), (20, c20), (21, c21), (23, c23), (25, c25), (27, c27), (29, c29), (30, c30), (31, c31), (32, c32), (33, c33), (34, c34), (35, c35), (36, c36), (37, c37), (38, c38), (39, c39), (40, c40), (41, c41), (42, c42), (43, c43), (44, c44), (45, c45), (46, c46), (48, c48), (49, c49), (51, c51), (53, c53), (55, c55), (58, c58), (59, c59), (63, c63), (64, c64), (65, c65), (66, c66), (67, c67), (68, c68), (69, c69), (70, c70), (71, c71), (72, c72), (73, c73), (74, c74), (75, c75), (76, c76), (78, c78), (79, c79), (81, c81), (82, c82), (83, c83), (84, c84), (85, c85), (86, c86), (95, c95), (96, c96), (97, c97), (103, c103), (104, c104), (105, c105), (106, c106), (107, c107), (109, c109), (110, c110), (111, c111), (112, c112), (113, c113), (114, c114), (124, c124), (146, c146), (147, c147), (148, c148), (149, c149), (150, c150), (151, c151), (152, c152), (153, c153), (154, c154)]
def env : Env := { funs := lookF table, known := fun _ _ _ => none }
theorem tableOK : ∀ p ∈ table, FunOK Tryz.prog p := by
  unfold table
  simp only [List.forall_mem_cons]
  exact ⟨ok6, ok8, ok9, ok11, ok13, ok16, ok18, ok20, ok21, ok23, ok25, ok27, ok29, ok30, ok31, ok32, ok33, ok34, ok35, ok36, ok37, ok38, ok39, ok40, ok41, ok42, ok43, ok44, ok45, ok46, ok48, ok49, ok51, ok53, ok55, ok58, ok59, ok63, ok64, ok65, ok66, ok67, ok68, ok69, ok70, ok71, ok72, ok73, ok74, ok75, ok76, ok78, ok79, ok81, ok82, ok83, ok84, ok85, ok86, ok95, ok96, ok97, ok103, ok104, ok105, ok106, ok107, ok109, ok110, ok111, ok112, ok113, ok114, ok124, ok146, ok147, ok148, ok149, ok150, ok151, ok152, ok153, ok154, by simp⟩
theorem mixed : Tryz.prog.follows .mixedOrders = true := by kernel_rfl
end Go.Proofs.YtoipleipokpnaaaGreat.Code
