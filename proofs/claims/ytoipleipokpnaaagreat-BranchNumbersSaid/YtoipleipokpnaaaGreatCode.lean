/-
  The compiled functions of this seat, and that each is what the compiler gives. Written by a program of ours.
-/
import Derived.Test.YtoipleipokpnaaaGreatCode1
import Derived.Test.YtoipleipokpnaaaGreatCode2
import Derived.Test.YtoipleipokpnaaaGreatCode3
import Derived.Test.YtoipleipokpnaaaGreatProg
import Derived.KernelRfl
set_option linter.all false
namespace Go.Proofs.YtoipleipokpnaaaGreat.Code
open Go Go.Ab
def table : List (FuncId × AFun) := [(3, c3), (4, c4), (7, c7), (8, c8), (9, c9), (10, c10), (11, c11), (12, c12), (13, c13), (14, c14), (15, c15), (16, c16), (17, c17), (18, c18), (19, c19), (20, c20), (21, c21), (22, c22), (23, c23), (24, c24), (25, c25), (26, c26), (27, c27), (28, c28), (30, c30), (33, c33), (37, c37), (38, c38), (39, c39), (40, c40), (41, c41), (42, c42), (43, c43), (44, c44), (45, c45), (46, c46), (47, c47), (48, c48), (49, c49), (50, c50), (51, c51), (52, c52), (53, c53), (54, c54), (55, c55), (56, c56), (57, c57), (58, c58), (59, c59), (60, c60), (61, c61), (62, c62), (64, c64), (65, c65), (66, c66), (67, c67), (73, c73), (74, c74), (75, c75), (76, c76), (77, c77), (78, c78), (79, c79), (80, c80), (82, c82), (83, c83), (84, c84), (85, c85), (94, c94), (95, c95), (96, c96), (97, c97), (99, c99), (100, c100), (103, c103), (104, c104), (105, c105), (106, c106), (107, c107), (109, c109), (110, c110), (111, c111), (112, c112), (113, c113), (114, c114), (115, c115), (116, c116), (117, c117), (118, c118), (119, c119), (120, c120), (121, c121), (124, c124), (125, c125), (126, c126), (127, c127), (130, c130), (146, c146), (147, c147), (148, c148), (149, c149), (150, c150), (151, c151), (152, c152), (153, c153), (154, c154)]
def env : Env := { funs := lookF table, known := fun _ _ _ => none }
theorem tableOK : ∀ p ∈ table, FunOK Tryz.prog p := by
  unfold table
  simp only [List.forall_mem_cons]
  exact ⟨ok3, ok4, ok7, ok8, ok9, ok10, ok11, ok12, ok13, ok14, ok15, ok16, ok17, ok18, ok19, ok20, ok21, ok22, ok23, ok24, ok25, ok26, ok27, ok28, ok30, ok33, ok37, ok38, ok39, ok40, ok41, ok42, ok43, ok44, ok45, ok46, ok47, ok48, ok49, ok50, ok51, ok52, ok53, ok54, ok55, ok56, ok57, ok58, ok59, ok60, ok61, ok62, ok64, ok65, ok66, ok67, ok73, ok74, ok75, ok76, ok77, ok78, ok79, ok80, ok82, ok83, ok84, ok85, ok94, ok95, ok96, ok97, ok99, ok100, ok103, ok104, ok105, ok106, ok107, ok109, ok110, ok111, ok112, ok113, ok114, ok115, ok116, ok117, ok118, ok119, ok120, ok121, ok124, ok125, ok126, ok127, ok130, ok146, ok147, ok148, ok149, ok150, ok151, ok152, ok153, ok154, by simp⟩
theorem mixed : Tryz.prog.follows .mixedOrders = true := by kernel_rfl
end Go.Proofs.YtoipleipokpnaaaGreat.Code
