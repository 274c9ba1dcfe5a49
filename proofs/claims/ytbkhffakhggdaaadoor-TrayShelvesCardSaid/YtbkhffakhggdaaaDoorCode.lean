/-
  The compiled functions of this seat, and that each is what the compiler gives. Written by a program of ours.
-/
import Derived.Test.YtbkhffakhggdaaaDoorCode1
import Derived.Test.YtbkhffakhggdaaaDoorCode2
import Derived.Test.YtbkhffakhggdaaaDoorCode3
import Derived.Test.YtbkhffakhggdaaaDoorProg
import Derived.KernelRfl
namespace Go.Proofs.YtbkhffakhggdaaaDoor.Code
open Go Go.Ab
def table : List (FuncId × AFun) := [(3, c3), (6, c6), (12, c12), (14, c14), (15, c15), (16, c16), (17, c17), (18, c18), (19, c19), (20, c20), (21, c21), (23, c23), (25, c25), (26, c26), (27, c27), (29, c29), (30, c30), (31, c31), (33, c33), (35, c35), (37, c37), (38, c38), (39, c39), (40, c40), (41, c41), (42, c42), (43, c43), (44, c44), (45, c45), (46, c46), (47, c47), (49, c49), (50, c50), (51, c51), (52, c52), (56, c56), (57, c57), (58, c58), (59, c59), (60, c60), (61, c61), (62, c62), (65, c65), (67, c67), (68, c68), (69, c69), (70, c70), (71, c71), (72, c72), (73, c73), (74, c74), (75, c75), (76, c76), (77, c77), (78, c78), (79, c79), (80, c80), (81, c81), (82, c82), (83, c83), (84, c84), (85, c85), (86, c86), (87, c87), (88, c88), (89, c89), (90, c90), (91, c91), (92, c92), (93, c93), (94, c94), (96, c96), (97, c97), (98, c98), (99, c99), (100, c100), (102, c102), (103, c103), (104, c104), (105, c105), (106, c106), (107, c107), (108, c108), (109, c109), (110, c110), (111, c111), (112, c112), (113, c113), (114, c114), (115, c115), (116, c116), (117, c117), (118, c118), (119, c119), (120, c120), (121, c121), (122, c122), (123, c123), (124, c124), (125, c125), (126, c126), (127, c127), (128, c128), (129, c129), (130, c130), (131, c131), (132, c132), (133, c133), (134, c134), (135, c135), (136, c136), (137, c137), (138, c138), (139, c139), (140, c140), (141, c141), (142, c142), (143, c143), (144, c144)]
def env : Env := { funs := lookF table, known := fun _ _ _ => none }
theorem tableOK : ∀ p ∈ table, FunOK Tryd.prog p := by
  unfold table
  simp only [List.forall_mem_cons]
  exact ⟨ok3, ok6, ok12, ok14, ok15, ok16, ok17, ok18, ok19, ok20, ok21, ok23, ok25, ok26, ok27, ok29, ok30, ok31, ok33, ok35, ok37, ok38, ok39, ok40, ok41, ok42, ok43, ok44, ok45, ok46, ok47, ok49, ok50, ok51, ok52, ok56, ok57, ok58, ok59, ok60, ok61, ok62, ok65, ok67, ok68, ok69, ok70, ok71, ok72, ok73, ok74, ok75, ok76, ok77, ok78, ok79, ok80, ok81, ok82, ok83, ok84, ok85, ok86, ok87, ok88, ok89, ok90, ok91, ok92, ok93, ok94, ok96, ok97, ok98, ok99, ok100, ok102, ok103, ok104, ok105, ok106, ok107, ok108, ok109, ok110, ok111, ok112, ok113, ok114, ok115, ok116, ok117, ok118, ok119, ok120, ok121, ok122, ok123, ok124, ok125, ok126, ok127, ok128, ok129, ok130, ok131, ok132, ok133, ok134, ok135, ok136, ok137, ok138, ok139, ok140, ok141, ok142, ok143, ok144, by simp⟩
theorem mixed : Tryd.prog.follows .mixedOrders = true := by kernel_rfl
end Go.Proofs.YtbkhffakhggdaaaDoor.Code
