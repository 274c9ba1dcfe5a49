/-
  The compiled functions of this seat, and that each is what the compiler gives. Written by a program of ours.
-/
import Derived.Test.YtoipleipokpnaaaCode1
import Derived.Test.YtoipleipokpnaaaCode2
import Derived.Test.YtoipleipokpnaaaCode3
import Derived.Test.YtoipleipokpnaaaProg
import Derived.KernelRfl
set_option linter.all false
namespace Go.Proofs.Ytoipleipokpnaaa.Code
open Go Go.Ab
def table : List (FuncId × AFun) := [(4, c4), (10, c10), (11, c11), (12, c12), (14, c14), (16, c16), (18, c18), (19, c19), (21, c21), (22, c22), (23, c23), (24, c24), (25, c25), (26, c26), (27, c27), (28, c28), (30, c30), (32, c32), (33, c33), (39, c39), (40, c40), (41, c41), (43, c43), (44, c44), (45, c45), (46, c46), (48, c48), (49, c49), (50, c50), (51, c51), (52, c52), (53, c53), (54, c54), (57, c57), (58, c58), (60, c60), (61, c61), (62, c62), (63, c63), (64, c64), (65, c65), (66, c66), (67, c67), (68, c68), (69, c69), (70, c70), (71, c71), (72, c72), (73, c73), (74, c74), (75, c75), (76, c76), (77, c77), (78, c78), (79, c79), (80, c80), (81, c81), (82, c82), (83, c83), (84, c84), (85, c85), (86, c86), (87, c87), (88, c88), (93, c93), (101, c101), (102, c102), (129, c129), (130, c130), (131, c131), (132, c132), (133, c133), (134, c134), (135, c135), (136, c136), (137, c137)]
def env : Env := { funs := lookF table, known := fun _ _ _ => none }
theorem tableOK : ∀ p ∈ table, FunOK Try.prog p := by
  unfold table
  simp only [List.forall_mem_cons]
  exact ⟨ok4, ok10, ok11, ok12, ok14, ok16, ok18, ok19, ok21, ok22, ok23, ok24, ok25, ok26, ok27, ok28, ok30, ok32, ok33, ok39, ok40, ok41, ok43, ok44, ok45, ok46, ok48, ok49, ok50, ok51, ok52, ok53, ok54, ok57, ok58, ok60, ok61, ok62, ok63, ok64, ok65, ok66, ok67, ok68, ok69, ok70, ok71, ok72, ok73, ok74, ok75, ok76, ok77, ok78, ok79, ok80, ok81, ok82, ok83, ok84, ok85, ok86, ok87, ok88, ok93, ok101, ok102, ok129, ok130, ok131, ok132, ok133, ok134, ok135, ok136, ok137, by simp⟩
theorem mixed : Try.prog.follows .mixedOrders = true := by kernel_rfl
end Go.Proofs.Ytoipleipokpnaaa.Code
