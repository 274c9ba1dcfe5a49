/-
  Part of the proofs about this chapter: contracts of functions, answers of calls, and plain laws.
-/
import Derived.Test.YtbkhffakhggdaaaDoorCall
import Derived.KernelRfl
import Derived.Test.YtbkhffakhggdaaaDoorTCa
set_option linter.all false
section
namespace Go.Proofs.YtbkhffakhggdaaaDoor.Code
open Go Go.Ab
def cOf : AV → AV
  | .tup (a :: _) => a
  | v => v
def es_1 : List (AV × AV) := [((.int .i64 0), (.int .i64 0)), ((.int .i64 1), (.int .i64 0))]
def t_1_b (vD : AV) (B0 : Blk) : St := ⟨[(3, (.ptr 1 0 0)), (4, vD), (5, (.int .i64 1)), (9, (.mp 2)), (58, (cOf (w25 1))), (59, (.int .i64 1)), (60, (.int .i64 0))], [B0, (.row 0 [(.int .i64 1)] 0 true), (.map [])]⟩
def t_1_r0 (vD : AV) (B0 : Blk) : St := ⟨[(3, (.ptr 1 0 0)), (4, vD), (5, (.int .i64 1)), (9, (.mp 2)), (58, (cOf (w25 1))), (59, (.int .i64 1)), (60, (.int .i64 1))], [B0, (.row 0 [(.int .i64 1)] 0 true), (.map es_1)]⟩
def t_1_c (vD : AV) (B0 : Blk) : St := ⟨[(3, (.ptr 1 0 0)), (4, vD), (5, (.int .i64 1)), (9, (.mp 2)), (58, (cOf (w25 1))), (59, (.int .i64 1)), (60, (.int .i64 1)), (61, (.bool false))], [B0, (.row 0 [(.int .i64 1)] 0 true), (.map es_1)]⟩
def t_1_e (vD : AV) (B0 : Blk) : St := ⟨[(3, (.ptr 1 0 0)), (4, vD), (5, (.int .i64 1)), (9, (.mp 2)), (17, (.int .i64 0)), (95, (.int .i64 2)), (96, (.int .i64 0))], [B0, (.row 0 [(.int .i64 1)] 0 true), (.map es_1)]⟩
def t_1_q0 (vD : AV) (B0 : Blk) : St := ⟨[(3, (.ptr 1 0 0)), (4, vD), (5, (.int .i64 1)), (9, (.mp 2)), (17, (.int .i64 1)), (95, (.int .i64 2)), (96, (.int .i64 2))], [B0, (.row 0 [(.int .i64 1)] 0 true), (.map es_1)]⟩
def t_1_f (vD : AV) (B0 : Blk) : St := ⟨[(3, (.ptr 1 0 0)), (4, vD), (5, (.int .i64 1)), (9, (.mp 2)), (17, (.int .i64 1)), (95, (.int .i64 2)), (96, (.int .i64 2)), (97, (.bool false))], [B0, (.row 0 [(.int .i64 1)] 0 true), (.map es_1)]⟩
def es_2 : List (AV × AV) := [((.int .i64 0), (.int .i64 0)), ((.int .i64 1), (.int .i64 0)), ((.int .i64 3), (.int .i64 0)), ((.int .i64 2), (.int .i64 1))]
def t_2_b (vD : AV) (B0 : Blk) : St := ⟨[(3, (.ptr 1 0 0)), (4, vD), (5, (.int .i64 2)), (9, (.mp 2)), (58, (cOf (w25 2))), (59, (.int .i64 2)), (60, (.int .i64 0))], [B0, (.row 0 [(.int .i64 2)] 0 true), (.map [])]⟩
def t_2_r0 (vD : AV) (B0 : Blk) : St := ⟨[(3, (.ptr 1 0 0)), (4, vD), (5, (.int .i64 2)), (9, (.mp 2)), (58, (cOf (w25 2))), (59, (.int .i64 2)), (60, (.int .i64 2))], [B0, (.row 0 [(.int .i64 2)] 0 true), (.map es_2)]⟩
def t_2_c (vD : AV) (B0 : Blk) : St := ⟨[(3, (.ptr 1 0 0)), (4, vD), (5, (.int .i64 2)), (9, (.mp 2)), (58, (cOf (w25 2))), (59, (.int .i64 2)), (60, (.int .i64 2)), (61, (.bool false))], [B0, (.row 0 [(.int .i64 2)] 0 true), (.map es_2)]⟩
def t_2_e (vD : AV) (B0 : Blk) : St := ⟨[(3, (.ptr 1 0 0)), (4, vD), (5, (.int .i64 2)), (9, (.mp 2)), (17, (.int .i64 0)), (95, (.int .i64 4)), (96, (.int .i64 0))], [B0, (.row 0 [(.int .i64 2)] 0 true), (.map es_2)]⟩
def t_2_q0 (vD : AV) (B0 : Blk) : St := ⟨[(3, (.ptr 1 0 0)), (4, vD), (5, (.int .i64 2)), (9, (.mp 2)), (17, (.int .i64 2)), (95, (.int .i64 4)), (96, (.int .i64 4))], [B0, (.row 0 [(.int .i64 2)] 0 true), (.map es_2)]⟩
def t_2_f (vD : AV) (B0 : Blk) : St := ⟨[(3, (.ptr 1 0 0)), (4, vD), (5, (.int .i64 2)), (9, (.mp 2)), (17, (.int .i64 2)), (95, (.int .i64 4)), (96, (.int .i64 4)), (97, (.bool false))], [B0, (.row 0 [(.int .i64 2)] 0 true), (.map es_2)]⟩
def es_3 : List (AV × AV) := [((.int .i64 0), (.int .i64 0)), ((.int .i64 1), (.int .i64 0)), ((.int .i64 3), (.int .i64 0)), ((.int .i64 7), (.int .i64 0)), ((.int .i64 2), (.int .i64 1)), ((.int .i64 6), (.int .i64 1)), ((.int .i64 4), (.int .i64 2)), ((.int .i64 5), (.int .i64 2))]
def t_3_b (vD : AV) (B0 : Blk) : St := ⟨[(3, (.ptr 1 0 0)), (4, vD), (5, (.int .i64 3)), (9, (.mp 2)), (58, (cOf (w25 3))), (59, (.int .i64 3)), (60, (.int .i64 0))], [B0, (.row 0 [(.int .i64 3)] 0 true), (.map [])]⟩
def t_3_r0 (vD : AV) (B0 : Blk) : St := ⟨[(3, (.ptr 1 0 0)), (4, vD), (5, (.int .i64 3)), (9, (.mp 2)), (58, (cOf (w25 3))), (59, (.int .i64 3)), (60, (.int .i64 3))], [B0, (.row 0 [(.int .i64 3)] 0 true), (.map es_3)]⟩
def t_3_c (vD : AV) (B0 : Blk) : St := ⟨[(3, (.ptr 1 0 0)), (4, vD), (5, (.int .i64 3)), (9, (.mp 2)), (58, (cOf (w25 3))), (59, (.int .i64 3)), (60, (.int .i64 3)), (61, (.bool false))], [B0, (.row 0 [(.int .i64 3)] 0 true), (.map es_3)]⟩
def t_3_e (vD : AV) (B0 : Blk) : St := ⟨[(3, (.ptr 1 0 0)), (4, vD), (5, (.int .i64 3)), (9, (.mp 2)), (17, (.int .i64 0)), (95, (.int .i64 8)), (96, (.int .i64 0))], [B0, (.row 0 [(.int .i64 3)] 0 true), (.map es_3)]⟩
def t_3_q0 (vD : AV) (B0 : Blk) : St := ⟨[(3, (.ptr 1 0 0)), (4, vD), (5, (.int .i64 3)), (9, (.mp 2)), (17, (.int .i64 3)), (95, (.int .i64 8)), (96, (.int .i64 8))], [B0, (.row 0 [(.int .i64 3)] 0 true), (.map es_3)]⟩
def t_3_f (vD : AV) (B0 : Blk) : St := ⟨[(3, (.ptr 1 0 0)), (4, vD), (5, (.int .i64 3)), (9, (.mp 2)), (17, (.int .i64 3)), (95, (.int .i64 8)), (96, (.int .i64 8)), (97, (.bool false))], [B0, (.row 0 [(.int .i64 3)] 0 true), (.map es_3)]⟩
def es_4 : List (AV × AV) := [((.int .i64 0), (.int .i64 0)), ((.int .i64 1), (.int .i64 0)), ((.int .i64 3), (.int .i64 0)), ((.int .i64 7), (.int .i64 0)), ((.int .i64 15), (.int .i64 0)), ((.int .i64 2), (.int .i64 1)), ((.int .i64 6), (.int .i64 1)), ((.int .i64 14), (.int .i64 1)), ((.int .i64 10), (.int .i64 2)), ((.int .i64 4), (.int .i64 3)), ((.int .i64 5), (.int .i64 3)), ((.int .i64 13), (.int .i64 3)), ((.int .i64 12), (.int .i64 4)), ((.int .i64 8), (.int .i64 5)), ((.int .i64 9), (.int .i64 5)), ((.int .i64 11), (.int .i64 5))]
def t_4_b (vD : AV) (B0 : Blk) : St := ⟨[(3, (.ptr 1 0 0)), (4, vD), (5, (.int .i64 6)), (9, (.mp 2)), (58, (cOf (w25 4))), (59, (.int .i64 6)), (60, (.int .i64 0))], [B0, (.row 0 [(.int .i64 4)] 0 true), (.map [])]⟩
def t_4_r0 (vD : AV) (B0 : Blk) : St := ⟨[(3, (.ptr 1 0 0)), (4, vD), (5, (.int .i64 6)), (9, (.mp 2)), (58, (cOf (w25 4))), (59, (.int .i64 6)), (60, (.int .i64 4))], [B0, (.row 0 [(.int .i64 4)] 0 true), (.map [((.int .i64 0), (.int .i64 0)), ((.int .i64 1), (.int .i64 0)), ((.int .i64 3), (.int .i64 0)), ((.int .i64 7), (.int .i64 0)), ((.int .i64 15), (.int .i64 0)), ((.int .i64 2), (.int .i64 1)), ((.int .i64 6), (.int .i64 1)), ((.int .i64 14), (.int .i64 1)), ((.int .i64 10), (.int .i64 2)), ((.int .i64 4), (.int .i64 3)), ((.int .i64 5), (.int .i64 3)), ((.int .i64 13), (.int .i64 3))])]⟩
def t_4_r1 (vD : AV) (B0 : Blk) : St := ⟨[(3, (.ptr 1 0 0)), (4, vD), (5, (.int .i64 6)), (9, (.mp 2)), (58, (cOf (w25 4))), (59, (.int .i64 6)), (60, (.int .i64 6))], [B0, (.row 0 [(.int .i64 4)] 0 true), (.map es_4)]⟩
def t_4_c (vD : AV) (B0 : Blk) : St := ⟨[(3, (.ptr 1 0 0)), (4, vD), (5, (.int .i64 6)), (9, (.mp 2)), (58, (cOf (w25 4))), (59, (.int .i64 6)), (60, (.int .i64 6)), (61, (.bool false))], [B0, (.row 0 [(.int .i64 4)] 0 true), (.map es_4)]⟩
def t_4_e (vD : AV) (B0 : Blk) : St := ⟨[(3, (.ptr 1 0 0)), (4, vD), (5, (.int .i64 6)), (9, (.mp 2)), (17, (.int .i64 0)), (95, (.int .i64 16)), (96, (.int .i64 0))], [B0, (.row 0 [(.int .i64 4)] 0 true), (.map es_4)]⟩
def t_4_q0 (vD : AV) (B0 : Blk) : St := ⟨[(3, (.ptr 1 0 0)), (4, vD), (5, (.int .i64 6)), (9, (.mp 2)), (17, (.int .i64 6)), (95, (.int .i64 16)), (96, (.int .i64 16))], [B0, (.row 0 [(.int .i64 4)] 0 true), (.map es_4)]⟩
def t_4_f (vD : AV) (B0 : Blk) : St := ⟨[(3, (.ptr 1 0 0)), (4, vD), (5, (.int .i64 6)), (9, (.mp 2)), (17, (.int .i64 6)), (95, (.int .i64 16)), (96, (.int .i64 16)), (97, (.bool false))], [B0, (.row 0 [(.int .i64 4)] 0 true), (.map es_4)]⟩
def es_5 : List (AV × AV) := [((.int .i64 0), (.int .i64 0)), ((.int .i64 1), (.int .i64 0)), ((.int .i64 3), (.int .i64 0)), ((.int .i64 7), (.int .i64 0)), ((.int .i64 15), (.int .i64 0)), ((.int .i64 31), (.int .i64 0)), ((.int .i64 2), (.int .i64 1)), ((.int .i64 6), (.int .i64 1)), ((.int .i64 14), (.int .i64 1)), ((.int .i64 30), (.int .i64 1)), ((.int .i64 10), (.int .i64 2)), ((.int .i64 26), (.int .i64 2)), ((.int .i64 18), (.int .i64 3)), ((.int .i64 22), (.int .i64 3)), ((.int .i64 4), (.int .i64 4)), ((.int .i64 5), (.int .i64 4)), ((.int .i64 13), (.int .i64 4)), ((.int .i64 29), (.int .i64 4)), ((.int .i64 12), (.int .i64 5)), ((.int .i64 28), (.int .i64 5)), ((.int .i64 20), (.int .i64 6)), ((.int .i64 21), (.int .i64 6)), ((.int .i64 8), (.int .i64 7)), ((.int .i64 9), (.int .i64 7)), ((.int .i64 11), (.int .i64 7)), ((.int .i64 27), (.int .i64 7)), ((.int .i64 24), (.int .i64 8)), ((.int .i64 25), (.int .i64 8)), ((.int .i64 16), (.int .i64 9)), ((.int .i64 17), (.int .i64 9)), ((.int .i64 19), (.int .i64 9)), ((.int .i64 23), (.int .i64 9))]
def t_5_b (vD : AV) (B0 : Blk) : St := ⟨[(3, (.ptr 1 0 0)), (4, vD), (5, (.int .i64 10)), (9, (.mp 2)), (58, (cOf (w25 5))), (59, (.int .i64 10)), (60, (.int .i64 0))], [B0, (.row 0 [(.int .i64 5)] 0 true), (.map [])]⟩
def t_5_r0 (vD : AV) (B0 : Blk) : St := ⟨[(3, (.ptr 1 0 0)), (4, vD), (5, (.int .i64 10)), (9, (.mp 2)), (58, (cOf (w25 5))), (59, (.int .i64 10)), (60, (.int .i64 4))], [B0, (.row 0 [(.int .i64 5)] 0 true), (.map [((.int .i64 0), (.int .i64 0)), ((.int .i64 1), (.int .i64 0)), ((.int .i64 3), (.int .i64 0)), ((.int .i64 7), (.int .i64 0)), ((.int .i64 15), (.int .i64 0)), ((.int .i64 31), (.int .i64 0)), ((.int .i64 2), (.int .i64 1)), ((.int .i64 6), (.int .i64 1)), ((.int .i64 14), (.int .i64 1)), ((.int .i64 30), (.int .i64 1)), ((.int .i64 10), (.int .i64 2)), ((.int .i64 26), (.int .i64 2)), ((.int .i64 18), (.int .i64 3)), ((.int .i64 22), (.int .i64 3))])]⟩
def t_5_r1 (vD : AV) (B0 : Blk) : St := ⟨[(3, (.ptr 1 0 0)), (4, vD), (5, (.int .i64 10)), (9, (.mp 2)), (58, (cOf (w25 5))), (59, (.int .i64 10)), (60, (.int .i64 8))], [B0, (.row 0 [(.int .i64 5)] 0 true), (.map [((.int .i64 0), (.int .i64 0)), ((.int .i64 1), (.int .i64 0)), ((.int .i64 3), (.int .i64 0)), ((.int .i64 7), (.int .i64 0)), ((.int .i64 15), (.int .i64 0)), ((.int .i64 31), (.int .i64 0)), ((.int .i64 2), (.int .i64 1)), ((.int .i64 6), (.int .i64 1)), ((.int .i64 14), (.int .i64 1)), ((.int .i64 30), (.int .i64 1)), ((.int .i64 10), (.int .i64 2)), ((.int .i64 26), (.int .i64 2)), ((.int .i64 18), (.int .i64 3)), ((.int .i64 22), (.int .i64 3)), ((.int .i64 4), (.int .i64 4)), ((.int .i64 5), (.int .i64 4)), ((.int .i64 13), (.int .i64 4)), ((.int .i64 29), (.int .i64 4)), ((.int .i64 12), (.int .i64 5)), ((.int .i64 28), (.int .i64 5)), ((.int .i64 20), (.int .i64 6)), ((.int .i64 21), (.int .i64 6)), ((.int .i64 8), (.int .i64 7)), ((.int .i64 9), (.int .i64 7)), ((.int .i64 11), (.int .i64 7)), ((.int .i64 27), (.int .i64 7))])]⟩
def t_5_r2 (vD : AV) (B0 : Blk) : St := ⟨[(3, (.ptr 1 0 0)), (4, vD), (5, (.int .i64 10)), (9, (.mp 2)), (58, (cOf (w25 5))), (59, (.int .i64 10)), (60, (.int .i64 10))], [B0, (.row 0 [(.int .i64 5)] 0 true), (.map es_5)]⟩
def t_5_c (vD : AV) (B0 : Blk) : St := ⟨[(3, (.ptr 1 0 0)), (4, vD), (5, (.int .i64 10)), (9, (.mp 2)), (58, (cOf (w25 5))), (59, (.int .i64 10)), (60, (.int .i64 10)), (61, (.bool false))], [B0, (.row 0 [(.int .i64 5)] 0 true), (.map es_5)]⟩
def t_5_e (vD : AV) (B0 : Blk) : St := ⟨[(3, (.ptr 1 0 0)), (4, vD), (5, (.int .i64 10)), (9, (.mp 2)), (17, (.int .i64 0)), (95, (.int .i64 32)), (96, (.int .i64 0))], [B0, (.row 0 [(.int .i64 5)] 0 true), (.map es_5)]⟩
def t_5_q0 (vD : AV) (B0 : Blk) : St := ⟨[(3, (.ptr 1 0 0)), (4, vD), (5, (.int .i64 10)), (9, (.mp 2)), (17, (.int .i64 6)), (95, (.int .i64 32)), (96, (.int .i64 16))], [B0, (.row 0 [(.int .i64 5)] 0 true), (.map es_5)]⟩
def t_5_q1 (vD : AV) (B0 : Blk) : St := ⟨[(3, (.ptr 1 0 0)), (4, vD), (5, (.int .i64 10)), (9, (.mp 2)), (17, (.int .i64 10)), (95, (.int .i64 32)), (96, (.int .i64 32))], [B0, (.row 0 [(.int .i64 5)] 0 true), (.map es_5)]⟩
def t_5_f (vD : AV) (B0 : Blk) : St := ⟨[(3, (.ptr 1 0 0)), (4, vD), (5, (.int .i64 10)), (9, (.mp 2)), (17, (.int .i64 10)), (95, (.int .i64 32)), (96, (.int .i64 32)), (97, (.bool false))], [B0, (.row 0 [(.int .i64 5)] 0 true), (.map es_5)]⟩
def es_6 : List (AV × AV) := [((.int .i64 0), (.int .i64 0)), ((.int .i64 1), (.int .i64 0)), ((.int .i64 3), (.int .i64 0)), ((.int .i64 7), (.int .i64 0)), ((.int .i64 15), (.int .i64 0)), ((.int .i64 31), (.int .i64 0)), ((.int .i64 63), (.int .i64 0)), ((.int .i64 2), (.int .i64 1)), ((.int .i64 6), (.int .i64 1)), ((.int .i64 14), (.int .i64 1)), ((.int .i64 30), (.int .i64 1)), ((.int .i64 62), (.int .i64 1)), ((.int .i64 10), (.int .i64 2)), ((.int .i64 26), (.int .i64 2)), ((.int .i64 58), (.int .i64 2)), ((.int .i64 42), (.int .i64 3)), ((.int .i64 18), (.int .i64 4)), ((.int .i64 22), (.int .i64 4)), ((.int .i64 54), (.int .i64 4)), ((.int .i64 50), (.int .i64 5)), ((.int .i64 34), (.int .i64 6)), ((.int .i64 38), (.int .i64 6)), ((.int .i64 46), (.int .i64 6)), ((.int .i64 4), (.int .i64 7)), ((.int .i64 5), (.int .i64 7)), ((.int .i64 13), (.int .i64 7)), ((.int .i64 29), (.int .i64 7)), ((.int .i64 61), (.int .i64 7)), ((.int .i64 12), (.int .i64 8)), ((.int .i64 28), (.int .i64 8)), ((.int .i64 60), (.int .i64 8)), ((.int .i64 44), (.int .i64 9)), ((.int .i64 20), (.int .i64 10)), ((.int .i64 21), (.int .i64 10)), ((.int .i64 53), (.int .i64 10)), ((.int .i64 52), (.int .i64 11)), ((.int .i64 36), (.int .i64 12)), ((.int .i64 37), (.int .i64 12)), ((.int .i64 45), (.int .i64 12)), ((.int .i64 8), (.int .i64 13)), ((.int .i64 9), (.int .i64 13)), ((.int .i64 11), (.int .i64 13)), ((.int .i64 27), (.int .i64 13)), ((.int .i64 59), (.int .i64 13)), ((.int .i64 24), (.int .i64 14)), ((.int .i64 25), (.int .i64 14)), ((.int .i64 57), (.int .i64 14)), ((.int .i64 56), (.int .i64 15)), ((.int .i64 40), (.int .i64 16)), ((.int .i64 41), (.int .i64 16)), ((.int .i64 43), (.int .i64 16)), ((.int .i64 16), (.int .i64 17)), ((.int .i64 17), (.int .i64 17)), ((.int .i64 19), (.int .i64 17)), ((.int .i64 23), (.int .i64 17)), ((.int .i64 55), (.int .i64 17)), ((.int .i64 48), (.int .i64 18)), ((.int .i64 49), (.int .i64 18)), ((.int .i64 51), (.int .i64 18)), ((.int .i64 32), (.int .i64 19)), ((.int .i64 33), (.int .i64 19)), ((.int .i64 35), (.int .i64 19)), ((.int .i64 39), (.int .i64 19)), ((.int .i64 47), (.int .i64 19))]
def t_6_b (vD : AV) (B0 : Blk) : St := ⟨[(3, (.ptr 1 0 0)), (4, vD), (5, (.int .i64 20)), (9, (.mp 2)), (58, (cOf (w25 6))), (59, (.int .i64 20)), (60, (.int .i64 0))], [B0, (.row 0 [(.int .i64 6)] 0 true), (.map [])]⟩
def t_6_r0 (vD : AV) (B0 : Blk) : St := ⟨[(3, (.ptr 1 0 0)), (4, vD), (5, (.int .i64 20)), (9, (.mp 2)), (58, (cOf (w25 6))), (59, (.int .i64 20)), (60, (.int .i64 4))], [B0, (.row 0 [(.int .i64 6)] 0 true), (.map [((.int .i64 0), (.int .i64 0)), ((.int .i64 1), (.int .i64 0)), ((.int .i64 3), (.int .i64 0)), ((.int .i64 7), (.int .i64 0)), ((.int .i64 15), (.int .i64 0)), ((.int .i64 31), (.int .i64 0)), ((.int .i64 63), (.int .i64 0)), ((.int .i64 2), (.int .i64 1)), ((.int .i64 6), (.int .i64 1)), ((.int .i64 14), (.int .i64 1)), ((.int .i64 30), (.int .i64 1)), ((.int .i64 62), (.int .i64 1)), ((.int .i64 10), (.int .i64 2)), ((.int .i64 26), (.int .i64 2)), ((.int .i64 58), (.int .i64 2)), ((.int .i64 42), (.int .i64 3))])]⟩
def t_6_r1 (vD : AV) (B0 : Blk) : St := ⟨[(3, (.ptr 1 0 0)), (4, vD), (5, (.int .i64 20)), (9, (.mp 2)), (58, (cOf (w25 6))), (59, (.int .i64 20)), (60, (.int .i64 8))], [B0, (.row 0 [(.int .i64 6)] 0 true), (.map [((.int .i64 0), (.int .i64 0)), ((.int .i64 1), (.int .i64 0)), ((.int .i64 3), (.int .i64 0)), ((.int .i64 7), (.int .i64 0)), ((.int .i64 15), (.int .i64 0)), ((.int .i64 31), (.int .i64 0)), ((.int .i64 63), (.int .i64 0)), ((.int .i64 2), (.int .i64 1)), ((.int .i64 6), (.int .i64 1)), ((.int .i64 14), (.int .i64 1)), ((.int .i64 30), (.int .i64 1)), ((.int .i64 62), (.int .i64 1)), ((.int .i64 10), (.int .i64 2)), ((.int .i64 26), (.int .i64 2)), ((.int .i64 58), (.int .i64 2)), ((.int .i64 42), (.int .i64 3)), ((.int .i64 18), (.int .i64 4)), ((.int .i64 22), (.int .i64 4)), ((.int .i64 54), (.int .i64 4)), ((.int .i64 50), (.int .i64 5)), ((.int .i64 34), (.int .i64 6)), ((.int .i64 38), (.int .i64 6)), ((.int .i64 46), (.int .i64 6)), ((.int .i64 4), (.int .i64 7)), ((.int .i64 5), (.int .i64 7)), ((.int .i64 13), (.int .i64 7)), ((.int .i64 29), (.int .i64 7)), ((.int .i64 61), (.int .i64 7))])]⟩
def t_6_r2 (vD : AV) (B0 : Blk) : St := ⟨[(3, (.ptr 1 0 0)), (4, vD), (5, (.int .i64 20)), (9, (.mp 2)), (58, (cOf (w25 6))), (59, (.int .i64 20)), (60, (.int .i64 12))], [B0, (.row 0 [(.int .i64 6)] 0 true), (.map [((.int .i64 0), (.int .i64 0)), ((.int .i64 1), (.int .i64 0)), ((.int .i64 3), (.int .i64 0)), ((.int .i64 7), (.int .i64 0)), ((.int .i64 15), (.int .i64 0)), ((.int .i64 31), (.int .i64 0)), ((.int .i64 63), (.int .i64 0)), ((.int .i64 2), (.int .i64 1)), ((.int .i64 6), (.int .i64 1)), ((.int .i64 14), (.int .i64 1)), ((.int .i64 30), (.int .i64 1)), ((.int .i64 62), (.int .i64 1)), ((.int .i64 10), (.int .i64 2)), ((.int .i64 26), (.int .i64 2)), ((.int .i64 58), (.int .i64 2)), ((.int .i64 42), (.int .i64 3)), ((.int .i64 18), (.int .i64 4)), ((.int .i64 22), (.int .i64 4)), ((.int .i64 54), (.int .i64 4)), ((.int .i64 50), (.int .i64 5)), ((.int .i64 34), (.int .i64 6)), ((.int .i64 38), (.int .i64 6)), ((.int .i64 46), (.int .i64 6)), ((.int .i64 4), (.int .i64 7)), ((.int .i64 5), (.int .i64 7)), ((.int .i64 13), (.int .i64 7)), ((.int .i64 29), (.int .i64 7)), ((.int .i64 61), (.int .i64 7)), ((.int .i64 12), (.int .i64 8)), ((.int .i64 28), (.int .i64 8)), ((.int .i64 60), (.int .i64 8)), ((.int .i64 44), (.int .i64 9)), ((.int .i64 20), (.int .i64 10)), ((.int .i64 21), (.int .i64 10)), ((.int .i64 53), (.int .i64 10)), ((.int .i64 52), (.int .i64 11))])]⟩
def t_6_r3 (vD : AV) (B0 : Blk) : St := ⟨[(3, (.ptr 1 0 0)), (4, vD), (5, (.int .i64 20)), (9, (.mp 2)), (58, (cOf (w25 6))), (59, (.int .i64 20)), (60, (.int .i64 16))], [B0, (.row 0 [(.int .i64 6)] 0 true), (.map [((.int .i64 0), (.int .i64 0)), ((.int .i64 1), (.int .i64 0)), ((.int .i64 3), (.int .i64 0)), ((.int .i64 7), (.int .i64 0)), ((.int .i64 15), (.int .i64 0)), ((.int .i64 31), (.int .i64 0)), ((.int .i64 63), (.int .i64 0)), ((.int .i64 2), (.int .i64 1)), ((.int .i64 6), (.int .i64 1)), ((.int .i64 14), (.int .i64 1)), ((.int .i64 30), (.int .i64 1)), ((.int .i64 62), (.int .i64 1)), ((.int .i64 10), (.int .i64 2)), ((.int .i64 26), (.int .i64 2)), ((.int .i64 58), (.int .i64 2)), ((.int .i64 42), (.int .i64 3)), ((.int .i64 18), (.int .i64 4)), ((.int .i64 22), (.int .i64 4)), ((.int .i64 54), (.int .i64 4)), ((.int .i64 50), (.int .i64 5)), ((.int .i64 34), (.int .i64 6)), ((.int .i64 38), (.int .i64 6)), ((.int .i64 46), (.int .i64 6)), ((.int .i64 4), (.int .i64 7)), ((.int .i64 5), (.int .i64 7)), ((.int .i64 13), (.int .i64 7)), ((.int .i64 29), (.int .i64 7)), ((.int .i64 61), (.int .i64 7)), ((.int .i64 12), (.int .i64 8)), ((.int .i64 28), (.int .i64 8)), ((.int .i64 60), (.int .i64 8)), ((.int .i64 44), (.int .i64 9)), ((.int .i64 20), (.int .i64 10)), ((.int .i64 21), (.int .i64 10)), ((.int .i64 53), (.int .i64 10)), ((.int .i64 52), (.int .i64 11)), ((.int .i64 36), (.int .i64 12)), ((.int .i64 37), (.int .i64 12)), ((.int .i64 45), (.int .i64 12)), ((.int .i64 8), (.int .i64 13)), ((.int .i64 9), (.int .i64 13)), ((.int .i64 11), (.int .i64 13)), ((.int .i64 27), (.int .i64 13)), ((.int .i64 59), (.int .i64 13)), ((.int .i64 24), (.int .i64 14)), ((.int .i64 25), (.int .i64 14)), ((.int .i64 57), (.int .i64 14)), ((.int .i64 56), (.int .i64 15))])]⟩
def t_6_r4 (vD : AV) (B0 : Blk) : St := ⟨[(3, (.ptr 1 0 0)), (4, vD), (5, (.int .i64 20)), (9, (.mp 2)), (58, (cOf (w25 6))), (59, (.int .i64 20)), (60, (.int .i64 20))], [B0, (.row 0 [(.int .i64 6)] 0 true), (.map es_6)]⟩
def t_6_c (vD : AV) (B0 : Blk) : St := ⟨[(3, (.ptr 1 0 0)), (4, vD), (5, (.int .i64 20)), (9, (.mp 2)), (58, (cOf (w25 6))), (59, (.int .i64 20)), (60, (.int .i64 20)), (61, (.bool false))], [B0, (.row 0 [(.int .i64 6)] 0 true), (.map es_6)]⟩
def t_6_e (vD : AV) (B0 : Blk) : St := ⟨[(3, (.ptr 1 0 0)), (4, vD), (5, (.int .i64 20)), (9, (.mp 2)), (17, (.int .i64 0)), (95, (.int .i64 64)), (96, (.int .i64 0))], [B0, (.row 0 [(.int .i64 6)] 0 true), (.map es_6)]⟩
def t_6_q0 (vD : AV) (B0 : Blk) : St := ⟨[(3, (.ptr 1 0 0)), (4, vD), (5, (.int .i64 20)), (9, (.mp 2)), (17, (.int .i64 4)), (95, (.int .i64 64)), (96, (.int .i64 16))], [B0, (.row 0 [(.int .i64 6)] 0 true), (.map es_6)]⟩
def t_6_q1 (vD : AV) (B0 : Blk) : St := ⟨[(3, (.ptr 1 0 0)), (4, vD), (5, (.int .i64 20)), (9, (.mp 2)), (17, (.int .i64 10)), (95, (.int .i64 64)), (96, (.int .i64 32))], [B0, (.row 0 [(.int .i64 6)] 0 true), (.map es_6)]⟩
def t_6_q2 (vD : AV) (B0 : Blk) : St := ⟨[(3, (.ptr 1 0 0)), (4, vD), (5, (.int .i64 20)), (9, (.mp 2)), (17, (.int .i64 16)), (95, (.int .i64 64)), (96, (.int .i64 48))], [B0, (.row 0 [(.int .i64 6)] 0 true), (.map es_6)]⟩
def t_6_q3 (vD : AV) (B0 : Blk) : St := ⟨[(3, (.ptr 1 0 0)), (4, vD), (5, (.int .i64 20)), (9, (.mp 2)), (17, (.int .i64 20)), (95, (.int .i64 64)), (96, (.int .i64 64))], [B0, (.row 0 [(.int .i64 6)] 0 true), (.map es_6)]⟩
def t_6_f (vD : AV) (B0 : Blk) : St := ⟨[(3, (.ptr 1 0 0)), (4, vD), (5, (.int .i64 20)), (9, (.mp 2)), (17, (.int .i64 20)), (95, (.int .i64 64)), (96, (.int .i64 64)), (97, (.bool false))], [B0, (.row 0 [(.int .i64 6)] 0 true), (.map es_6)]⟩
end Go.Proofs.YtbkhffakhggdaaaDoor.Code
end

section
namespace Go.Proofs.YtbkhffakhggdaaaDoor.Code
open Go Go.Ab
theorem u_1_r0 (vD : AV) (B0 : Blk) : rounds E 200000 c11_l2 1 (t_1_b vD B0).fr (t_1_b vD B0).H = some ((t_1_r0 vD B0).fr, (t_1_r0 vD B0).H) := by kernel_rfl
theorem u_1_c (vD : AV) (B0 : Blk) : exec E 200000 0 0 (.loop c11_l2) (t_1_r0 vD B0) = some (.exit 0, t_1_c vD B0) := by kernel_rfl
theorem u_1_q0 (vD : AV) (B0 : Blk) : rounds E 200000 c11_l3 2 (t_1_e vD B0).fr (t_1_e vD B0).H = some ((t_1_q0 vD B0).fr, (t_1_q0 vD B0).H) := by kernel_rfl
theorem u_1_f (vD : AV) (B0 : Blk) : exec E 200000 0 0 (.loop c11_l3) (t_1_q0 vD B0) = some (.exit 6, t_1_f vD B0) := by kernel_rfl
theorem u_2_r0 (vD : AV) (B0 : Blk) : rounds E 200000 c11_l2 2 (t_2_b vD B0).fr (t_2_b vD B0).H = some ((t_2_r0 vD B0).fr, (t_2_r0 vD B0).H) := by kernel_rfl
theorem u_2_c (vD : AV) (B0 : Blk) : exec E 200000 0 0 (.loop c11_l2) (t_2_r0 vD B0) = some (.exit 0, t_2_c vD B0) := by kernel_rfl
theorem u_2_q0 (vD : AV) (B0 : Blk) : rounds E 200000 c11_l3 4 (t_2_e vD B0).fr (t_2_e vD B0).H = some ((t_2_q0 vD B0).fr, (t_2_q0 vD B0).H) := by kernel_rfl
theorem u_2_f (vD : AV) (B0 : Blk) : exec E 200000 0 0 (.loop c11_l3) (t_2_q0 vD B0) = some (.exit 6, t_2_f vD B0) := by kernel_rfl
theorem u_3_r0 (vD : AV) (B0 : Blk) : rounds E 200000 c11_l2 3 (t_3_b vD B0).fr (t_3_b vD B0).H = some ((t_3_r0 vD B0).fr, (t_3_r0 vD B0).H) := by kernel_rfl
theorem u_3_c (vD : AV) (B0 : Blk) : exec E 200000 0 0 (.loop c11_l2) (t_3_r0 vD B0) = some (.exit 0, t_3_c vD B0) := by kernel_rfl
theorem u_3_q0 (vD : AV) (B0 : Blk) : rounds E 200000 c11_l3 8 (t_3_e vD B0).fr (t_3_e vD B0).H = some ((t_3_q0 vD B0).fr, (t_3_q0 vD B0).H) := by kernel_rfl
theorem u_3_f (vD : AV) (B0 : Blk) : exec E 200000 0 0 (.loop c11_l3) (t_3_q0 vD B0) = some (.exit 6, t_3_f vD B0) := by kernel_rfl
theorem u_4_r0 (vD : AV) (B0 : Blk) : rounds E 200000 c11_l2 4 (t_4_b vD B0).fr (t_4_b vD B0).H = some ((t_4_r0 vD B0).fr, (t_4_r0 vD B0).H) := by kernel_rfl
theorem u_4_r1 (vD : AV) (B0 : Blk) : rounds E 200000 c11_l2 2 (t_4_r0 vD B0).fr (t_4_r0 vD B0).H = some ((t_4_r1 vD B0).fr, (t_4_r1 vD B0).H) := by kernel_rfl
theorem u_4_c (vD : AV) (B0 : Blk) : exec E 200000 0 0 (.loop c11_l2) (t_4_r1 vD B0) = some (.exit 0, t_4_c vD B0) := by kernel_rfl
theorem u_4_q0 (vD : AV) (B0 : Blk) : rounds E 200000 c11_l3 16 (t_4_e vD B0).fr (t_4_e vD B0).H = some ((t_4_q0 vD B0).fr, (t_4_q0 vD B0).H) := by kernel_rfl
theorem u_4_f (vD : AV) (B0 : Blk) : exec E 200000 0 0 (.loop c11_l3) (t_4_q0 vD B0) = some (.exit 6, t_4_f vD B0) := by kernel_rfl
theorem u_5_r0 (vD : AV) (B0 : Blk) : rounds E 200000 c11_l2 4 (t_5_b vD B0).fr (t_5_b vD B0).H = some ((t_5_r0 vD B0).fr, (t_5_r0 vD B0).H) := by kernel_rfl
theorem u_5_r1 (vD : AV) (B0 : Blk) : rounds E 200000 c11_l2 4 (t_5_r0 vD B0).fr (t_5_r0 vD B0).H = some ((t_5_r1 vD B0).fr, (t_5_r1 vD B0).H) := by kernel_rfl
theorem u_5_r2 (vD : AV) (B0 : Blk) : rounds E 200000 c11_l2 2 (t_5_r1 vD B0).fr (t_5_r1 vD B0).H = some ((t_5_r2 vD B0).fr, (t_5_r2 vD B0).H) := by kernel_rfl
theorem u_5_c (vD : AV) (B0 : Blk) : exec E 200000 0 0 (.loop c11_l2) (t_5_r2 vD B0) = some (.exit 0, t_5_c vD B0) := by kernel_rfl
theorem u_5_q0 (vD : AV) (B0 : Blk) : rounds E 200000 c11_l3 16 (t_5_e vD B0).fr (t_5_e vD B0).H = some ((t_5_q0 vD B0).fr, (t_5_q0 vD B0).H) := by kernel_rfl
theorem u_5_q1 (vD : AV) (B0 : Blk) : rounds E 200000 c11_l3 16 (t_5_q0 vD B0).fr (t_5_q0 vD B0).H = some ((t_5_q1 vD B0).fr, (t_5_q1 vD B0).H) := by kernel_rfl
theorem u_5_f (vD : AV) (B0 : Blk) : exec E 200000 0 0 (.loop c11_l3) (t_5_q1 vD B0) = some (.exit 6, t_5_f vD B0) := by kernel_rfl
theorem u_6_r0 (vD : AV) (B0 : Blk) : rounds E 200000 c11_l2 4 (t_6_b vD B0).fr (t_6_b vD B0).H = some ((t_6_r0 vD B0).fr, (t_6_r0 vD B0).H) := by kernel_rfl
theorem u_6_r1 (vD : AV) (B0 : Blk) : rounds E 200000 c11_l2 4 (t_6_r0 vD B0).fr (t_6_r0 vD B0).H = some ((t_6_r1 vD B0).fr, (t_6_r1 vD B0).H) := by kernel_rfl
theorem u_6_r2 (vD : AV) (B0 : Blk) : rounds E 200000 c11_l2 4 (t_6_r1 vD B0).fr (t_6_r1 vD B0).H = some ((t_6_r2 vD B0).fr, (t_6_r2 vD B0).H) := by kernel_rfl
theorem u_6_r3 (vD : AV) (B0 : Blk) : rounds E 200000 c11_l2 4 (t_6_r2 vD B0).fr (t_6_r2 vD B0).H = some ((t_6_r3 vD B0).fr, (t_6_r3 vD B0).H) := by kernel_rfl
theorem u_6_r4 (vD : AV) (B0 : Blk) : rounds E 200000 c11_l2 4 (t_6_r3 vD B0).fr (t_6_r3 vD B0).H = some ((t_6_r4 vD B0).fr, (t_6_r4 vD B0).H) := by kernel_rfl
theorem u_6_c (vD : AV) (B0 : Blk) : exec E 200000 0 0 (.loop c11_l2) (t_6_r4 vD B0) = some (.exit 0, t_6_c vD B0) := by kernel_rfl
theorem u_6_q0 (vD : AV) (B0 : Blk) : rounds E 200000 c11_l3 16 (t_6_e vD B0).fr (t_6_e vD B0).H = some ((t_6_q0 vD B0).fr, (t_6_q0 vD B0).H) := by kernel_rfl
theorem u_6_q1 (vD : AV) (B0 : Blk) : rounds E 200000 c11_l3 16 (t_6_q0 vD B0).fr (t_6_q0 vD B0).H = some ((t_6_q1 vD B0).fr, (t_6_q1 vD B0).H) := by kernel_rfl
theorem u_6_q2 (vD : AV) (B0 : Blk) : rounds E 200000 c11_l3 16 (t_6_q1 vD B0).fr (t_6_q1 vD B0).H = some ((t_6_q2 vD B0).fr, (t_6_q2 vD B0).H) := by kernel_rfl
theorem u_6_q3 (vD : AV) (B0 : Blk) : rounds E 200000 c11_l3 16 (t_6_q2 vD B0).fr (t_6_q2 vD B0).H = some ((t_6_q3 vD B0).fr, (t_6_q3 vD B0).H) := by kernel_rfl
theorem u_6_f (vD : AV) (B0 : Blk) : exec E 200000 0 0 (.loop c11_l3) (t_6_q3 vD B0) = some (.exit 6, t_6_f vD B0) := by kernel_rfl
theorem segA_1 {vD : AV} {B0 : Blk} {R : PQ} (h : R (.exit 0) (t_1_c vD B0).fr (t_1_c vD B0).H) : Wp E 0 0 (.loop c11_l2) (t_1_b vD B0).fr (t_1_b vD B0).H R := by
  refine rounds_wp (u_1_r0 vD B0) ?_
  exact piece (u_1_c vD B0) h
theorem segB_1 {vD : AV} {B0 : Blk} {R : PQ} (h : R (.exit 6) (t_1_f vD B0).fr (t_1_f vD B0).H) : Wp E 0 0 (.loop c11_l3) (t_1_e vD B0).fr (t_1_e vD B0).H R := by
  refine rounds_wp (u_1_q0 vD B0) ?_
  exact piece (u_1_f vD B0) h
theorem segA_2 {vD : AV} {B0 : Blk} {R : PQ} (h : R (.exit 0) (t_2_c vD B0).fr (t_2_c vD B0).H) : Wp E 0 0 (.loop c11_l2) (t_2_b vD B0).fr (t_2_b vD B0).H R := by
  refine rounds_wp (u_2_r0 vD B0) ?_
  exact piece (u_2_c vD B0) h
theorem segB_2 {vD : AV} {B0 : Blk} {R : PQ} (h : R (.exit 6) (t_2_f vD B0).fr (t_2_f vD B0).H) : Wp E 0 0 (.loop c11_l3) (t_2_e vD B0).fr (t_2_e vD B0).H R := by
  refine rounds_wp (u_2_q0 vD B0) ?_
  exact piece (u_2_f vD B0) h
theorem segA_3 {vD : AV} {B0 : Blk} {R : PQ} (h : R (.exit 0) (t_3_c vD B0).fr (t_3_c vD B0).H) : Wp E 0 0 (.loop c11_l2) (t_3_b vD B0).fr (t_3_b vD B0).H R := by
  refine rounds_wp (u_3_r0 vD B0) ?_
  exact piece (u_3_c vD B0) h
theorem segB_3 {vD : AV} {B0 : Blk} {R : PQ} (h : R (.exit 6) (t_3_f vD B0).fr (t_3_f vD B0).H) : Wp E 0 0 (.loop c11_l3) (t_3_e vD B0).fr (t_3_e vD B0).H R := by
  refine rounds_wp (u_3_q0 vD B0) ?_
  exact piece (u_3_f vD B0) h
theorem segA_4 {vD : AV} {B0 : Blk} {R : PQ} (h : R (.exit 0) (t_4_c vD B0).fr (t_4_c vD B0).H) : Wp E 0 0 (.loop c11_l2) (t_4_b vD B0).fr (t_4_b vD B0).H R := by
  refine rounds_wp (u_4_r0 vD B0) ?_
  refine rounds_wp (u_4_r1 vD B0) ?_
  exact piece (u_4_c vD B0) h
theorem segB_4 {vD : AV} {B0 : Blk} {R : PQ} (h : R (.exit 6) (t_4_f vD B0).fr (t_4_f vD B0).H) : Wp E 0 0 (.loop c11_l3) (t_4_e vD B0).fr (t_4_e vD B0).H R := by
  refine rounds_wp (u_4_q0 vD B0) ?_
  exact piece (u_4_f vD B0) h
theorem segA_5 {vD : AV} {B0 : Blk} {R : PQ} (h : R (.exit 0) (t_5_c vD B0).fr (t_5_c vD B0).H) : Wp E 0 0 (.loop c11_l2) (t_5_b vD B0).fr (t_5_b vD B0).H R := by
  refine rounds_wp (u_5_r0 vD B0) ?_
  refine rounds_wp (u_5_r1 vD B0) ?_
  refine rounds_wp (u_5_r2 vD B0) ?_
  exact piece (u_5_c vD B0) h
theorem segB_5 {vD : AV} {B0 : Blk} {R : PQ} (h : R (.exit 6) (t_5_f vD B0).fr (t_5_f vD B0).H) : Wp E 0 0 (.loop c11_l3) (t_5_e vD B0).fr (t_5_e vD B0).H R := by
  refine rounds_wp (u_5_q0 vD B0) ?_
  refine rounds_wp (u_5_q1 vD B0) ?_
  exact piece (u_5_f vD B0) h
theorem segA_6 {vD : AV} {B0 : Blk} {R : PQ} (h : R (.exit 0) (t_6_c vD B0).fr (t_6_c vD B0).H) : Wp E 0 0 (.loop c11_l2) (t_6_b vD B0).fr (t_6_b vD B0).H R := by
  refine rounds_wp (u_6_r0 vD B0) ?_
  refine rounds_wp (u_6_r1 vD B0) ?_
  refine rounds_wp (u_6_r2 vD B0) ?_
  refine rounds_wp (u_6_r3 vD B0) ?_
  refine rounds_wp (u_6_r4 vD B0) ?_
  exact piece (u_6_c vD B0) h
theorem segB_6 {vD : AV} {B0 : Blk} {R : PQ} (h : R (.exit 6) (t_6_f vD B0).fr (t_6_f vD B0).H) : Wp E 0 0 (.loop c11_l3) (t_6_e vD B0).fr (t_6_e vD B0).H R := by
  refine rounds_wp (u_6_q0 vD B0) ?_
  refine rounds_wp (u_6_q1 vD B0) ?_
  refine rounds_wp (u_6_q2 vD B0) ?_
  refine rounds_wp (u_6_q3 vD B0) ?_
  exact piece (u_6_f vD B0) h
def esN : Nat → List (AV × AV)
  | 1 => es_1
  | 2 => es_2
  | 3 => es_3
  | 4 => es_4
  | 5 => es_5
  | 6 => es_6
  | _ => []
theorem segA {n : Nat} (h1 : 1 ≤ n) (h6 : n ≤ 6) {vD : AV} {B0 : Blk} {R : PQ} (h : R (.exit 0) [(3, .ptr 1 0 0), (4, vD), (5, .int .i64 (chS n (n / 2) : Int)), (9, .mp 2), (58, cOf (w25 n)), (59, .int .i64 (chS n (n / 2) : Int)), (60, .int .i64 (chS n (n / 2) : Int)), (61, .bool false)] [B0, .row 0 [.int .i64 (n : Int)] 0 true, .map (esN n)]) : Wp E 0 0 (.loop c11_l2) [(3, .ptr 1 0 0), (4, vD), (5, .int .i64 (chS n (n / 2) : Int)), (9, .mp 2), (58, cOf (w25 n)), (59, .int .i64 (chS n (n / 2) : Int)), (60, .int .i64 0)] [B0, .row 0 [.int .i64 (n : Int)] 0 true, .map []] R := by
  have : n = 1 ∨ n = 2 ∨ n = 3 ∨ n = 4 ∨ n = 5 ∨ n = 6 := by omega
  rcases this with rfl | rfl | rfl | rfl | rfl | rfl
  · rw [show chS 1 (1 / 2) = 1 from by decide +kernel] at h ⊢
    exact segA_1 h
  · rw [show chS 2 (2 / 2) = 2 from by decide +kernel] at h ⊢
    exact segA_2 h
  · rw [show chS 3 (3 / 2) = 3 from by decide +kernel] at h ⊢
    exact segA_3 h
  · rw [show chS 4 (4 / 2) = 6 from by decide +kernel] at h ⊢
    exact segA_4 h
  · rw [show chS 5 (5 / 2) = 10 from by decide +kernel] at h ⊢
    exact segA_5 h
  · rw [show chS 6 (6 / 2) = 20 from by decide +kernel] at h ⊢
    exact segA_6 h
theorem segB {n : Nat} (h1 : 1 ≤ n) (h6 : n ≤ 6) {vD : AV} {B0 : Blk} {R : PQ} (h : R (.exit 6) [(3, .ptr 1 0 0), (4, vD), (5, .int .i64 (chS n (n / 2) : Int)), (9, .mp 2), (17, .int .i64 (chS n (n / 2) : Int)), (95, .int .i64 (pw n : Int)), (96, .int .i64 (pw n : Int)), (97, .bool false)] [B0, .row 0 [.int .i64 (n : Int)] 0 true, .map (esN n)]) : Wp E 0 0 (.loop c11_l3) [(3, .ptr 1 0 0), (4, vD), (5, .int .i64 (chS n (n / 2) : Int)), (9, .mp 2), (17, .int .i64 0), (95, .int .i64 (pw n : Int)), (96, .int .i64 0)] [B0, .row 0 [.int .i64 (n : Int)] 0 true, .map (esN n)] R := by
  have : n = 1 ∨ n = 2 ∨ n = 3 ∨ n = 4 ∨ n = 5 ∨ n = 6 := by omega
  rcases this with rfl | rfl | rfl | rfl | rfl | rfl
  · rw [show chS 1 (1 / 2) = 1 from by decide +kernel, show pw 1 = 2 from rfl] at h ⊢
    exact segB_1 h
  · rw [show chS 2 (2 / 2) = 2 from by decide +kernel, show pw 2 = 4 from rfl] at h ⊢
    exact segB_2 h
  · rw [show chS 3 (3 / 2) = 3 from by decide +kernel, show pw 3 = 8 from rfl] at h ⊢
    exact segB_3 h
  · rw [show chS 4 (4 / 2) = 6 from by decide +kernel, show pw 4 = 16 from rfl] at h ⊢
    exact segB_4 h
  · rw [show chS 5 (5 / 2) = 10 from by decide +kernel, show pw 5 = 32 from rfl] at h ⊢
    exact segB_5 h
  · rw [show chS 6 (6 / 2) = 20 from by decide +kernel, show pw 6 = 64 from rfl] at h ⊢
    exact segB_6 h
/-- in which chain a tray is -/
def chIx (n a : Nat) : Nat := match mfind .i64 (a : Int) (esN n) 0 with
  | some (some (_, .int _ v)) => v.toNat
  | _ => 0
def okIx (n a : Nat) : Bool := match mfind .i64 (a : Int) (esN n) 0 with
  | some (some (_, .int .i64 v)) => decide (v = (chIx n a : Int)) && Nat.blt (chIx n a) (chS n (n / 2))
  | _ => false
theorem okIx_all : ((List.range' 1 6).all fun n => (List.range (2 ^ n)).all (okIx n)) = true := by kernel_rfl
theorem nest_all : ((List.range' 1 6).all fun n => (List.range (2 ^ n)).all fun a => (List.range (2 ^ n)).all fun b => !(Nat.beq (chIx n a) (chIx n b)) || (subB a b || subB b a)) = true := by kernel_rfl
theorem len_all : ((List.range' 1 6).all fun n => match w25 n with
  | .tup [.lst 1 false xs, .int .i64 0] => Nat.beq xs.length (chS n (n / 2)) && Nat.beq (esN n).length (2 ^ n)
  | _ => false) = true := by kernel_rfl
end Go.Proofs.YtbkhffakhggdaaaDoor.Code
end

