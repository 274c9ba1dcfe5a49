/-
  What Go's library says of strings.Join and strings.Compare, laid at this program. Written by a program of ours.
-/
import Derived.Test.YtoipleipokpnaaaAbShelf
import Derived.Test.YtoipleipokpnaaaCode
import Derived.Shelf.Strings.OnBuilder
import Derived.Shelf.Small.Strs
import Derived.KernelRfl
set_option linter.all false
namespace Go.Proofs.Ytoipleipokpnaaa.Code
open Go Go.Ab Go.Shelf
def jren : Go.Shelf.Ren := ⟨fun | 156 => 85 | 165 => 90 | 166 => 91 | 169 => 92 | 240 => 104 | 241 => 105 | 276 => 111 | 277 => 112 | n => n, fun | 31 => 127 | 9 => 9 | 3 => 3 | 4 => 4 | 0 => 0 | 20 => 20 | 72 => 139 | 76 => 143 | 70 => 136 | 37 => 137 | 75 => 142 | 127 => 157 | 164 => 164 | 5 => 5 | 80 => 111 | n => n, fun | n => n⟩
theorem jlays : Lays.n156 Try.prog jren where
  mixed := by kernel_rfl
  f156 := Try.func85.trans (congrArg some (by kernel_rfl))
  f165 := Try.func90.trans (congrArg some (by kernel_rfl))
  f166 := Try.func91.trans (congrArg some (by kernel_rfl))
  f169 := Try.func92.trans (congrArg some (by kernel_rfl))
  f240 := Try.func104.trans (congrArg some (by kernel_rfl))
  f241 := Try.func105.trans (congrArg some (by kernel_rfl))
  f276 := Try.func111.trans (congrArg some (by kernel_rfl))
  f277 := Try.func112.trans (congrArg some (by kernel_rfl))
  t0 := Try.underlying0
  a0 := Try.isAgg0
  z0 := Try.sizeOf0
  v0 := Try.zeroValue0
  t3 := Try.underlying3
  a3 := Try.isAgg3
  z3 := Try.sizeOf3
  v3 := Try.zeroValue3
  t4 := Try.underlying4
  a4 := Try.isAgg4
  z4 := Try.sizeOf4
  v4 := Try.zeroValue4
  t9 := Try.underlying9
  a9 := Try.isAgg9
  z9 := Try.sizeOf9
  v9 := Try.zeroValue9
  t20 := Try.underlying20
  a20 := Try.isAgg20
  z20 := Try.sizeOf20
  v20 := Try.zeroValue20
  t31 := Try.underlying127
  a31 := Try.isAgg127
  z31 := Try.sizeOf127
  v31 := Try.zeroValue127
  t37 := Try.underlying137
  a37 := Try.isAgg137
  z37 := Try.sizeOf137
  v37 := Try.zeroValue137
  t70 := Try.underlying136
  a70 := Try.isAgg136
  z70 := Try.sizeOf136
  v70 := Try.zeroValue136
  t72 := Try.underlying139
  a72 := Try.isAgg139
  z72 := Try.sizeOf139
  v72 := Try.zeroValue139
  t75 := Try.underlying142
  a75 := Try.isAgg142
  z75 := Try.sizeOf142
  v75 := Try.zeroValue142
  t76 := Try.underlying143
  a76 := Try.isAgg143
  z76 := Try.sizeOf143
  v76 := Try.zeroValue143
  t127 := Try.underlying157
  a127 := Try.isAgg157
  z127 := Try.sizeOf157
  v127 := Try.zeroValue157
  t164 := Try.underlying164
  a164 := Try.isAgg164
  z164 := Try.sizeOf164
  v164 := Try.zeroValue164
theorem jextra : Builder.Extra Try.prog jren where
  sizeBuilder := by kernel_rfl
  liesBuilder := by kernel_rfl
  t5 := Try.underlying5
  a5 := Try.isAgg5
  z5 := Try.sizeOf5
  v5 := Try.zeroValue5
  infoByte := by kernel_rfl
  cellsByte := by kernel_rfl
  sizeByte := by kernel_rfl
  neB5 := by decide
theorem joinOK : JoinOK Try.prog 85 := ⟨fun a c sep w => Any.strings_Join_none jlays jextra a c sep w, fun bk o c xs sep w => Any.strings_Join jlays jextra bk o c xs sep w⟩
def cren : Go.Shelf.Ren := ⟨fun | 106 => 84 | 213 => 89 | 265 => 103 | n => n, fun | 9 => 9 | 3 => 3 | n => n, fun | n => n⟩
theorem clays : Lays.n106 Try.prog cren where
  mixed := by kernel_rfl
  f106 := Try.func84.trans (congrArg some (by kernel_rfl))
  f213 := Try.func89.trans (congrArg some (by kernel_rfl))
  f265 := Try.func103.trans (congrArg some (by kernel_rfl))
  t3 := Try.underlying3
  a3 := Try.isAgg3
  z3 := Try.sizeOf3
  v3 := Try.zeroValue3
  t9 := Try.underlying9
  a9 := Try.isAgg9
  z9 := Try.sizeOf9
  v9 := Try.zeroValue9
theorem cmpOK : CmpOK Try.prog 84 := fun a b w => Any.strings_Compare clays a b w
def lib (f : FuncId) (args : List AV) (_ : Heap) : Option KRes := match Nat.beq f 85 with
  | true => joinK args
  | false => match Nat.beq f 84 with
    | true => cmpK args
    | false => none
def envL : Env := { funs := env.funs, known := lib }
theorem lib_ok {f : FuncId} {args : List AV} {H : Heap} {k : KRes} (h : lib f args H = some k) : CallsTo Try.prog f H.length 0 (List.range H.length) args H k.v (applyUps k.ups H ++ k.news) := by
  unfold lib at h
  split at h
  · rename_i hb
    obtain rfl := Nat.eq_of_beq_eq_true hb
    exact join_known joinOK h
  · split at h
    · rename_i hb
      obtain rfl := Nat.eq_of_beq_eq_true hb
      exact cmp_known cmpOK h
    · cases h
theorem libOK : KnownOK Try.prog envL := fun _ _ _ _ h => lib_ok h
end Go.Proofs.Ytoipleipokpnaaa.Code
