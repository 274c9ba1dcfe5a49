/-
  What Go's library says of strings.Join and strings.Compare, laid at this program. Written by a program of ours.
-/
import Derived.Test.YtoipleipokpnaaaGreatAbShelf
import Derived.Test.YtoipleipokpnaaaGreatCode
import Derived.Shelf.Strings.OnBuilder
import Derived.Shelf.Small.Strs
import Derived.KernelRfl
set_option linter.all false
namespace Go.Proofs.YtoipleipokpnaaaGreat.Code
open Go Go.Ab Go.Shelf
def jren : Go.Shelf.Ren := ⟨fun | 156 => 107 | 165 => 111 | 166 => 112 | 169 => 113 | 240 => 123 | 241 => 124 | 276 => 128 | 277 => 129 | n => n, fun | 31 => 149 | 9 => 9 | 3 => 3 | 4 => 4 | 0 => 0 | 20 => 20 | 72 => 161 | 76 => 165 | 70 => 158 | 37 => 159 | 75 => 164 | 127 => 172 | 164 => 175 | 5 => 5 | 80 => 128 | n => n, fun | n => n⟩
theorem jlays : Lays.n156 Tryz.prog jren where
  mixed := by kernel_rfl
  f156 := Tryz.func107.trans (congrArg some (by kernel_rfl))
  f165 := Tryz.func111.trans (congrArg some (by kernel_rfl))
  f166 := Tryz.func112.trans (congrArg some (by kernel_rfl))
  f169 := Tryz.func113.trans (congrArg some (by kernel_rfl))
  f240 := Tryz.func123.trans (congrArg some (by kernel_rfl))
  f241 := Tryz.func124.trans (congrArg some (by kernel_rfl))
  f276 := Tryz.func128.trans (congrArg some (by kernel_rfl))
  f277 := Tryz.func129.trans (congrArg some (by kernel_rfl))
  t0 := Tryz.underlying0
  a0 := Tryz.isAgg0
  z0 := Tryz.sizeOf0
  v0 := Tryz.zeroValue0
  t3 := Tryz.underlying3
  a3 := Tryz.isAgg3
  z3 := Tryz.sizeOf3
  v3 := Tryz.zeroValue3
  t4 := Tryz.underlying4
  a4 := Tryz.isAgg4
  z4 := Tryz.sizeOf4
  v4 := Tryz.zeroValue4
  t9 := Tryz.underlying9
  a9 := Tryz.isAgg9
  z9 := Tryz.sizeOf9
  v9 := Tryz.zeroValue9
  t20 := Tryz.underlying20
  a20 := Tryz.isAgg20
  z20 := Tryz.sizeOf20
  v20 := Tryz.zeroValue20
  t31 := Tryz.underlying149
  a31 := Tryz.isAgg149
  z31 := Tryz.sizeOf149
  v31 := Tryz.zeroValue149
  t37 := Tryz.underlying159
  a37 := Tryz.isAgg159
  z37 := Tryz.sizeOf159
  v37 := Tryz.zeroValue159
  t70 := Tryz.underlying158
  a70 := Tryz.isAgg158
  z70 := Tryz.sizeOf158
  v70 := Tryz.zeroValue158
  t72 := Tryz.underlying161
  a72 := Tryz.isAgg161
  z72 := Tryz.sizeOf161
  v72 := Tryz.zeroValue161
  t75 := Tryz.underlying164
  a75 := Tryz.isAgg164
  z75 := Tryz.sizeOf164
  v75 := Tryz.zeroValue164
  t76 := Tryz.underlying165
  a76 := Tryz.isAgg165
  z76 := Tryz.sizeOf165
  v76 := Tryz.zeroValue165
  t127 := Tryz.underlying172
  a127 := Tryz.isAgg172
  z127 := Tryz.sizeOf172
  v127 := Tryz.zeroValue172
  t164 := Tryz.underlying175
  a164 := Tryz.isAgg175
  z164 := Tryz.sizeOf175
  v164 := Tryz.zeroValue175
theorem jextra : Builder.Extra Tryz.prog jren where
  sizeBuilder := by kernel_rfl
  liesBuilder := by kernel_rfl
  t5 := Tryz.underlying5
  a5 := Tryz.isAgg5
  z5 := Tryz.sizeOf5
  v5 := Tryz.zeroValue5
  infoByte := by kernel_rfl
  cellsByte := by kernel_rfl
  sizeByte := by kernel_rfl
  neB5 := by decide
theorem joinOK : JoinOK Tryz.prog 107 := ⟨fun a c sep w => Any.strings_Join_none jlays jextra a c sep w, fun bk o c xs sep w => Any.strings_Join jlays jextra bk o c xs sep w⟩
def cren : Go.Shelf.Ren := ⟨fun | 106 => 106 | 213 => 110 | 265 => 122 | n => n, fun | 9 => 9 | 3 => 3 | n => n, fun | n => n⟩
theorem clays : Lays.n106 Tryz.prog cren where
  mixed := by kernel_rfl
  f106 := Tryz.func106.trans (congrArg some (by kernel_rfl))
  f213 := Tryz.func110.trans (congrArg some (by kernel_rfl))
  f265 := Tryz.func122.trans (congrArg some (by kernel_rfl))
  t3 := Tryz.underlying3
  a3 := Tryz.isAgg3
  z3 := Tryz.sizeOf3
  v3 := Tryz.zeroValue3
  t9 := Tryz.underlying9
  a9 := Tryz.isAgg9
  z9 := Tryz.sizeOf9
  v9 := Tryz.zeroValue9
theorem cmpOK : CmpOK Tryz.prog 106 := fun a b w => Any.strings_Compare clays a b w
def lib (f : FuncId) (args : List AV) (_ : Heap) : Option KRes := match Nat.beq f 107 with
  | true => joinK args
  | false => match Nat.beq f 106 with
    | true => cmpK args
    | false => none
def envL : Env := { funs := env.funs, known := lib }
theorem lib_ok {f : FuncId} {args : List AV} {H : Heap} {k : KRes} (h : lib f args H = some k) : CallsTo Tryz.prog f H.length 0 (List.range H.length) args H k.v (applyUps k.ups H ++ k.news) := by
  unfold lib at h
  split at h
  · rename_i hb
    obtain rfl := Nat.eq_of_beq_eq_true hb
    exact join_known joinOK h
  · split at h
    · rename_i hb
      obtain rfl := Nat.eq_of_beq_eq_true hb
      exact cmp_known cmpOK h
    · cases h
theorem libOK : KnownOK Tryz.prog envL := fun _ _ _ _ h => lib_ok h
end Go.Proofs.YtoipleipokpnaaaGreat.Code
