/-
  The environment of the contracts: works() and the library's answers are known; what each call does.
-/
import Derived.Test.YtoipleipokpnaaaAbWs
import Derived.Test.YtoipleipokpnaaaWorks
set_option linter.all false
namespace Go.Proofs.Ytoipleipokpnaaa.Code
open Go Go.Ab
def know (f : FuncId) (args : List AV) (H : Heap) : Option KRes := match knownT [Works.top] f args H with
  | some k => some k
  | none => lib f args H
def E : Env := { funs := env.funs, known := know }
theorem knowOK : KnownOK Try.prog E := fun f args H k hk => by
  have hk' : know f args H = some k := hk
  unfold know at hk'
  split at hk'
  · rename_i k' h1
    cases hk'
    exact knownT_ok (env := { funs := env.funs, known := knownT [Works.top] }) rfl (fun p hp => by
      rw [List.mem_singleton] at hp; subst hp; exact Works.kept) f args H k h1
  · exact lib_ok hk'
theorem keptE {f : FuncId} {args : List AV} {v : AV} (h : okv (acallQ E 200000 f args []) v = true) (ha : AV.top.tops args = 0) (hv : v.top = 0) : Kept Try.prog (f, args, v) := by
  rw [acallQ_eq] at h
  exact kept (env := E) (funsOK rfl Code.tableOK) knowOK Code.mixed (okv_eq h) ha hv
theorem call4 {pure : Bool} {base bar : Nat} {args : List AV} {H : Heap} {Q : AV → Heap → Prop} : WpCall E pure base bar 4 args H Q ↔ frzWp E pure base bar c4 Q (frzAll bar H args) := wpcall_of rfl rfl fun _ _ => rfl
theorem call10 {pure : Bool} {base bar : Nat} {args : List AV} {H : Heap} {Q : AV → Heap → Prop} : WpCall E pure base bar 10 args H Q ↔ frzWp E pure base bar c10 Q (frzAll bar H args) := wpcall_of rfl rfl fun _ _ => rfl
theorem call11 {pure : Bool} {base bar : Nat} {H : Heap} {Q : AV → Heap → Prop} : WpCall E pure base bar 11 [] H Q ↔ Q (.bool true) H := wpcall_known rfl rfl rfl
theorem call12 {pure : Bool} {base bar : Nat} {args : List AV} {H : Heap} {Q : AV → Heap → Prop} : WpCall E pure base bar 12 args H Q ↔ frzWp E pure base bar c12 Q (frzAll bar H args) := wpcall_of rfl rfl fun _ _ => rfl
theorem call14 {pure : Bool} {base bar : Nat} {args : List AV} {H : Heap} {Q : AV → Heap → Prop} : WpCall E pure base bar 14 args H Q ↔ frzWp E pure base bar c14 Q (frzAll bar H args) := wpcall_of rfl rfl fun _ _ => rfl
theorem call16 {pure : Bool} {base bar : Nat} {args : List AV} {H : Heap} {Q : AV → Heap → Prop} : WpCall E pure base bar 16 args H Q ↔ frzWp E pure base bar c16 Q (frzAll bar H args) := wpcall_of rfl rfl fun _ _ => rfl
theorem call18 {pure : Bool} {base bar : Nat} {args : List AV} {H : Heap} {Q : AV → Heap → Prop} : WpCall E pure base bar 18 args H Q ↔ frzWp E pure base bar c18 Q (frzAll bar H args) := wpcall_of rfl rfl fun _ _ => rfl
theorem call19 {pure : Bool} {base bar : Nat} {args : List AV} {H : Heap} {Q : AV → Heap → Prop} : WpCall E pure base bar 19 args H Q ↔ frzWp E pure base bar c19 Q (frzAll bar H args) := wpcall_of rfl rfl fun _ _ => rfl
theorem call21 {pure : Bool} {base bar : Nat} {args : List AV} {H : Heap} {Q : AV → Heap → Prop} : WpCall E pure base bar 21 args H Q ↔ frzWp E pure base bar c21 Q (frzAll bar H args) := wpcall_of rfl rfl fun _ _ => rfl
theorem call22 {pure : Bool} {base bar : Nat} {args : List AV} {H : Heap} {Q : AV → Heap → Prop} : WpCall E pure base bar 22 args H Q ↔ frzWp E pure base bar c22 Q (frzAll bar H args) := wpcall_of rfl rfl fun _ _ => rfl
theorem call23 {pure : Bool} {base bar : Nat} {args : List AV} {H : Heap} {Q : AV → Heap → Prop} : WpCall E pure base bar 23 args H Q ↔ frzWp E pure base bar c23 Q (frzAll bar H args) := wpcall_of rfl rfl fun _ _ => rfl
theorem call24 {pure : Bool} {base bar : Nat} {args : List AV} {H : Heap} {Q : AV → Heap → Prop} : WpCall E pure base bar 24 args H Q ↔ frzWp E pure base bar c24 Q (frzAll bar H args) := wpcall_of rfl rfl fun _ _ => rfl
theorem call25 {pure : Bool} {base bar : Nat} {args : List AV} {H : Heap} {Q : AV → Heap → Prop} : WpCall E pure base bar 25 args H Q ↔ frzWp E pure base bar c25 Q (frzAll bar H args) := wpcall_of rfl rfl fun _ _ => rfl
theorem call26 {pure : Bool} {base bar : Nat} {args : List AV} {H : Heap} {Q : AV → Heap → Prop} : WpCall E pure base bar 26 args H Q ↔ frzWp E pure base bar c26 Q (frzAll bar H args) := wpcall_of rfl rfl fun _ _ => rfl
theorem call27 {pure : Bool} {base bar : Nat} {args : List AV} {H : Heap} {Q : AV → Heap → Prop} : WpCall E pure base bar 27 args H Q ↔ frzWp E pure base bar c27 Q (frzAll bar H args) := wpcall_of rfl rfl fun _ _ => rfl
theorem call28 {pure : Bool} {base bar : Nat} {args : List AV} {H : Heap} {Q : AV → Heap → Prop} : WpCall E pure base bar 28 args H Q ↔ frzWp E pure base bar c28 Q (frzAll bar H args) := wpcall_of rfl rfl fun _ _ => rfl
theorem call30 {pure : Bool} {base bar : Nat} {args : List AV} {H : Heap} {Q : AV → Heap → Prop} : WpCall E pure base bar 30 args H Q ↔ frzWp E pure base bar c30 Q (frzAll bar H args) := wpcall_of rfl rfl fun _ _ => rfl
theorem call32 {pure : Bool} {base bar : Nat} {args : List AV} {H : Heap} {Q : AV → Heap → Prop} : WpCall E pure base bar 32 args H Q ↔ frzWp E pure base bar c32 Q (frzAll bar H args) := wpcall_of rfl rfl fun _ _ => rfl
theorem call33 {pure : Bool} {base bar : Nat} {args : List AV} {H : Heap} {Q : AV → Heap → Prop} : WpCall E pure base bar 33 args H Q ↔ frzWp E pure base bar c33 Q (frzAll bar H args) := wpcall_of rfl rfl fun _ _ => rfl
theorem call39 {pure : Bool} {base bar : Nat} {args : List AV} {H : Heap} {Q : AV → Heap → Prop} : WpCall E pure base bar 39 args H Q ↔ frzWp E pure base bar c39 Q (frzAll bar H args) := wpcall_of rfl rfl fun _ _ => rfl
theorem call40 {pure : Bool} {base bar : Nat} {args : List AV} {H : Heap} {Q : AV → Heap → Prop} : WpCall E pure base bar 40 args H Q ↔ frzWp E pure base bar c40 Q (frzAll bar H args) := wpcall_of rfl rfl fun _ _ => rfl
theorem call41 {pure : Bool} {base bar : Nat} {args : List AV} {H : Heap} {Q : AV → Heap → Prop} : WpCall E pure base bar 41 args H Q ↔ frzWp E pure base bar c41 Q (frzAll bar H args) := wpcall_of rfl rfl fun _ _ => rfl
theorem call43 {pure : Bool} {base bar : Nat} {args : List AV} {H : Heap} {Q : AV → Heap → Prop} : WpCall E pure base bar 43 args H Q ↔ frzWp E pure base bar c43 Q (frzAll bar H args) := wpcall_of rfl rfl fun _ _ => rfl
theorem call44 {pure : Bool} {base bar : Nat} {args : List AV} {H : Heap} {Q : AV → Heap → Prop} : WpCall E pure base bar 44 args H Q ↔ frzWp E pure base bar c44 Q (frzAll bar H args) := wpcall_of rfl rfl fun _ _ => rfl
theorem call45 {pure : Bool} {base bar : Nat} {args : List AV} {H : Heap} {Q : AV → Heap → Prop} : WpCall E pure base bar 45 args H Q ↔ frzWp E pure base bar c45 Q (frzAll bar H args) := wpcall_of rfl rfl fun _ _ => rfl
theorem call46 {pure : Bool} {base bar : Nat} {args : List AV} {H : Heap} {Q : AV → Heap → Prop} : WpCall E pure base bar 46 args H Q ↔ frzWp E pure base bar c46 Q (frzAll bar H args) := wpcall_of rfl rfl fun _ _ => rfl
theorem call48 {pure : Bool} {base bar : Nat} {args : List AV} {H : Heap} {Q : AV → Heap → Prop} : WpCall E pure base bar 48 args H Q ↔ frzWp E pure base bar c48 Q (frzAll bar H args) := wpcall_of rfl rfl fun _ _ => rfl
theorem call49 {pure : Bool} {base bar : Nat} {args : List AV} {H : Heap} {Q : AV → Heap → Prop} : WpCall E pure base bar 49 args H Q ↔ frzWp E pure base bar c49 Q (frzAll bar H args) := wpcall_of rfl rfl fun _ _ => rfl
theorem call50 {pure : Bool} {base bar : Nat} {args : List AV} {H : Heap} {Q : AV → Heap → Prop} : WpCall E pure base bar 50 args H Q ↔ frzWp E pure base bar c50 Q (frzAll bar H args) := wpcall_of rfl rfl fun _ _ => rfl
theorem call51 {pure : Bool} {base bar : Nat} {args : List AV} {H : Heap} {Q : AV → Heap → Prop} : WpCall E pure base bar 51 args H Q ↔ frzWp E pure base bar c51 Q (frzAll bar H args) := wpcall_of rfl rfl fun _ _ => rfl
theorem call52 {pure : Bool} {base bar : Nat} {args : List AV} {H : Heap} {Q : AV → Heap → Prop} : WpCall E pure base bar 52 args H Q ↔ frzWp E pure base bar c52 Q (frzAll bar H args) := wpcall_of rfl rfl fun _ _ => rfl
theorem call53 {pure : Bool} {base bar : Nat} {args : List AV} {H : Heap} {Q : AV → Heap → Prop} : WpCall E pure base bar 53 args H Q ↔ frzWp E pure base bar c53 Q (frzAll bar H args) := wpcall_of rfl rfl fun _ _ => rfl
theorem call54 {pure : Bool} {base bar : Nat} {args : List AV} {H : Heap} {Q : AV → Heap → Prop} : WpCall E pure base bar 54 args H Q ↔ frzWp E pure base bar c54 Q (frzAll bar H args) := wpcall_of rfl rfl fun _ _ => rfl
theorem call57 {pure : Bool} {base bar : Nat} {args : List AV} {H : Heap} {Q : AV → Heap → Prop} : WpCall E pure base bar 57 args H Q ↔ frzWp E pure base bar c57 Q (frzAll bar H args) := wpcall_of rfl rfl fun _ _ => rfl
theorem call58 {pure : Bool} {base bar : Nat} {args : List AV} {H : Heap} {Q : AV → Heap → Prop} : WpCall E pure base bar 58 args H Q ↔ frzWp E pure base bar c58 Q (frzAll bar H args) := wpcall_of rfl rfl fun _ _ => rfl
theorem call60 {pure : Bool} {base bar : Nat} {args : List AV} {H : Heap} {Q : AV → Heap → Prop} : WpCall E pure base bar 60 args H Q ↔ WpFun E pure base bar c60 args H Q := wpcall_raw rfl rfl fun _ _ => rfl
theorem call61 {pure : Bool} {base bar : Nat} {args : List AV} {H : Heap} {Q : AV → Heap → Prop} : WpCall E pure base bar 61 args H Q ↔ WpFun E pure base bar c61 args H Q := wpcall_raw rfl rfl fun _ _ => rfl
theorem call62 {pure : Bool} {base bar : Nat} {args : List AV} {H : Heap} {Q : AV → Heap → Prop} : WpCall E pure base bar 62 args H Q ↔ WpFun E pure base bar c62 args H Q := wpcall_raw rfl rfl fun _ _ => rfl
theorem call63 {pure : Bool} {base bar : Nat} {args : List AV} {H : Heap} {Q : AV → Heap → Prop} : WpCall E pure base bar 63 args H Q ↔ frzWp E pure base bar c63 Q (frzAll bar H args) := wpcall_of rfl rfl fun _ _ => rfl
theorem call64 {pure : Bool} {base bar : Nat} {args : List AV} {H : Heap} {Q : AV → Heap → Prop} : WpCall E pure base bar 64 args H Q ↔ frzWp E pure base bar c64 Q (frzAll bar H args) := wpcall_of rfl rfl fun _ _ => rfl
theorem call65 {pure : Bool} {base bar : Nat} {args : List AV} {H : Heap} {Q : AV → Heap → Prop} : WpCall E pure base bar 65 args H Q ↔ frzWp E pure base bar c65 Q (frzAll bar H args) := wpcall_of rfl rfl fun _ _ => rfl
theorem call66 {pure : Bool} {base bar : Nat} {args : List AV} {H : Heap} {Q : AV → Heap → Prop} : WpCall E pure base bar 66 args H Q ↔ frzWp E pure base bar c66 Q (frzAll bar H args) := wpcall_of rfl rfl fun _ _ => rfl
theorem call67 {pure : Bool} {base bar : Nat} {args : List AV} {H : Heap} {Q : AV → Heap → Prop} : WpCall E pure base bar 67 args H Q ↔ frzWp E pure base bar c67 Q (frzAll bar H args) := wpcall_of rfl rfl fun _ _ => rfl
theorem call68 {pure : Bool} {base bar : Nat} {args : List AV} {H : Heap} {Q : AV → Heap → Prop} : WpCall E pure base bar 68 args H Q ↔ frzWp E pure base bar c68 Q (frzAll bar H args) := wpcall_of rfl rfl fun _ _ => rfl
theorem call69 {pure : Bool} {base bar : Nat} {args : List AV} {H : Heap} {Q : AV → Heap → Prop} : WpCall E pure base bar 69 args H Q ↔ frzWp E pure base bar c69 Q (frzAll bar H args) := wpcall_of rfl rfl fun _ _ => rfl
theorem call70 {pure : Bool} {base bar : Nat} {args : List AV} {H : Heap} {Q : AV → Heap → Prop} : WpCall E pure base bar 70 args H Q ↔ frzWp E pure base bar c70 Q (frzAll bar H args) := wpcall_of rfl rfl fun _ _ => rfl
theorem call71 {pure : Bool} {base bar : Nat} {args : List AV} {H : Heap} {Q : AV → Heap → Prop} : WpCall E pure base bar 71 args H Q ↔ WpFun E pure base bar c71 args H Q := wpcall_raw rfl rfl fun _ _ => rfl
theorem call72 {pure : Bool} {base bar : Nat} {args : List AV} {H : Heap} {Q : AV → Heap → Prop} : WpCall E pure base bar 72 args H Q ↔ frzWp E pure base bar c72 Q (frzAll bar H args) := wpcall_of rfl rfl fun _ _ => rfl
theorem call73 {pure : Bool} {base bar : Nat} {args : List AV} {H : Heap} {Q : AV → Heap → Prop} : WpCall E pure base bar 73 args H Q ↔ frzWp E pure base bar c73 Q (frzAll bar H args) := wpcall_of rfl rfl fun _ _ => rfl
theorem call74 {pure : Bool} {base bar : Nat} {args : List AV} {H : Heap} {Q : AV → Heap → Prop} : WpCall E pure base bar 74 args H Q ↔ frzWp E pure base bar c74 Q (frzAll bar H args) := wpcall_of rfl rfl fun _ _ => rfl
theorem call75 {pure : Bool} {base bar : Nat} {args : List AV} {H : Heap} {Q : AV → Heap → Prop} : WpCall E pure base bar 75 args H Q ↔ frzWp E pure base bar c75 Q (frzAll bar H args) := wpcall_of rfl rfl fun _ _ => rfl
theorem call76 {pure : Bool} {base bar : Nat} {args : List AV} {H : Heap} {Q : AV → Heap → Prop} : WpCall E pure base bar 76 args H Q ↔ frzWp E pure base bar c76 Q (frzAll bar H args) := wpcall_of rfl rfl fun _ _ => rfl
theorem call77 {pure : Bool} {base bar : Nat} {args : List AV} {H : Heap} {Q : AV → Heap → Prop} : WpCall E pure base bar 77 args H Q ↔ frzWp E pure base bar c77 Q (frzAll bar H args) := wpcall_of rfl rfl fun _ _ => rfl
theorem call78 {pure : Bool} {base bar : Nat} {args : List AV} {H : Heap} {Q : AV → Heap → Prop} : WpCall E pure base bar 78 args H Q ↔ frzWp E pure base bar c78 Q (frzAll bar H args) := wpcall_of rfl rfl fun _ _ => rfl
theorem call79 {pure : Bool} {base bar : Nat} {args : List AV} {H : Heap} {Q : AV → Heap → Prop} : WpCall E pure base bar 79 args H Q ↔ frzWp E pure base bar c79 Q (frzAll bar H args) := wpcall_of rfl rfl fun _ _ => rfl
theorem call80 {pure : Bool} {base bar : Nat} {args : List AV} {H : Heap} {Q : AV → Heap → Prop} : WpCall E pure base bar 80 args H Q ↔ WpFun E pure base bar c80 args H Q := wpcall_raw rfl rfl fun _ _ => rfl
theorem call81 {pure : Bool} {base bar : Nat} {args : List AV} {H : Heap} {Q : AV → Heap → Prop} : WpCall E pure base bar 81 args H Q ↔ frzWp E pure base bar c81 Q (frzAll bar H args) := wpcall_of rfl rfl fun _ _ => rfl
theorem call82 {pure : Bool} {base bar : Nat} {args : List AV} {H : Heap} {Q : AV → Heap → Prop} : WpCall E pure base bar 82 args H Q ↔ frzWp E pure base bar c82 Q (frzAll bar H args) := wpcall_of rfl rfl fun _ _ => rfl
theorem call83 {pure : Bool} {base bar : Nat} {args : List AV} {H : Heap} {Q : AV → Heap → Prop} : WpCall E pure base bar 83 args H Q ↔ frzWp E pure base bar c83 Q (frzAll bar H args) := wpcall_of rfl rfl fun _ _ => rfl
theorem call86 {pure : Bool} {base bar : Nat} {args : List AV} {H : Heap} {Q : AV → Heap → Prop} : WpCall E pure base bar 86 args H Q ↔ WpFun E pure base bar c86 args H Q := wpcall_raw rfl rfl fun _ _ => rfl
theorem call87 {pure : Bool} {base bar : Nat} {args : List AV} {H : Heap} {Q : AV → Heap → Prop} : WpCall E pure base bar 87 args H Q ↔ frzWp E pure base bar c87 Q (frzAll bar H args) := wpcall_of rfl rfl fun _ _ => rfl
theorem call88 {pure : Bool} {base bar : Nat} {args : List AV} {H : Heap} {Q : AV → Heap → Prop} : WpCall E pure base bar 88 args H Q ↔ frzWp E pure base bar c88 Q (frzAll bar H args) := wpcall_of rfl rfl fun _ _ => rfl
theorem call93 {pure : Bool} {base bar : Nat} {args : List AV} {H : Heap} {Q : AV → Heap → Prop} : WpCall E pure base bar 93 args H Q ↔ WpFun E pure base bar c93 args H Q := wpcall_raw rfl rfl fun _ _ => rfl
theorem call101 {pure : Bool} {base bar : Nat} {args : List AV} {H : Heap} {Q : AV → Heap → Prop} : WpCall E pure base bar 101 args H Q ↔ frzWp E pure base bar c101 Q (frzAll bar H args) := wpcall_of rfl rfl fun _ _ => rfl
theorem call102 {pure : Bool} {base bar : Nat} {args : List AV} {H : Heap} {Q : AV → Heap → Prop} : WpCall E pure base bar 102 args H Q ↔ frzWp E pure base bar c102 Q (frzAll bar H args) := wpcall_of rfl rfl fun _ _ => rfl
theorem call129 {pure : Bool} {base bar : Nat} {args : List AV} {H : Heap} {Q : AV → Heap → Prop} : WpCall E pure base bar 129 args H Q ↔ frzWp E pure base bar c129 Q (frzAll bar H args) := wpcall_of rfl rfl fun _ _ => rfl
theorem call130 {pure : Bool} {base bar : Nat} {args : List AV} {H : Heap} {Q : AV → Heap → Prop} : WpCall E pure base bar 130 args H Q ↔ frzWp E pure base bar c130 Q (frzAll bar H args) := wpcall_of rfl rfl fun _ _ => rfl
theorem call131 {pure : Bool} {base bar : Nat} {args : List AV} {H : Heap} {Q : AV → Heap → Prop} : WpCall E pure base bar 131 args H Q ↔ frzWp E pure base bar c131 Q (frzAll bar H args) := wpcall_of rfl rfl fun _ _ => rfl
theorem call132 {pure : Bool} {base bar : Nat} {args : List AV} {H : Heap} {Q : AV → Heap → Prop} : WpCall E pure base bar 132 args H Q ↔ frzWp E pure base bar c132 Q (frzAll bar H args) := wpcall_of rfl rfl fun _ _ => rfl
theorem call133 {pure : Bool} {base bar : Nat} {args : List AV} {H : Heap} {Q : AV → Heap → Prop} : WpCall E pure base bar 133 args H Q ↔ frzWp E pure base bar c133 Q (frzAll bar H args) := wpcall_of rfl rfl fun _ _ => rfl
theorem call134 {pure : Bool} {base bar : Nat} {args : List AV} {H : Heap} {Q : AV → Heap → Prop} : WpCall E pure base bar 134 args H Q ↔ frzWp E pure base bar c134 Q (frzAll bar H args) := wpcall_of rfl rfl fun _ _ => rfl
theorem call135 {pure : Bool} {base bar : Nat} {args : List AV} {H : Heap} {Q : AV → Heap → Prop} : WpCall E pure base bar 135 args H Q ↔ frzWp E pure base bar c135 Q (frzAll bar H args) := wpcall_of rfl rfl fun _ _ => rfl
theorem call136 {pure : Bool} {base bar : Nat} {args : List AV} {H : Heap} {Q : AV → Heap → Prop} : WpCall E pure base bar 136 args H Q ↔ WpFun E pure base bar c136 args H Q := wpcall_raw rfl rfl fun _ _ => rfl
theorem call137 {pure : Bool} {base bar : Nat} {args : List AV} {H : Heap} {Q : AV → Heap → Prop} : WpCall E pure base bar 137 args H Q ↔ frzWp E pure base bar c137 Q (frzAll bar H args) := wpcall_of rfl rfl fun _ _ => rfl
end Go.Proofs.Ytoipleipokpnaaa.Code

