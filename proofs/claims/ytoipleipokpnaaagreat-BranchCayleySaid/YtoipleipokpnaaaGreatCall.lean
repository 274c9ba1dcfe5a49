/-
  The environment of the contracts: works() and the library's answers are known; what each call does.
-/
import Derived.Test.YtoipleipokpnaaaGreatAbWs
import Derived.Test.YtoipleipokpnaaaGreatWorks
set_option linter.all false
namespace Go.Proofs.YtoipleipokpnaaaGreat.Code
open Go Go.Ab
def know (f : FuncId) (args : List AV) (H : Heap) : Option KRes := match knownT [Works.top] f args H with
  | some k => some k
  | none => lib f args H
def E : Env := { funs := env.funs, known := know }
theorem knowOK : KnownOK Tryz.prog E := fun f args H k hk => by
  have hk' : know f args H = some k := hk
  unfold know at hk'
  split at hk'
  · rename_i k' h1
    cases hk'
    exact knownT_ok (env := { funs := env.funs, known := knownT [Works.top] }) rfl (fun p hp => by
      rw [List.mem_singleton] at hp; subst hp; exact Works.kept) f args H k h1
  · exact lib_ok hk'
theorem keptE {f : FuncId} {args : List AV} {v : AV} (h : okv (acallQ E 200000 f args []) v = true) (ha : AV.top.tops args = 0) (hv : v.top = 0) : Kept Tryz.prog (f, args, v) := by
  rw [acallQ_eq] at h
  exact kept (env := E) (funsOK rfl Code.tableOK) knowOK Code.mixed (okv_eq h) ha hv
theorem call6 {pure : Bool} {base bar : Nat} {args : List AV} {H : Heap} {Q : AV → Heap → Prop} : WpCall E pure base bar 6 args H Q ↔ frzWp E pure base bar c6 Q (frzAll bar H args) := wpcall_of rfl rfl fun _ _ => rfl
theorem call8 {pure : Bool} {base bar : Nat} {H : Heap} {Q : AV → Heap → Prop} : WpCall E pure base bar 8 [] H Q ↔ Q (.bool true) H := wpcall_known rfl rfl rfl
theorem call9 {pure : Bool} {base bar : Nat} {args : List AV} {H : Heap} {Q : AV → Heap → Prop} : WpCall E pure base bar 9 args H Q ↔ frzWp E pure base bar c9 Q (frzAll bar H args) := wpcall_of rfl rfl fun _ _ => rfl
theorem call11 {pure : Bool} {base bar : Nat} {args : List AV} {H : Heap} {Q : AV → Heap → Prop} : WpCall E pure base bar 11 args H Q ↔ frzWp E pure base bar c11 Q (frzAll bar H args) := wpcall_of rfl rfl fun _ _ => rfl
theorem call13 {pure : Bool} {base bar : Nat} {args : List AV} {H : Heap} {Q : AV → Heap → Prop} : WpCall E pure base bar 13 args H Q ↔ frzWp E pure base bar c13 Q (frzAll bar H args) := wpcall_of rfl rfl fun _ _ => rfl
theorem call20 {pure : Bool} {base bar : Nat} {args : List AV} {H : Heap} {Q : AV → Heap → Prop} : WpCall E pure base bar 20 args H Q ↔ frzWp E pure base bar c20 Q (frzAll bar H args) := wpcall_of rfl rfl fun _ _ => rfl
theorem call21 {pure : Bool} {base bar : Nat} {args : List AV} {H : Heap} {Q : AV → Heap → Prop} : WpCall E pure base bar 21 args H Q ↔ frzWp E pure base bar c21 Q (frzAll bar H args) := wpcall_of rfl rfl fun _ _ => rfl
theorem call23 {pure : Bool} {base bar : Nat} {args : List AV} {H : Heap} {Q : AV → Heap → Prop} : WpCall E pure base bar 23 args H Q ↔ frzWp E pure base bar c23 Q (frzAll bar H args) := wpcall_of rfl rfl fun _ _ => rfl
theorem call25 {pure : Bool} {base bar : Nat} {args : List AV} {H : Heap} {Q : AV → Heap → Prop} : WpCall E pure base bar 25 args H Q ↔ frzWp E pure base bar c25 Q (frzAll bar H args) := wpcall_of rfl rfl fun _ _ => rfl
theorem call27 {pure : Bool} {base bar : Nat} {args : List AV} {H : Heap} {Q : AV → Heap → Prop} : WpCall E pure base bar 27 args H Q ↔ frzWp E pure base bar c27 Q (frzAll bar H args) := wpcall_of rfl rfl fun _ _ => rfl
theorem call29 {pure : Bool} {base bar : Nat} {args : List AV} {H : Heap} {Q : AV → Heap → Prop} : WpCall E pure base bar 29 args H Q ↔ frzWp E pure base bar c29 Q (frzAll bar H args) := wpcall_of rfl rfl fun _ _ => rfl
theorem call31 {pure : Bool} {base bar : Nat} {args : List AV} {H : Heap} {Q : AV → Heap → Prop} : WpCall E pure base bar 31 args H Q ↔ frzWp E pure base bar c31 Q (frzAll bar H args) := wpcall_of rfl rfl fun _ _ => rfl
theorem call32 {pure : Bool} {base bar : Nat} {args : List AV} {H : Heap} {Q : AV → Heap → Prop} : WpCall E pure base bar 32 args H Q ↔ frzWp E pure base bar c32 Q (frzAll bar H args) := wpcall_of rfl rfl fun _ _ => rfl
theorem call33 {pure : Bool} {base bar : Nat} {args : List AV} {H : Heap} {Q : AV → Heap → Prop} : WpCall E pure base bar 33 args H Q ↔ frzWp E pure base bar c33 Q (frzAll bar H args) := wpcall_of rfl rfl fun _ _ => rfl
theorem call34 {pure : Bool} {base bar : Nat} {args : List AV} {H : Heap} {Q : AV → Heap → Prop} : WpCall E pure base bar 34 args H Q ↔ frzWp E pure base bar c34 Q (frzAll bar H args) := wpcall_of rfl rfl fun _ _ => rfl
theorem call35 {pure : Bool} {base bar : Nat} {args : List AV} {H : Heap} {Q : AV → Heap → Prop} : WpCall E pure base bar 35 args H Q ↔ frzWp E pure base bar c35 Q (frzAll bar H args) := wpcall_of rfl rfl fun _ _ => rfl
theorem call36 {pure : Bool} {base bar : Nat} {args : List AV} {H : Heap} {Q : AV → Heap → Prop} : WpCall E pure base bar 36 args H Q ↔ frzWp E pure base bar c36 Q (frzAll bar H args) := wpcall_of rfl rfl fun _ _ => rfl
theorem call46 {pure : Bool} {base bar : Nat} {args : List AV} {H : Heap} {Q : AV → Heap → Prop} : WpCall E pure base bar 46 args H Q ↔ frzWp E pure base bar c46 Q (frzAll bar H args) := wpcall_of rfl rfl fun _ _ => rfl
theorem call48 {pure : Bool} {base bar : Nat} {args : List AV} {H : Heap} {Q : AV → Heap → Prop} : WpCall E pure base bar 48 args H Q ↔ frzWp E pure base bar c48 Q (frzAll bar H args) := wpcall_of rfl rfl fun _ _ => rfl
theorem call49 {pure : Bool} {base bar : Nat} {args : List AV} {H : Heap} {Q : AV → Heap → Prop} : WpCall E pure base bar 49 args H Q ↔ frzWp E pure base bar c49 Q (frzAll bar H args) := wpcall_of rfl rfl fun _ _ => rfl
theorem call51 {pure : Bool} {base bar : Nat} {args : List AV} {H : Heap} {Q : AV → Heap → Prop} : WpCall E pure base bar 51 args H Q ↔ frzWp E pure base bar c51 Q (frzAll bar H args) := wpcall_of rfl rfl fun _ _ => rfl
theorem call55 {pure : Bool} {base bar : Nat} {args : List AV} {H : Heap} {Q : AV → Heap → Prop} : WpCall E pure base bar 55 args H Q ↔ frzWp E pure base bar c55 Q (frzAll bar H args) := wpcall_of rfl rfl fun _ _ => rfl
theorem call58 {pure : Bool} {base bar : Nat} {args : List AV} {H : Heap} {Q : AV → Heap → Prop} : WpCall E pure base bar 58 args H Q ↔ frzWp E pure base bar c58 Q (frzAll bar H args) := wpcall_of rfl rfl fun _ _ => rfl
theorem call59 {pure : Bool} {base bar : Nat} {args : List AV} {H : Heap} {Q : AV → Heap → Prop} : WpCall E pure base bar 59 args H Q ↔ frzWp E pure base bar c59 Q (frzAll bar H args) := wpcall_of rfl rfl fun _ _ => rfl
theorem call63 {pure : Bool} {base bar : Nat} {args : List AV} {H : Heap} {Q : AV → Heap → Prop} : WpCall E pure base bar 63 args H Q ↔ frzWp E pure base bar c63 Q (frzAll bar H args) := wpcall_of rfl rfl fun _ _ => rfl
theorem call64 {pure : Bool} {base bar : Nat} {args : List AV} {H : Heap} {Q : AV → Heap → Prop} : WpCall E pure base bar 64 args H Q ↔ WpFun E pure base bar c64 args H Q := wpcall_raw rfl rfl fun _ _ => rfl
theorem call65 {pure : Bool} {base bar : Nat} {args : List AV} {H : Heap} {Q : AV → Heap → Prop} : WpCall E pure base bar 65 args H Q ↔ WpFun E pure base bar c65 args H Q := wpcall_raw rfl rfl fun _ _ => rfl
theorem call66 {pure : Bool} {base bar : Nat} {args : List AV} {H : Heap} {Q : AV → Heap → Prop} : WpCall E pure base bar 66 args H Q ↔ WpFun E pure base bar c66 args H Q := wpcall_raw rfl rfl fun _ _ => rfl
theorem call67 {pure : Bool} {base bar : Nat} {args : List AV} {H : Heap} {Q : AV → Heap → Prop} : WpCall E pure base bar 67 args H Q ↔ frzWp E pure base bar c67 Q (frzAll bar H args) := wpcall_of rfl rfl fun _ _ => rfl
theorem call68 {pure : Bool} {base bar : Nat} {args : List AV} {H : Heap} {Q : AV → Heap → Prop} : WpCall E pure base bar 68 args H Q ↔ WpFun E pure base bar c68 args H Q := wpcall_raw rfl rfl fun _ _ => rfl
theorem call69 {pure : Bool} {base bar : Nat} {args : List AV} {H : Heap} {Q : AV → Heap → Prop} : WpCall E pure base bar 69 args H Q ↔ frzWp E pure base bar c69 Q (frzAll bar H args) := wpcall_of rfl rfl fun _ _ => rfl
theorem call70 {pure : Bool} {base bar : Nat} {args : List AV} {H : Heap} {Q : AV → Heap → Prop} : WpCall E pure base bar 70 args H Q ↔ frzWp E pure base bar c70 Q (frzAll bar H args) := wpcall_of rfl rfl fun _ _ => rfl
theorem call71 {pure : Bool} {base bar : Nat} {args : List AV} {H : Heap} {Q : AV → Heap → Prop} : WpCall E pure base bar 71 args H Q ↔ frzWp E pure base bar c71 Q (frzAll bar H args) := wpcall_of rfl rfl fun _ _ => rfl
theorem call72 {pure : Bool} {base bar : Nat} {args : List AV} {H : Heap} {Q : AV → Heap → Prop} : WpCall E pure base bar 72 args H Q ↔ WpFun E pure base bar c72 args H Q := wpcall_raw rfl rfl fun _ _ => rfl
theorem call74 {pure : Bool} {base bar : Nat} {args : List AV} {H : Heap} {Q : AV → Heap → Prop} : WpCall E pure base bar 74 args H Q ↔ frzWp E pure base bar c74 Q (frzAll bar H args) := wpcall_of rfl rfl fun _ _ => rfl
theorem call76 {pure : Bool} {base bar : Nat} {args : List AV} {H : Heap} {Q : AV → Heap → Prop} : WpCall E pure base bar 76 args H Q ↔ WpFun E pure base bar c76 args H Q := wpcall_raw rfl rfl fun _ _ => rfl
theorem call78 {pure : Bool} {base bar : Nat} {args : List AV} {H : Heap} {Q : AV → Heap → Prop} : WpCall E pure base bar 78 args H Q ↔ frzWp E pure base bar c78 Q (frzAll bar H args) := wpcall_of rfl rfl fun _ _ => rfl
theorem call79 {pure : Bool} {base bar : Nat} {args : List AV} {H : Heap} {Q : AV → Heap → Prop} : WpCall E pure base bar 79 args H Q ↔ frzWp E pure base bar c79 Q (frzAll bar H args) := wpcall_of rfl rfl fun _ _ => rfl
theorem call81 {pure : Bool} {base bar : Nat} {args : List AV} {H : Heap} {Q : AV → Heap → Prop} : WpCall E pure base bar 81 args H Q ↔ WpFun E pure base bar c81 args H Q := wpcall_raw rfl rfl fun _ _ => rfl
theorem call82 {pure : Bool} {base bar : Nat} {args : List AV} {H : Heap} {Q : AV → Heap → Prop} : WpCall E pure base bar 82 args H Q ↔ frzWp E pure base bar c82 Q (frzAll bar H args) := wpcall_of rfl rfl fun _ _ => rfl
theorem call83 {pure : Bool} {base bar : Nat} {args : List AV} {H : Heap} {Q : AV → Heap → Prop} : WpCall E pure base bar 83 args H Q ↔ frzWp E pure base bar c83 Q (frzAll bar H args) := wpcall_of rfl rfl fun _ _ => rfl
theorem call84 {pure : Bool} {base bar : Nat} {args : List AV} {H : Heap} {Q : AV → Heap → Prop} : WpCall E pure base bar 84 args H Q ↔ frzWp E pure base bar c84 Q (frzAll bar H args) := wpcall_of rfl rfl fun _ _ => rfl
theorem call86 {pure : Bool} {base bar : Nat} {args : List AV} {H : Heap} {Q : AV → Heap → Prop} : WpCall E pure base bar 86 args H Q ↔ WpFun E pure base bar c86 args H Q := wpcall_raw rfl rfl fun _ _ => rfl
theorem call95 {pure : Bool} {base bar : Nat} {args : List AV} {H : Heap} {Q : AV → Heap → Prop} : WpCall E pure base bar 95 args H Q ↔ frzWp E pure base bar c95 Q (frzAll bar H args) := wpcall_of rfl rfl fun _ _ => rfl
theorem call96 {pure : Bool} {base bar : Nat} {args : List AV} {H : Heap} {Q : AV → Heap → Prop} : WpCall E pure base bar 96 args H Q ↔ frzWp E pure base bar c96 Q (frzAll bar H args) := wpcall_of rfl rfl fun _ _ => rfl
theorem call147 {pure : Bool} {base bar : Nat} {args : List AV} {H : Heap} {Q : AV → Heap → Prop} : WpCall E pure base bar 147 args H Q ↔ frzWp E pure base bar c147 Q (frzAll bar H args) := wpcall_of rfl rfl fun _ _ => rfl
theorem call148 {pure : Bool} {base bar : Nat} {args : List AV} {H : Heap} {Q : AV → Heap → Prop} : WpCall E pure base bar 148 args H Q ↔ WpFun E pure base bar c148 args H Q := wpcall_raw rfl rfl fun _ _ => rfl
theorem call149 {pure : Bool} {base bar : Nat} {args : List AV} {H : Heap} {Q : AV → Heap → Prop} : WpCall E pure base bar 149 args H Q ↔ frzWp E pure base bar c149 Q (frzAll bar H args) := wpcall_of rfl rfl fun _ _ => rfl
theorem call150 {pure : Bool} {base bar : Nat} {args : List AV} {H : Heap} {Q : AV → Heap → Prop} : WpCall E pure base bar 150 args H Q ↔ frzWp E pure base bar c150 Q (frzAll bar H args) := wpcall_of rfl rfl fun _ _ => rfl
end Go.Proofs.YtoipleipokpnaaaGreat.Code

