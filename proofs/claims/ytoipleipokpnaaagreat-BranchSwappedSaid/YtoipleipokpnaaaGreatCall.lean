/-
  The environment of the contracts: works() and the library's answers are known; what each call does.
-/
import Derived.Test.YtoipleipokpnaaaGreatAbWs
import Derived.Test.YtoipleipokpnaaaGreatWorks
set_option linter.all false
namespace Go.Proofs.YtoipleipokpnaaaGreat.Code
open Go Go.Ab
def know (f : FuncId) (args : List AV) (H : Heap) : Option KRes := match knownT [Works.top] f args H with
  | some k => some k
  | none => lib f args H
def E : Env := { funs := env.funs, known := know }
theorem knowOK : KnownOK Tryz.prog E := fun f args H k hk => by
  have hk' : know f args H = some k := hk
  unfold know at hk'
  split at hk'
  · rename_i k' h1
    cases hk'
    exact knownT_ok (env := { funs := env.funs, known := knownT [Works.top] }) rfl (fun p hp => by
      rw [List.mem_singleton] at hp; subst hp; exact Works.kept) f args H k h1
  · exact lib_ok hk'
theorem keptE {f : FuncId} {args : List AV} {v : AV} (h : okv (acallQ E 200000 f args []) v = true) (ha : AV.top.tops args = 0) (hv : v.top = 0) : Kept Tryz.prog (f, args, v) := by
  rw [acallQ_eq] at h
  exact kept (env := E) (funsOK rfl Code.tableOK) knowOK Code.mixed (okv_eq h) ha hv
theorem call5 {pure : Bool} {base bar : Nat} {args : List AV} {H : Heap} {Q : AV → Heap → Prop} : WpCall E pure base bar 5 args H Q ↔ frzWp E pure base bar c5 Q (frzAll bar H args) := wpcall_of rfl rfl fun _ _ => rfl
theorem call8 {pure : Bool} {base bar : Nat} {H : Heap} {Q : AV → Heap → Prop} : WpCall E pure base bar 8 [] H Q ↔ Q (.bool true) H := wpcall_known rfl rfl rfl
theorem call9 {pure : Bool} {base bar : Nat} {args : List AV} {H : Heap} {Q : AV → Heap → Prop} : WpCall E pure base bar 9 args H Q ↔ frzWp E pure base bar c9 Q (frzAll bar H args) := wpcall_of rfl rfl fun _ _ => rfl
theorem call11 {pure : Bool} {base bar : Nat} {args : List AV} {H : Heap} {Q : AV → Heap → Prop} : WpCall E pure base bar 11 args H Q ↔ frzWp E pure base bar c11 Q (frzAll bar H args) := wpcall_of rfl rfl fun _ _ => rfl
theorem call13 {pure : Bool} {base bar : Nat} {args : List AV} {H : Heap} {Q : AV → Heap → Prop} : WpCall E pure base bar 13 args H Q ↔ frzWp E pure base bar c13 Q (frzAll bar H args) := wpcall_of rfl rfl fun _ _ => rfl
theorem call16 {pure : Bool} {base bar : Nat} {args : List AV} {H : Heap} {Q : AV → Heap → Prop} : WpCall E pure base bar 16 args H Q ↔ frzWp E pure base bar c16 Q (frzAll bar H args) := wpcall_of rfl rfl fun _ _ => rfl
theorem call18 {pure : Bool} {base bar : Nat} {args : List AV} {H : Heap} {Q : AV → Heap → Prop} : WpCall E pure base bar 18 args H Q ↔ frzWp E pure base bar c18 Q (frzAll bar H args) := wpcall_of rfl rfl fun _ _ => rfl
theorem call20 {pure : Bool} {base bar : Nat} {args : List AV} {H : Heap} {Q : AV → Heap → Prop} : WpCall E pure base bar 20 args H Q ↔ frzWp E pure base bar c20 Q (frzAll bar H args) := wpcall_of rfl rfl fun _ _ => rfl
theorem call23 {pure : Bool} {base bar : Nat} {args : List AV} {H : Heap} {Q : AV → Heap → Prop} : WpCall E pure base bar 23 args H Q ↔ frzWp E pure base bar c23 Q (frzAll bar H args) := wpcall_of rfl rfl fun _ _ => rfl
theorem call25 {pure : Bool} {base bar : Nat} {args : List AV} {H : Heap} {Q : AV → Heap → Prop} : WpCall E pure base bar 25 args H Q ↔ frzWp E pure base bar c25 Q (frzAll bar H args) := wpcall_of rfl rfl fun _ _ => rfl
theorem call29 {pure : Bool} {base bar : Nat} {args : List AV} {H : Heap} {Q : AV → Heap → Prop} : WpCall E pure base bar 29 args H Q ↔ frzWp E pure base bar c29 Q (frzAll bar H args) := wpcall_of rfl rfl fun _ _ => rfl
theorem call30 {pure : Bool} {base bar : Nat} {args : List AV} {H : Heap} {Q : AV → Heap → Prop} : WpCall E pure base bar 30 args H Q ↔ frzWp E pure base bar c30 Q (frzAll bar H args) := wpcall_of rfl rfl fun _ _ => rfl
theorem call31 {pure : Bool} {base bar : Nat} {args : List AV} {H : Heap} {Q : AV → Heap → Prop} : WpCall E pure base bar 31 args H Q ↔ frzWp E pure base bar c31 Q (frzAll bar H args) := wpcall_of rfl rfl fun _ _ => rfl
theorem call32 {pure : Bool} {base bar : Nat} {args : List AV} {H : Heap} {Q : AV → Heap → Prop} : WpCall E pure base bar 32 args H Q ↔ frzWp E pure base bar c32 Q (frzAll bar H args) := wpcall_of rfl rfl fun _ _ => rfl
theorem call33 {pure : Bool} {base bar : Nat} {args : List AV} {H : Heap} {Q : AV → Heap → Prop} : WpCall E pure base bar 33 args H Q ↔ frzWp E pure base bar c33 Q (frzAll bar H args) := wpcall_of rfl rfl fun _ _ => rfl
theorem call34 {pure : Bool} {base bar : Nat} {args : List AV} {H : Heap} {Q : AV → Heap → Prop} : WpCall E pure base bar 34 args H Q ↔ frzWp E pure base bar c34 Q (frzAll bar H args) := wpcall_of rfl rfl fun _ _ => rfl
theorem call37 {pure : Bool} {base bar : Nat} {args : List AV} {H : Heap} {Q : AV → Heap → Prop} : WpCall E pure base bar 37 args H Q ↔ frzWp E pure base bar c37 Q (frzAll bar H args) := wpcall_of rfl rfl fun _ _ => rfl
theorem call38 {pure : Bool} {base bar : Nat} {args : List AV} {H : Heap} {Q : AV → Heap → Prop} : WpCall E pure base bar 38 args H Q ↔ frzWp E pure base bar c38 Q (frzAll bar H args) := wpcall_of rfl rfl fun _ _ => rfl
theorem call39 {pure : Bool} {base bar : Nat} {args : List AV} {H : Heap} {Q : AV → Heap → Prop} : WpCall E pure base bar 39 args H Q ↔ frzWp E pure base bar c39 Q (frzAll bar H args) := wpcall_of rfl rfl fun _ _ => rfl
theorem call40 {pure : Bool} {base bar : Nat} {args : List AV} {H : Heap} {Q : AV → Heap → Prop} : WpCall E pure base bar 40 args H Q ↔ frzWp E pure base bar c40 Q (frzAll bar H args) := wpcall_of rfl rfl fun _ _ => rfl
theorem call41 {pure : Bool} {base bar : Nat} {args : List AV} {H : Heap} {Q : AV → Heap → Prop} : WpCall E pure base bar 41 args H Q ↔ frzWp E pure base bar c41 Q (frzAll bar H args) := wpcall_of rfl rfl fun _ _ => rfl
theorem call42 {pure : Bool} {base bar : Nat} {args : List AV} {H : Heap} {Q : AV → Heap → Prop} : WpCall E pure base bar 42 args H Q ↔ frzWp E pure base bar c42 Q (frzAll bar H args) := wpcall_of rfl rfl fun _ _ => rfl
theorem call43 {pure : Bool} {base bar : Nat} {args : List AV} {H : Heap} {Q : AV → Heap → Prop} : WpCall E pure base bar 43 args H Q ↔ frzWp E pure base bar c43 Q (frzAll bar H args) := wpcall_of rfl rfl fun _ _ => rfl
theorem call44 {pure : Bool} {base bar : Nat} {args : List AV} {H : Heap} {Q : AV → Heap → Prop} : WpCall E pure base bar 44 args H Q ↔ frzWp E pure base bar c44 Q (frzAll bar H args) := wpcall_of rfl rfl fun _ _ => rfl
theorem call45 {pure : Bool} {base bar : Nat} {args : List AV} {H : Heap} {Q : AV → Heap → Prop} : WpCall E pure base bar 45 args H Q ↔ frzWp E pure base bar c45 Q (frzAll bar H args) := wpcall_of rfl rfl fun _ _ => rfl
theorem call46 {pure : Bool} {base bar : Nat} {args : List AV} {H : Heap} {Q : AV → Heap → Prop} : WpCall E pure base bar 46 args H Q ↔ frzWp E pure base bar c46 Q (frzAll bar H args) := wpcall_of rfl rfl fun _ _ => rfl
theorem call48 {pure : Bool} {base bar : Nat} {args : List AV} {H : Heap} {Q : AV → Heap → Prop} : WpCall E pure base bar 48 args H Q ↔ frzWp E pure base bar c48 Q (frzAll bar H args) := wpcall_of rfl rfl fun _ _ => rfl
theorem call49 {pure : Bool} {base bar : Nat} {args : List AV} {H : Heap} {Q : AV → Heap → Prop} : WpCall E pure base bar 49 args H Q ↔ frzWp E pure base bar c49 Q (frzAll bar H args) := wpcall_of rfl rfl fun _ _ => rfl
theorem call51 {pure : Bool} {base bar : Nat} {args : List AV} {H : Heap} {Q : AV → Heap → Prop} : WpCall E pure base bar 51 args H Q ↔ frzWp E pure base bar c51 Q (frzAll bar H args) := wpcall_of rfl rfl fun _ _ => rfl
theorem call53 {pure : Bool} {base bar : Nat} {args : List AV} {H : Heap} {Q : AV → Heap → Prop} : WpCall E pure base bar 53 args H Q ↔ frzWp E pure base bar c53 Q (frzAll bar H args) := wpcall_of rfl rfl fun _ _ => rfl
theorem call55 {pure : Bool} {base bar : Nat} {args : List AV} {H : Heap} {Q : AV → Heap → Prop} : WpCall E pure base bar 55 args H Q ↔ frzWp E pure base bar c55 Q (frzAll bar H args) := wpcall_of rfl rfl fun _ _ => rfl
theorem call58 {pure : Bool} {base bar : Nat} {args : List AV} {H : Heap} {Q : AV → Heap → Prop} : WpCall E pure base bar 58 args H Q ↔ frzWp E pure base bar c58 Q (frzAll bar H args) := wpcall_of rfl rfl fun _ _ => rfl
theorem call59 {pure : Bool} {base bar : Nat} {args : List AV} {H : Heap} {Q : AV → Heap → Prop} : WpCall E pure base bar 59 args H Q ↔ frzWp E pure base bar c59 Q (frzAll bar H args) := wpcall_of rfl rfl fun _ _ => rfl
theorem call63 {pure : Bool} {base bar : Nat} {args : List AV} {H : Heap} {Q : AV → Heap → Prop} : WpCall E pure base bar 63 args H Q ↔ frzWp E pure base bar c63 Q (frzAll bar H args) := wpcall_of rfl rfl fun _ _ => rfl
theorem call64 {pure : Bool} {base bar : Nat} {args : List AV} {H : Heap} {Q : AV → Heap → Prop} : WpCall E pure base bar 64 args H Q ↔ WpFun E pure base bar c64 args H Q := wpcall_raw rfl rfl fun _ _ => rfl
theorem call65 {pure : Bool} {base bar : Nat} {args : List AV} {H : Heap} {Q : AV → Heap → Prop} : WpCall E pure base bar 65 args H Q ↔ WpFun E pure base bar c65 args H Q := wpcall_raw rfl rfl fun _ _ => rfl
theorem call66 {pure : Bool} {base bar : Nat} {args : List AV} {H : Heap} {Q : AV → Heap → Prop} : WpCall E pure base bar 66 args H Q ↔ WpFun E pure base bar c66 args H Q := wpcall_raw rfl rfl fun _ _ => rfl
theorem call67 {pure : Bool} {base bar : Nat} {args : List AV} {H : Heap} {Q : AV → Heap → Prop} : WpCall E pure base bar 67 args H Q ↔ frzWp E pure base bar c67 Q (frzAll bar H args) := wpcall_of rfl rfl fun _ _ => rfl
theorem call68 {pure : Bool} {base bar : Nat} {args : List AV} {H : Heap} {Q : AV → Heap → Prop} : WpCall E pure base bar 68 args H Q ↔ WpFun E pure base bar c68 args H Q := wpcall_raw rfl rfl fun _ _ => rfl
theorem call69 {pure : Bool} {base bar : Nat} {args : List AV} {H : Heap} {Q : AV → Heap → Prop} : WpCall E pure base bar 69 args H Q ↔ frzWp E pure base bar c69 Q (frzAll bar H args) := wpcall_of rfl rfl fun _ _ => rfl
theorem call70 {pure : Bool} {base bar : Nat} {args : List AV} {H : Heap} {Q : AV → Heap → Prop} : WpCall E pure base bar 70 args H Q ↔ frzWp E pure base bar c70 Q (frzAll bar H args) := wpcall_of rfl rfl fun _ _ => rfl
theorem call73 {pure : Bool} {base bar : Nat} {args : List AV} {H : Heap} {Q : AV → Heap → Prop} : WpCall E pure base bar 73 args H Q ↔ frzWp E pure base bar c73 Q (frzAll bar H args) := wpcall_of rfl rfl fun _ _ => rfl
theorem call74 {pure : Bool} {base bar : Nat} {args : List AV} {H : Heap} {Q : AV → Heap → Prop} : WpCall E pure base bar 74 args H Q ↔ frzWp E pure base bar c74 Q (frzAll bar H args) := wpcall_of rfl rfl fun _ _ => rfl
theorem call75 {pure : Bool} {base bar : Nat} {args : List AV} {H : Heap} {Q : AV → Heap → Prop} : WpCall E pure base bar 75 args H Q ↔ frzWp E pure base bar c75 Q (frzAll bar H args) := wpcall_of rfl rfl fun _ _ => rfl
theorem call76 {pure : Bool} {base bar : Nat} {args : List AV} {H : Heap} {Q : AV → Heap → Prop} : WpCall E pure base bar 76 args H Q ↔ WpFun E pure base bar c76 args H Q := wpcall_raw rfl rfl fun _ _ => rfl
theorem call78 {pure : Bool} {base bar : Nat} {args : List AV} {H : Heap} {Q : AV → Heap → Prop} : WpCall E pure base bar 78 args H Q ↔ frzWp E pure base bar c78 Q (frzAll bar H args) := wpcall_of rfl rfl fun _ _ => rfl
theorem call79 {pure : Bool} {base bar : Nat} {args : List AV} {H : Heap} {Q : AV → Heap → Prop} : WpCall E pure base bar 79 args H Q ↔ frzWp E pure base bar c79 Q (frzAll bar H args) := wpcall_of rfl rfl fun _ _ => rfl
theorem call81 {pure : Bool} {base bar : Nat} {args : List AV} {H : Heap} {Q : AV → Heap → Prop} : WpCall E pure base bar 81 args H Q ↔ WpFun E pure base bar c81 args H Q := wpcall_raw rfl rfl fun _ _ => rfl
theorem call82 {pure : Bool} {base bar : Nat} {args : List AV} {H : Heap} {Q : AV → Heap → Prop} : WpCall E pure base bar 82 args H Q ↔ frzWp E pure base bar c82 Q (frzAll bar H args) := wpcall_of rfl rfl fun _ _ => rfl
theorem call83 {pure : Bool} {base bar : Nat} {args : List AV} {H : Heap} {Q : AV → Heap → Prop} : WpCall E pure base bar 83 args H Q ↔ frzWp E pure base bar c83 Q (frzAll bar H args) := wpcall_of rfl rfl fun _ _ => rfl
theorem call84 {pure : Bool} {base bar : Nat} {args : List AV} {H : Heap} {Q : AV → Heap → Prop} : WpCall E pure base bar 84 args H Q ↔ frzWp E pure base bar c84 Q (frzAll bar H args) := wpcall_of rfl rfl fun _ _ => rfl
theorem call85 {pure : Bool} {base bar : Nat} {args : List AV} {H : Heap} {Q : AV → Heap → Prop} : WpCall E pure base bar 85 args H Q ↔ frzWp E pure base bar c85 Q (frzAll bar H args) := wpcall_of rfl rfl fun _ _ => rfl
theorem call86 {pure : Bool} {base bar : Nat} {args : List AV} {H : Heap} {Q : AV → Heap → Prop} : WpCall E pure base bar 86 args H Q ↔ WpFun E pure base bar c86 args H Q := wpcall_raw rfl rfl fun _ _ => rfl
theorem call87 {pure : Bool} {base bar : Nat} {args : List AV} {H : Heap} {Q : AV → Heap → Prop} : WpCall E pure base bar 87 args H Q ↔ WpFun E pure base bar c87 args H Q := wpcall_raw rfl rfl fun _ _ => rfl
theorem call88 {pure : Bool} {base bar : Nat} {args : List AV} {H : Heap} {Q : AV → Heap → Prop} : WpCall E pure base bar 88 args H Q ↔ WpFun E pure base bar c88 args H Q := wpcall_raw rfl rfl fun _ _ => rfl
theorem call89 {pure : Bool} {base bar : Nat} {args : List AV} {H : Heap} {Q : AV → Heap → Prop} : WpCall E pure base bar 89 args H Q ↔ WpFun E pure base bar c89 args H Q := wpcall_raw rfl rfl fun _ _ => rfl
theorem call90 {pure : Bool} {base bar : Nat} {args : List AV} {H : Heap} {Q : AV → Heap → Prop} : WpCall E pure base bar 90 args H Q ↔ WpFun E pure base bar c90 args H Q := wpcall_raw rfl rfl fun _ _ => rfl
theorem call91 {pure : Bool} {base bar : Nat} {args : List AV} {H : Heap} {Q : AV → Heap → Prop} : WpCall E pure base bar 91 args H Q ↔ WpFun E pure base bar c91 args H Q := wpcall_raw rfl rfl fun _ _ => rfl
theorem call92 {pure : Bool} {base bar : Nat} {args : List AV} {H : Heap} {Q : AV → Heap → Prop} : WpCall E pure base bar 92 args H Q ↔ WpFun E pure base bar c92 args H Q := wpcall_raw rfl rfl fun _ _ => rfl
theorem call93 {pure : Bool} {base bar : Nat} {args : List AV} {H : Heap} {Q : AV → Heap → Prop} : WpCall E pure base bar 93 args H Q ↔ WpFun E pure base bar c93 args H Q := wpcall_raw rfl rfl fun _ _ => rfl
theorem call94 {pure : Bool} {base bar : Nat} {args : List AV} {H : Heap} {Q : AV → Heap → Prop} : WpCall E pure base bar 94 args H Q ↔ frzWp E pure base bar c94 Q (frzAll bar H args) := wpcall_of rfl rfl fun _ _ => rfl
theorem call95 {pure : Bool} {base bar : Nat} {args : List AV} {H : Heap} {Q : AV → Heap → Prop} : WpCall E pure base bar 95 args H Q ↔ frzWp E pure base bar c95 Q (frzAll bar H args) := wpcall_of rfl rfl fun _ _ => rfl
theorem call96 {pure : Bool} {base bar : Nat} {args : List AV} {H : Heap} {Q : AV → Heap → Prop} : WpCall E pure base bar 96 args H Q ↔ frzWp E pure base bar c96 Q (frzAll bar H args) := wpcall_of rfl rfl fun _ _ => rfl
theorem call97 {pure : Bool} {base bar : Nat} {args : List AV} {H : Heap} {Q : AV → Heap → Prop} : WpCall E pure base bar 97 args H Q ↔ frzWp E pure base bar c97 Q (frzAll bar H args) := wpcall_of rfl rfl fun _ _ => rfl
theorem call98 {pure : Bool} {base bar : Nat} {args : List AV} {H : Heap} {Q : AV → Heap → Prop} : WpCall E pure base bar 98 args H Q ↔ WpFun E pure base bar c98 args H Q := wpcall_raw rfl rfl fun _ _ => rfl
theorem call99 {pure : Bool} {base bar : Nat} {args : List AV} {H : Heap} {Q : AV → Heap → Prop} : WpCall E pure base bar 99 args H Q ↔ frzWp E pure base bar c99 Q (frzAll bar H args) := wpcall_of rfl rfl fun _ _ => rfl
theorem call100 {pure : Bool} {base bar : Nat} {args : List AV} {H : Heap} {Q : AV → Heap → Prop} : WpCall E pure base bar 100 args H Q ↔ WpFun E pure base bar c100 args H Q := wpcall_raw rfl rfl fun _ _ => rfl
theorem call101 {pure : Bool} {base bar : Nat} {args : List AV} {H : Heap} {Q : AV → Heap → Prop} : WpCall E pure base bar 101 args H Q ↔ WpFun E pure base bar c101 args H Q := wpcall_raw rfl rfl fun _ _ => rfl
theorem call102 {pure : Bool} {base bar : Nat} {args : List AV} {H : Heap} {Q : AV → Heap → Prop} : WpCall E pure base bar 102 args H Q ↔ WpFun E pure base bar c102 args H Q := wpcall_raw rfl rfl fun _ _ => rfl
theorem call103 {pure : Bool} {base bar : Nat} {args : List AV} {H : Heap} {Q : AV → Heap → Prop} : WpCall E pure base bar 103 args H Q ↔ WpFun E pure base bar c103 args H Q := wpcall_raw rfl rfl fun _ _ => rfl
theorem call104 {pure : Bool} {base bar : Nat} {args : List AV} {H : Heap} {Q : AV → Heap → Prop} : WpCall E pure base bar 104 args H Q ↔ frzWp E pure base bar c104 Q (frzAll bar H args) := wpcall_of rfl rfl fun _ _ => rfl
theorem call105 {pure : Bool} {base bar : Nat} {args : List AV} {H : Heap} {Q : AV → Heap → Prop} : WpCall E pure base bar 105 args H Q ↔ frzWp E pure base bar c105 Q (frzAll bar H args) := wpcall_of rfl rfl fun _ _ => rfl
theorem call108 {pure : Bool} {base bar : Nat} {args : List AV} {H : Heap} {Q : AV → Heap → Prop} : WpCall E pure base bar 108 args H Q ↔ WpFun E pure base bar c108 args H Q := wpcall_raw rfl rfl fun _ _ => rfl
theorem call109 {pure : Bool} {base bar : Nat} {args : List AV} {H : Heap} {Q : AV → Heap → Prop} : WpCall E pure base bar 109 args H Q ↔ WpFun E pure base bar c109 args H Q := wpcall_raw rfl rfl fun _ _ => rfl
theorem call110 {pure : Bool} {base bar : Nat} {args : List AV} {H : Heap} {Q : AV → Heap → Prop} : WpCall E pure base bar 110 args H Q ↔ frzWp E pure base bar c110 Q (frzAll bar H args) := wpcall_of rfl rfl fun _ _ => rfl
theorem call111 {pure : Bool} {base bar : Nat} {args : List AV} {H : Heap} {Q : AV → Heap → Prop} : WpCall E pure base bar 111 args H Q ↔ frzWp E pure base bar c111 Q (frzAll bar H args) := wpcall_of rfl rfl fun _ _ => rfl
theorem call112 {pure : Bool} {base bar : Nat} {args : List AV} {H : Heap} {Q : AV → Heap → Prop} : WpCall E pure base bar 112 args H Q ↔ WpFun E pure base bar c112 args H Q := wpcall_raw rfl rfl fun _ _ => rfl
theorem call113 {pure : Bool} {base bar : Nat} {args : List AV} {H : Heap} {Q : AV → Heap → Prop} : WpCall E pure base bar 113 args H Q ↔ frzWp E pure base bar c113 Q (frzAll bar H args) := wpcall_of rfl rfl fun _ _ => rfl
theorem call114 {pure : Bool} {base bar : Nat} {args : List AV} {H : Heap} {Q : AV → Heap → Prop} : WpCall E pure base bar 114 args H Q ↔ WpFun E pure base bar c114 args H Q := wpcall_raw rfl rfl fun _ _ => rfl
theorem call115 {pure : Bool} {base bar : Nat} {args : List AV} {H : Heap} {Q : AV → Heap → Prop} : WpCall E pure base bar 115 args H Q ↔ WpFun E pure base bar c115 args H Q := wpcall_raw rfl rfl fun _ _ => rfl
theorem call116 {pure : Bool} {base bar : Nat} {args : List AV} {H : Heap} {Q : AV → Heap → Prop} : WpCall E pure base bar 116 args H Q ↔ WpFun E pure base bar c116 args H Q := wpcall_raw rfl rfl fun _ _ => rfl
theorem call117 {pure : Bool} {base bar : Nat} {args : List AV} {H : Heap} {Q : AV → Heap → Prop} : WpCall E pure base bar 117 args H Q ↔ WpFun E pure base bar c117 args H Q := wpcall_raw rfl rfl fun _ _ => rfl
theorem call118 {pure : Bool} {base bar : Nat} {args : List AV} {H : Heap} {Q : AV → Heap → Prop} : WpCall E pure base bar 118 args H Q ↔ WpFun E pure base bar c118 args H Q := wpcall_raw rfl rfl fun _ _ => rfl
theorem call119 {pure : Bool} {base bar : Nat} {args : List AV} {H : Heap} {Q : AV → Heap → Prop} : WpCall E pure base bar 119 args H Q ↔ WpFun E pure base bar c119 args H Q := wpcall_raw rfl rfl fun _ _ => rfl
theorem call120 {pure : Bool} {base bar : Nat} {args : List AV} {H : Heap} {Q : AV → Heap → Prop} : WpCall E pure base bar 120 args H Q ↔ WpFun E pure base bar c120 args H Q := wpcall_raw rfl rfl fun _ _ => rfl
theorem call121 {pure : Bool} {base bar : Nat} {args : List AV} {H : Heap} {Q : AV → Heap → Prop} : WpCall E pure base bar 121 args H Q ↔ WpFun E pure base bar c121 args H Q := wpcall_raw rfl rfl fun _ _ => rfl
theorem call124 {pure : Bool} {base bar : Nat} {args : List AV} {H : Heap} {Q : AV → Heap → Prop} : WpCall E pure base bar 124 args H Q ↔ WpFun E pure base bar c124 args H Q := wpcall_raw rfl rfl fun _ _ => rfl
theorem call125 {pure : Bool} {base bar : Nat} {args : List AV} {H : Heap} {Q : AV → Heap → Prop} : WpCall E pure base bar 125 args H Q ↔ WpFun E pure base bar c125 args H Q := wpcall_raw rfl rfl fun _ _ => rfl
theorem call126 {pure : Bool} {base bar : Nat} {args : List AV} {H : Heap} {Q : AV → Heap → Prop} : WpCall E pure base bar 126 args H Q ↔ WpFun E pure base bar c126 args H Q := wpcall_raw rfl rfl fun _ _ => rfl
theorem call127 {pure : Bool} {base bar : Nat} {args : List AV} {H : Heap} {Q : AV → Heap → Prop} : WpCall E pure base bar 127 args H Q ↔ WpFun E pure base bar c127 args H Q := wpcall_raw rfl rfl fun _ _ => rfl
theorem call130 {pure : Bool} {base bar : Nat} {args : List AV} {H : Heap} {Q : AV → Heap → Prop} : WpCall E pure base bar 130 args H Q ↔ WpFun E pure base bar c130 args H Q := wpcall_raw rfl rfl fun _ _ => rfl
theorem call146 {pure : Bool} {base bar : Nat} {args : List AV} {H : Heap} {Q : AV → Heap → Prop} : WpCall E pure base bar 146 args H Q ↔ frzWp E pure base bar c146 Q (frzAll bar H args) := wpcall_of rfl rfl fun _ _ => rfl
theorem call147 {pure : Bool} {base bar : Nat} {args : List AV} {H : Heap} {Q : AV → Heap → Prop} : WpCall E pure base bar 147 args H Q ↔ frzWp E pure base bar c147 Q (frzAll bar H args) := wpcall_of rfl rfl fun _ _ => rfl
theorem call148 {pure : Bool} {base bar : Nat} {args : List AV} {H : Heap} {Q : AV → Heap → Prop} : WpCall E pure base bar 148 args H Q ↔ WpFun E pure base bar c148 args H Q := wpcall_raw rfl rfl fun _ _ => rfl
theorem call149 {pure : Bool} {base bar : Nat} {args : List AV} {H : Heap} {Q : AV → Heap → Prop} : WpCall E pure base bar 149 args H Q ↔ frzWp E pure base bar c149 Q (frzAll bar H args) := wpcall_of rfl rfl fun _ _ => rfl
theorem call150 {pure : Bool} {base bar : Nat} {args : List AV} {H : Heap} {Q : AV → Heap → Prop} : WpCall E pure base bar 150 args H Q ↔ frzWp E pure base bar c150 Q (frzAll bar H args) := wpcall_of rfl rfl fun _ _ => rfl
theorem call151 {pure : Bool} {base bar : Nat} {args : List AV} {H : Heap} {Q : AV → Heap → Prop} : WpCall E pure base bar 151 args H Q ↔ frzWp E pure base bar c151 Q (frzAll bar H args) := wpcall_of rfl rfl fun _ _ => rfl
theorem call152 {pure : Bool} {base bar : Nat} {args : List AV} {H : Heap} {Q : AV → Heap → Prop} : WpCall E pure base bar 152 args H Q ↔ frzWp E pure base bar c152 Q (frzAll bar H args) := wpcall_of rfl rfl fun _ _ => rfl
theorem call153 {pure : Bool} {base bar : Nat} {args : List AV} {H : Heap} {Q : AV → Heap → Prop} : WpCall E pure base bar 153 args H Q ↔ frzWp E pure base bar c153 Q (frzAll bar H args) := wpcall_of rfl rfl fun _ _ => rfl
theorem call154 {pure : Bool} {base bar : Nat} {args : List AV} {H : Heap} {Q : AV → Heap → Prop} : WpCall E pure base bar 154 args H Q ↔ frzWp E pure base bar c154 Q (frzAll bar H args) := wpcall_of rfl rfl fun _ _ => rfl
end Go.Proofs.YtoipleipokpnaaaGreat.Code

