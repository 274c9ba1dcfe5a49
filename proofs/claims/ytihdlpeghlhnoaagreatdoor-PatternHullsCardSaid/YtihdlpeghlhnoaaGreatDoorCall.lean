/-
  The environment of the contracts: what works is known, and answers of the library; what each call does.
-/
import Derived.Test.YtihdlpeghlhnoaaGreatDoorAbWs
import Derived.Test.YtihdlpeghlhnoaaGreatDoorWorks
set_option linter.all false
section
namespace Go.Proofs.YtihdlpeghlhnoaaGreatDoor.Code
open Go Go.Ab
def knowE (f : FuncId) (args : List AV) (H : Heap) : Option KRes := match knownT [weTop] f args H with
  | some k => some k
  | none => lib f args H
def E : Env := { funs := env.funs, known := knowE }
theorem knowOK : KnownOK Tryz.prog E := fun f args H k hk => by
  have hk' : knowE f args H = some k := hk
  unfold knowE at hk'
  split at hk'
  · rename_i k' h1
    cases hk'
    exact knownT_ok (env := { funs := env.funs, known := knownT [weTop] }) rfl (fun p hp => by rw [List.mem_singleton] at hp; subst hp; exact wkTop) f args H k h1
  · exact lib_ok hk'
theorem call6 {pure : Bool} {base bar : Nat} {args : List AV} {H : Heap} {Q : AV → Heap → Prop} : WpCall E pure base bar 6 args H Q ↔ frzWp E pure base bar c6 Q (frzAll bar H args) := wpcall_of rfl rfl fun _ _ => rfl
theorem call13 {pure : Bool} {base bar : Nat} {args : List AV} {H : Heap} {Q : AV → Heap → Prop} : WpCall E pure base bar 13 args H Q ↔ frzWp E pure base bar c13 Q (frzAll bar H args) := wpcall_of rfl rfl fun _ _ => rfl
theorem call14 {pure : Bool} {base bar : Nat} {H : Heap} {Q : AV → Heap → Prop} : WpCall E pure base bar 14 [] H Q ↔ Q (.bool true) H := wpcall_known rfl rfl rfl
theorem call15 {pure : Bool} {base bar : Nat} {args : List AV} {H : Heap} {Q : AV → Heap → Prop} : WpCall E pure base bar 15 args H Q ↔ frzWp E pure base bar c15 Q (frzAll bar H args) := wpcall_of rfl rfl fun _ _ => rfl
theorem call16 {pure : Bool} {base bar : Nat} {args : List AV} {H : Heap} {Q : AV → Heap → Prop} : WpCall E pure base bar 16 args H Q ↔ frzWp E pure base bar c16 Q (frzAll bar H args) := wpcall_of rfl rfl fun _ _ => rfl
theorem call18 {pure : Bool} {base bar : Nat} {args : List AV} {H : Heap} {Q : AV → Heap → Prop} : WpCall E pure base bar 18 args H Q ↔ frzWp E pure base bar c18 Q (frzAll bar H args) := wpcall_of rfl rfl fun _ _ => rfl
theorem call20 {pure : Bool} {base bar : Nat} {args : List AV} {H : Heap} {Q : AV → Heap → Prop} : WpCall E pure base bar 20 args H Q ↔ frzWp E pure base bar c20 Q (frzAll bar H args) := wpcall_of rfl rfl fun _ _ => rfl
theorem call22 {pure : Bool} {base bar : Nat} {args : List AV} {H : Heap} {Q : AV → Heap → Prop} : WpCall E pure base bar 22 args H Q ↔ frzWp E pure base bar c22 Q (frzAll bar H args) := wpcall_of rfl rfl fun _ _ => rfl
theorem call23 {pure : Bool} {base bar : Nat} {args : List AV} {H : Heap} {Q : AV → Heap → Prop} : WpCall E pure base bar 23 args H Q ↔ frzWp E pure base bar c23 Q (frzAll bar H args) := wpcall_of rfl rfl fun _ _ => rfl
theorem call25 {pure : Bool} {base bar : Nat} {args : List AV} {H : Heap} {Q : AV → Heap → Prop} : WpCall E pure base bar 25 args H Q ↔ frzWp E pure base bar c25 Q (frzAll bar H args) := wpcall_of rfl rfl fun _ _ => rfl
theorem call27 {pure : Bool} {base bar : Nat} {args : List AV} {H : Heap} {Q : AV → Heap → Prop} : WpCall E pure base bar 27 args H Q ↔ frzWp E pure base bar c27 Q (frzAll bar H args) := wpcall_of rfl rfl fun _ _ => rfl
theorem call28 {pure : Bool} {base bar : Nat} {args : List AV} {H : Heap} {Q : AV → Heap → Prop} : WpCall E pure base bar 28 args H Q ↔ frzWp E pure base bar c28 Q (frzAll bar H args) := wpcall_of rfl rfl fun _ _ => rfl
theorem call29 {pure : Bool} {base bar : Nat} {args : List AV} {H : Heap} {Q : AV → Heap → Prop} : WpCall E pure base bar 29 args H Q ↔ frzWp E pure base bar c29 Q (frzAll bar H args) := wpcall_of rfl rfl fun _ _ => rfl
theorem call31 {pure : Bool} {base bar : Nat} {args : List AV} {H : Heap} {Q : AV → Heap → Prop} : WpCall E pure base bar 31 args H Q ↔ frzWp E pure base bar c31 Q (frzAll bar H args) := wpcall_of rfl rfl fun _ _ => rfl
theorem call33 {pure : Bool} {base bar : Nat} {args : List AV} {H : Heap} {Q : AV → Heap → Prop} : WpCall E pure base bar 33 args H Q ↔ frzWp E pure base bar c33 Q (frzAll bar H args) := wpcall_of rfl rfl fun _ _ => rfl
theorem call34 {pure : Bool} {base bar : Nat} {args : List AV} {H : Heap} {Q : AV → Heap → Prop} : WpCall E pure base bar 34 args H Q ↔ frzWp E pure base bar c34 Q (frzAll bar H args) := wpcall_of rfl rfl fun _ _ => rfl
theorem call36 {pure : Bool} {base bar : Nat} {args : List AV} {H : Heap} {Q : AV → Heap → Prop} : WpCall E pure base bar 36 args H Q ↔ frzWp E pure base bar c36 Q (frzAll bar H args) := wpcall_of rfl rfl fun _ _ => rfl
theorem call38 {pure : Bool} {base bar : Nat} {args : List AV} {H : Heap} {Q : AV → Heap → Prop} : WpCall E pure base bar 38 args H Q ↔ frzWp E pure base bar c38 Q (frzAll bar H args) := wpcall_of rfl rfl fun _ _ => rfl
theorem call40 {pure : Bool} {base bar : Nat} {args : List AV} {H : Heap} {Q : AV → Heap → Prop} : WpCall E pure base bar 40 args H Q ↔ frzWp E pure base bar c40 Q (frzAll bar H args) := wpcall_of rfl rfl fun _ _ => rfl
theorem call41 {pure : Bool} {base bar : Nat} {args : List AV} {H : Heap} {Q : AV → Heap → Prop} : WpCall E pure base bar 41 args H Q ↔ frzWp E pure base bar c41 Q (frzAll bar H args) := wpcall_of rfl rfl fun _ _ => rfl
theorem call42 {pure : Bool} {base bar : Nat} {args : List AV} {H : Heap} {Q : AV → Heap → Prop} : WpCall E pure base bar 42 args H Q ↔ frzWp E pure base bar c42 Q (frzAll bar H args) := wpcall_of rfl rfl fun _ _ => rfl
theorem call43 {pure : Bool} {base bar : Nat} {args : List AV} {H : Heap} {Q : AV → Heap → Prop} : WpCall E pure base bar 43 args H Q ↔ frzWp E pure base bar c43 Q (frzAll bar H args) := wpcall_of rfl rfl fun _ _ => rfl
theorem call44 {pure : Bool} {base bar : Nat} {args : List AV} {H : Heap} {Q : AV → Heap → Prop} : WpCall E pure base bar 44 args H Q ↔ frzWp E pure base bar c44 Q (frzAll bar H args) := wpcall_of rfl rfl fun _ _ => rfl
theorem call49 {pure : Bool} {base bar : Nat} {args : List AV} {H : Heap} {Q : AV → Heap → Prop} : WpCall E pure base bar 49 args H Q ↔ frzWp E pure base bar c49 Q (frzAll bar H args) := wpcall_of rfl rfl fun _ _ => rfl
theorem call51 {pure : Bool} {base bar : Nat} {args : List AV} {H : Heap} {Q : AV → Heap → Prop} : WpCall E pure base bar 51 args H Q ↔ frzWp E pure base bar c51 Q (frzAll bar H args) := wpcall_of rfl rfl fun _ _ => rfl
theorem call53 {pure : Bool} {base bar : Nat} {args : List AV} {H : Heap} {Q : AV → Heap → Prop} : WpCall E pure base bar 53 args H Q ↔ WpFun E pure base bar c53 args H Q := wpcall_raw rfl rfl fun _ _ => rfl
theorem call58 {pure : Bool} {base bar : Nat} {args : List AV} {H : Heap} {Q : AV → Heap → Prop} : WpCall E pure base bar 58 args H Q ↔ WpFun E pure base bar c58 args H Q := wpcall_raw rfl rfl fun _ _ => rfl
theorem call60 {pure : Bool} {base bar : Nat} {args : List AV} {H : Heap} {Q : AV → Heap → Prop} : WpCall E pure base bar 60 args H Q ↔ frzWp E pure base bar c60 Q (frzAll bar H args) := wpcall_of rfl rfl fun _ _ => rfl
theorem call61 {pure : Bool} {base bar : Nat} {args : List AV} {H : Heap} {Q : AV → Heap → Prop} : WpCall E pure base bar 61 args H Q ↔ frzWp E pure base bar c61 Q (frzAll bar H args) := wpcall_of rfl rfl fun _ _ => rfl
theorem call62 {pure : Bool} {base bar : Nat} {args : List AV} {H : Heap} {Q : AV → Heap → Prop} : WpCall E pure base bar 62 args H Q ↔ frzWp E pure base bar c62 Q (frzAll bar H args) := wpcall_of rfl rfl fun _ _ => rfl
theorem call63 {pure : Bool} {base bar : Nat} {args : List AV} {H : Heap} {Q : AV → Heap → Prop} : WpCall E pure base bar 63 args H Q ↔ frzWp E pure base bar c63 Q (frzAll bar H args) := wpcall_of rfl rfl fun _ _ => rfl
theorem call64 {pure : Bool} {base bar : Nat} {args : List AV} {H : Heap} {Q : AV → Heap → Prop} : WpCall E pure base bar 64 args H Q ↔ WpFun E pure base bar c64 args H Q := wpcall_raw rfl rfl fun _ _ => rfl
theorem call66 {pure : Bool} {base bar : Nat} {args : List AV} {H : Heap} {Q : AV → Heap → Prop} : WpCall E pure base bar 66 args H Q ↔ frzWp E pure base bar c66 Q (frzAll bar H args) := wpcall_of rfl rfl fun _ _ => rfl
theorem call67 {pure : Bool} {base bar : Nat} {args : List AV} {H : Heap} {Q : AV → Heap → Prop} : WpCall E pure base bar 67 args H Q ↔ WpFun E pure base bar c67 args H Q := wpcall_raw rfl rfl fun _ _ => rfl
theorem call69 {pure : Bool} {base bar : Nat} {args : List AV} {H : Heap} {Q : AV → Heap → Prop} : WpCall E pure base bar 69 args H Q ↔ WpFun E pure base bar c69 args H Q := wpcall_raw rfl rfl fun _ _ => rfl
theorem call70 {pure : Bool} {base bar : Nat} {args : List AV} {H : Heap} {Q : AV → Heap → Prop} : WpCall E pure base bar 70 args H Q ↔ frzWp E pure base bar c70 Q (frzAll bar H args) := wpcall_of rfl rfl fun _ _ => rfl
theorem call71 {pure : Bool} {base bar : Nat} {args : List AV} {H : Heap} {Q : AV → Heap → Prop} : WpCall E pure base bar 71 args H Q ↔ WpFun E pure base bar c71 args H Q := wpcall_raw rfl rfl fun _ _ => rfl
theorem call72 {pure : Bool} {base bar : Nat} {args : List AV} {H : Heap} {Q : AV → Heap → Prop} : WpCall E pure base bar 72 args H Q ↔ frzWp E pure base bar c72 Q (frzAll bar H args) := wpcall_of rfl rfl fun _ _ => rfl
theorem call74 {pure : Bool} {base bar : Nat} {args : List AV} {H : Heap} {Q : AV → Heap → Prop} : WpCall E pure base bar 74 args H Q ↔ frzWp E pure base bar c74 Q (frzAll bar H args) := wpcall_of rfl rfl fun _ _ => rfl
theorem call75 {pure : Bool} {base bar : Nat} {args : List AV} {H : Heap} {Q : AV → Heap → Prop} : WpCall E pure base bar 75 args H Q ↔ WpFun E pure base bar c75 args H Q := wpcall_raw rfl rfl fun _ _ => rfl
theorem call76 {pure : Bool} {base bar : Nat} {args : List AV} {H : Heap} {Q : AV → Heap → Prop} : WpCall E pure base bar 76 args H Q ↔ frzWp E pure base bar c76 Q (frzAll bar H args) := wpcall_of rfl rfl fun _ _ => rfl
theorem call77 {pure : Bool} {base bar : Nat} {args : List AV} {H : Heap} {Q : AV → Heap → Prop} : WpCall E pure base bar 77 args H Q ↔ frzWp E pure base bar c77 Q (frzAll bar H args) := wpcall_of rfl rfl fun _ _ => rfl
theorem call78 {pure : Bool} {base bar : Nat} {args : List AV} {H : Heap} {Q : AV → Heap → Prop} : WpCall E pure base bar 78 args H Q ↔ frzWp E pure base bar c78 Q (frzAll bar H args) := wpcall_of rfl rfl fun _ _ => rfl
theorem call79 {pure : Bool} {base bar : Nat} {args : List AV} {H : Heap} {Q : AV → Heap → Prop} : WpCall E pure base bar 79 args H Q ↔ frzWp E pure base bar c79 Q (frzAll bar H args) := wpcall_of rfl rfl fun _ _ => rfl
theorem call80 {pure : Bool} {base bar : Nat} {args : List AV} {H : Heap} {Q : AV → Heap → Prop} : WpCall E pure base bar 80 args H Q ↔ frzWp E pure base bar c80 Q (frzAll bar H args) := wpcall_of rfl rfl fun _ _ => rfl
theorem call81 {pure : Bool} {base bar : Nat} {args : List AV} {H : Heap} {Q : AV → Heap → Prop} : WpCall E pure base bar 81 args H Q ↔ WpFun E pure base bar c81 args H Q := wpcall_raw rfl rfl fun _ _ => rfl
theorem call83 {pure : Bool} {base bar : Nat} {args : List AV} {H : Heap} {Q : AV → Heap → Prop} : WpCall E pure base bar 83 args H Q ↔ WpFun E pure base bar c83 args H Q := wpcall_raw rfl rfl fun _ _ => rfl
theorem call84 {pure : Bool} {base bar : Nat} {args : List AV} {H : Heap} {Q : AV → Heap → Prop} : WpCall E pure base bar 84 args H Q ↔ frzWp E pure base bar c84 Q (frzAll bar H args) := wpcall_of rfl rfl fun _ _ => rfl
theorem call85 {pure : Bool} {base bar : Nat} {args : List AV} {H : Heap} {Q : AV → Heap → Prop} : WpCall E pure base bar 85 args H Q ↔ frzWp E pure base bar c85 Q (frzAll bar H args) := wpcall_of rfl rfl fun _ _ => rfl
theorem call88 {pure : Bool} {base bar : Nat} {args : List AV} {H : Heap} {Q : AV → Heap → Prop} : WpCall E pure base bar 88 args H Q ↔ WpFun E pure base bar c88 args H Q := wpcall_raw rfl rfl fun _ _ => rfl
theorem call90 {pure : Bool} {base bar : Nat} {args : List AV} {H : Heap} {Q : AV → Heap → Prop} : WpCall E pure base bar 90 args H Q ↔ WpFun E pure base bar c90 args H Q := wpcall_raw rfl rfl fun _ _ => rfl
theorem call91 {pure : Bool} {base bar : Nat} {args : List AV} {H : Heap} {Q : AV → Heap → Prop} : WpCall E pure base bar 91 args H Q ↔ WpFun E pure base bar c91 args H Q := wpcall_raw rfl rfl fun _ _ => rfl
theorem call93 {pure : Bool} {base bar : Nat} {args : List AV} {H : Heap} {Q : AV → Heap → Prop} : WpCall E pure base bar 93 args H Q ↔ frzWp E pure base bar c93 Q (frzAll bar H args) := wpcall_of rfl rfl fun _ _ => rfl
theorem call94 {pure : Bool} {base bar : Nat} {args : List AV} {H : Heap} {Q : AV → Heap → Prop} : WpCall E pure base bar 94 args H Q ↔ frzWp E pure base bar c94 Q (frzAll bar H args) := wpcall_of rfl rfl fun _ _ => rfl
theorem call95 {pure : Bool} {base bar : Nat} {args : List AV} {H : Heap} {Q : AV → Heap → Prop} : WpCall E pure base bar 95 args H Q ↔ frzWp E pure base bar c95 Q (frzAll bar H args) := wpcall_of rfl rfl fun _ _ => rfl
theorem call96 {pure : Bool} {base bar : Nat} {args : List AV} {H : Heap} {Q : AV → Heap → Prop} : WpCall E pure base bar 96 args H Q ↔ WpFun E pure base bar c96 args H Q := wpcall_raw rfl rfl fun _ _ => rfl
theorem call97 {pure : Bool} {base bar : Nat} {args : List AV} {H : Heap} {Q : AV → Heap → Prop} : WpCall E pure base bar 97 args H Q ↔ frzWp E pure base bar c97 Q (frzAll bar H args) := wpcall_of rfl rfl fun _ _ => rfl
theorem call101 {pure : Bool} {base bar : Nat} {args : List AV} {H : Heap} {Q : AV → Heap → Prop} : WpCall E pure base bar 101 args H Q ↔ WpFun E pure base bar c101 args H Q := wpcall_raw rfl rfl fun _ _ => rfl
theorem call102 {pure : Bool} {base bar : Nat} {args : List AV} {H : Heap} {Q : AV → Heap → Prop} : WpCall E pure base bar 102 args H Q ↔ frzWp E pure base bar c102 Q (frzAll bar H args) := wpcall_of rfl rfl fun _ _ => rfl
theorem call103 {pure : Bool} {base bar : Nat} {args : List AV} {H : Heap} {Q : AV → Heap → Prop} : WpCall E pure base bar 103 args H Q ↔ frzWp E pure base bar c103 Q (frzAll bar H args) := wpcall_of rfl rfl fun _ _ => rfl
theorem call104 {pure : Bool} {base bar : Nat} {args : List AV} {H : Heap} {Q : AV → Heap → Prop} : WpCall E pure base bar 104 args H Q ↔ frzWp E pure base bar c104 Q (frzAll bar H args) := wpcall_of rfl rfl fun _ _ => rfl
theorem call105 {pure : Bool} {base bar : Nat} {args : List AV} {H : Heap} {Q : AV → Heap → Prop} : WpCall E pure base bar 105 args H Q ↔ frzWp E pure base bar c105 Q (frzAll bar H args) := wpcall_of rfl rfl fun _ _ => rfl
theorem call106 {pure : Bool} {base bar : Nat} {args : List AV} {H : Heap} {Q : AV → Heap → Prop} : WpCall E pure base bar 106 args H Q ↔ frzWp E pure base bar c106 Q (frzAll bar H args) := wpcall_of rfl rfl fun _ _ => rfl
theorem call107 {pure : Bool} {base bar : Nat} {args : List AV} {H : Heap} {Q : AV → Heap → Prop} : WpCall E pure base bar 107 args H Q ↔ frzWp E pure base bar c107 Q (frzAll bar H args) := wpcall_of rfl rfl fun _ _ => rfl
theorem call108 {pure : Bool} {base bar : Nat} {args : List AV} {H : Heap} {Q : AV → Heap → Prop} : WpCall E pure base bar 108 args H Q ↔ frzWp E pure base bar c108 Q (frzAll bar H args) := wpcall_of rfl rfl fun _ _ => rfl
theorem call109 {pure : Bool} {base bar : Nat} {args : List AV} {H : Heap} {Q : AV → Heap → Prop} : WpCall E pure base bar 109 args H Q ↔ WpFun E pure base bar c109 args H Q := wpcall_raw rfl rfl fun _ _ => rfl
theorem call110 {pure : Bool} {base bar : Nat} {args : List AV} {H : Heap} {Q : AV → Heap → Prop} : WpCall E pure base bar 110 args H Q ↔ frzWp E pure base bar c110 Q (frzAll bar H args) := wpcall_of rfl rfl fun _ _ => rfl
theorem call111 {pure : Bool} {base bar : Nat} {args : List AV} {H : Heap} {Q : AV → Heap → Prop} : WpCall E pure base bar 111 args H Q ↔ frzWp E pure base bar c111 Q (frzAll bar H args) := wpcall_of rfl rfl fun _ _ => rfl
theorem call114 {pure : Bool} {base bar : Nat} {args : List AV} {H : Heap} {Q : AV → Heap → Prop} : WpCall E pure base bar 114 args H Q ↔ frzWp E pure base bar c114 Q (frzAll bar H args) := wpcall_of rfl rfl fun _ _ => rfl
theorem call115 {pure : Bool} {base bar : Nat} {args : List AV} {H : Heap} {Q : AV → Heap → Prop} : WpCall E pure base bar 115 args H Q ↔ frzWp E pure base bar c115 Q (frzAll bar H args) := wpcall_of rfl rfl fun _ _ => rfl
theorem call116 {pure : Bool} {base bar : Nat} {args : List AV} {H : Heap} {Q : AV → Heap → Prop} : WpCall E pure base bar 116 args H Q ↔ frzWp E pure base bar c116 Q (frzAll bar H args) := wpcall_of rfl rfl fun _ _ => rfl
theorem call117 {pure : Bool} {base bar : Nat} {args : List AV} {H : Heap} {Q : AV → Heap → Prop} : WpCall E pure base bar 117 args H Q ↔ frzWp E pure base bar c117 Q (frzAll bar H args) := wpcall_of rfl rfl fun _ _ => rfl
theorem call120 {pure : Bool} {base bar : Nat} {args : List AV} {H : Heap} {Q : AV → Heap → Prop} : WpCall E pure base bar 120 args H Q ↔ WpFun E pure base bar c120 args H Q := wpcall_raw rfl rfl fun _ _ => rfl
theorem call123 {pure : Bool} {base bar : Nat} {args : List AV} {H : Heap} {Q : AV → Heap → Prop} : WpCall E pure base bar 123 args H Q ↔ WpFun E pure base bar c123 args H Q := wpcall_raw rfl rfl fun _ _ => rfl
theorem call124 {pure : Bool} {base bar : Nat} {args : List AV} {H : Heap} {Q : AV → Heap → Prop} : WpCall E pure base bar 124 args H Q ↔ WpFun E pure base bar c124 args H Q := wpcall_raw rfl rfl fun _ _ => rfl
theorem call125 {pure : Bool} {base bar : Nat} {args : List AV} {H : Heap} {Q : AV → Heap → Prop} : WpCall E pure base bar 125 args H Q ↔ WpFun E pure base bar c125 args H Q := wpcall_raw rfl rfl fun _ _ => rfl
theorem call126 {pure : Bool} {base bar : Nat} {args : List AV} {H : Heap} {Q : AV → Heap → Prop} : WpCall E pure base bar 126 args H Q ↔ WpFun E pure base bar c126 args H Q := wpcall_raw rfl rfl fun _ _ => rfl
theorem call127 {pure : Bool} {base bar : Nat} {args : List AV} {H : Heap} {Q : AV → Heap → Prop} : WpCall E pure base bar 127 args H Q ↔ WpFun E pure base bar c127 args H Q := wpcall_raw rfl rfl fun _ _ => rfl
theorem call128 {pure : Bool} {base bar : Nat} {args : List AV} {H : Heap} {Q : AV → Heap → Prop} : WpCall E pure base bar 128 args H Q ↔ frzWp E pure base bar c128 Q (frzAll bar H args) := wpcall_of rfl rfl fun _ _ => rfl
theorem call129 {pure : Bool} {base bar : Nat} {args : List AV} {H : Heap} {Q : AV → Heap → Prop} : WpCall E pure base bar 129 args H Q ↔ frzWp E pure base bar c129 Q (frzAll bar H args) := wpcall_of rfl rfl fun _ _ => rfl
theorem call130 {pure : Bool} {base bar : Nat} {args : List AV} {H : Heap} {Q : AV → Heap → Prop} : WpCall E pure base bar 130 args H Q ↔ WpFun E pure base bar c130 args H Q := wpcall_raw rfl rfl fun _ _ => rfl
theorem call132 {pure : Bool} {base bar : Nat} {args : List AV} {H : Heap} {Q : AV → Heap → Prop} : WpCall E pure base bar 132 args H Q ↔ frzWp E pure base bar c132 Q (frzAll bar H args) := wpcall_of rfl rfl fun _ _ => rfl
theorem call137 {pure : Bool} {base bar : Nat} {args : List AV} {H : Heap} {Q : AV → Heap → Prop} : WpCall E pure base bar 137 args H Q ↔ WpFun E pure base bar c137 args H Q := wpcall_raw rfl rfl fun _ _ => rfl
theorem call138 {pure : Bool} {base bar : Nat} {args : List AV} {H : Heap} {Q : AV → Heap → Prop} : WpCall E pure base bar 138 args H Q ↔ WpFun E pure base bar c138 args H Q := wpcall_raw rfl rfl fun _ _ => rfl
theorem call139 {pure : Bool} {base bar : Nat} {args : List AV} {H : Heap} {Q : AV → Heap → Prop} : WpCall E pure base bar 139 args H Q ↔ WpFun E pure base bar c139 args H Q := wpcall_raw rfl rfl fun _ _ => rfl
theorem call147 {pure : Bool} {base bar : Nat} {args : List AV} {H : Heap} {Q : AV → Heap → Prop} : WpCall E pure base bar 147 args H Q ↔ WpFun E pure base bar c147 args H Q := wpcall_raw rfl rfl fun _ _ => rfl
end Go.Proofs.YtihdlpeghlhnoaaGreatDoor.Code
end

