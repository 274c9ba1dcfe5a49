/-
  Part of the proofs about this chapter: calls.
-/
import Derived.Test.YtbkhffakhggdaaaDoorKn
import Derived.KernelRfl
set_option linter.all false
namespace Go.Proofs.YtbkhffakhggdaaaDoor.Code
open Go Go.Ab
theorem call3 {pure : Bool} {base bar : Nat} {args : List AV} {H : Heap} {Q : AV → Heap → Prop} : WpCall E pure base bar 3 args H Q ↔ frzWp E pure base bar c3 Q (frzAll bar H args) := wpcall_of rfl rfl fun _ _ => rfl
theorem call6 {pure : Bool} {base bar : Nat} {args : List AV} {H : Heap} {Q : AV → Heap → Prop} : WpCall E pure base bar 6 args H Q ↔ frzWp E pure base bar c6 Q (frzAll bar H args) := wpcall_of rfl rfl fun _ _ => rfl
theorem call12 {pure : Bool} {base bar : Nat} {args : List AV} {H : Heap} {Q : AV → Heap → Prop} : WpCall E pure base bar 12 args H Q ↔ frzWp E pure base bar c12 Q (frzAll bar H args) := wpcall_of rfl rfl fun _ _ => rfl
theorem call14 {pure : Bool} {base bar : Nat} {args : List AV} {H : Heap} {Q : AV → Heap → Prop} : WpCall E pure base bar 14 args H Q ↔ frzWp E pure base bar c14 Q (frzAll bar H args) := wpcall_of rfl rfl fun _ _ => rfl
theorem call16 {pure : Bool} {base bar : Nat} {args : List AV} {H : Heap} {Q : AV → Heap → Prop} : WpCall E pure base bar 16 args H Q ↔ frzWp E pure base bar c16 Q (frzAll bar H args) := wpcall_of rfl rfl fun _ _ => rfl
theorem call17 {pure : Bool} {base bar : Nat} {args : List AV} {H : Heap} {Q : AV → Heap → Prop} : WpCall E pure base bar 17 args H Q ↔ frzWp E pure base bar c17 Q (frzAll bar H args) := wpcall_of rfl rfl fun _ _ => rfl
theorem call18 {pure : Bool} {base bar : Nat} {args : List AV} {H : Heap} {Q : AV → Heap → Prop} : WpCall E pure base bar 18 args H Q ↔ frzWp E pure base bar c18 Q (frzAll bar H args) := wpcall_of rfl rfl fun _ _ => rfl
theorem call19 {pure : Bool} {base bar : Nat} {args : List AV} {H : Heap} {Q : AV → Heap → Prop} : WpCall E pure base bar 19 args H Q ↔ frzWp E pure base bar c19 Q (frzAll bar H args) := wpcall_of rfl rfl fun _ _ => rfl
theorem call20 {pure : Bool} {base bar : Nat} {args : List AV} {H : Heap} {Q : AV → Heap → Prop} : WpCall E pure base bar 20 args H Q ↔ frzWp E pure base bar c20 Q (frzAll bar H args) := wpcall_of rfl rfl fun _ _ => rfl
theorem call21 {pure : Bool} {base bar : Nat} {args : List AV} {H : Heap} {Q : AV → Heap → Prop} : WpCall E pure base bar 21 args H Q ↔ frzWp E pure base bar c21 Q (frzAll bar H args) := wpcall_of rfl rfl fun _ _ => rfl
theorem call23 {pure : Bool} {base bar : Nat} {args : List AV} {H : Heap} {Q : AV → Heap → Prop} : WpCall E pure base bar 23 args H Q ↔ frzWp E pure base bar c23 Q (frzAll bar H args) := wpcall_of rfl rfl fun _ _ => rfl
theorem call29 {pure : Bool} {base bar : Nat} {args : List AV} {H : Heap} {Q : AV → Heap → Prop} : WpCall E pure base bar 29 args H Q ↔ frzWp E pure base bar c29 Q (frzAll bar H args) := wpcall_of rfl rfl fun _ _ => rfl
theorem call30 {pure : Bool} {base bar : Nat} {args : List AV} {H : Heap} {Q : AV → Heap → Prop} : WpCall E pure base bar 30 args H Q ↔ frzWp E pure base bar c30 Q (frzAll bar H args) := wpcall_of rfl rfl fun _ _ => rfl
theorem call31 {pure : Bool} {base bar : Nat} {args : List AV} {H : Heap} {Q : AV → Heap → Prop} : WpCall E pure base bar 31 args H Q ↔ frzWp E pure base bar c31 Q (frzAll bar H args) := wpcall_of rfl rfl fun _ _ => rfl
theorem call33 {pure : Bool} {base bar : Nat} {args : List AV} {H : Heap} {Q : AV → Heap → Prop} : WpCall E pure base bar 33 args H Q ↔ frzWp E pure base bar c33 Q (frzAll bar H args) := wpcall_of rfl rfl fun _ _ => rfl
theorem call35 {pure : Bool} {base bar : Nat} {args : List AV} {H : Heap} {Q : AV → Heap → Prop} : WpCall E pure base bar 35 args H Q ↔ frzWp E pure base bar c35 Q (frzAll bar H args) := wpcall_of rfl rfl fun _ _ => rfl
theorem call37 {pure : Bool} {base bar : Nat} {args : List AV} {H : Heap} {Q : AV → Heap → Prop} : WpCall E pure base bar 37 args H Q ↔ frzWp E pure base bar c37 Q (frzAll bar H args) := wpcall_of rfl rfl fun _ _ => rfl
theorem call38 {pure : Bool} {base bar : Nat} {args : List AV} {H : Heap} {Q : AV → Heap → Prop} : WpCall E pure base bar 38 args H Q ↔ frzWp E pure base bar c38 Q (frzAll bar H args) := wpcall_of rfl rfl fun _ _ => rfl
theorem call39 {pure : Bool} {base bar : Nat} {args : List AV} {H : Heap} {Q : AV → Heap → Prop} : WpCall E pure base bar 39 args H Q ↔ frzWp E pure base bar c39 Q (frzAll bar H args) := wpcall_of rfl rfl fun _ _ => rfl
theorem call40 {pure : Bool} {base bar : Nat} {args : List AV} {H : Heap} {Q : AV → Heap → Prop} : WpCall E pure base bar 40 args H Q ↔ frzWp E pure base bar c40 Q (frzAll bar H args) := wpcall_of rfl rfl fun _ _ => rfl
theorem call41 {pure : Bool} {base bar : Nat} {args : List AV} {H : Heap} {Q : AV → Heap → Prop} : WpCall E pure base bar 41 args H Q ↔ frzWp E pure base bar c41 Q (frzAll bar H args) := wpcall_of rfl rfl fun _ _ => rfl
theorem call42 {pure : Bool} {base bar : Nat} {args : List AV} {H : Heap} {Q : AV → Heap → Prop} : WpCall E pure base bar 42 args H Q ↔ frzWp E pure base bar c42 Q (frzAll bar H args) := wpcall_of rfl rfl fun _ _ => rfl
theorem call43 {pure : Bool} {base bar : Nat} {args : List AV} {H : Heap} {Q : AV → Heap → Prop} : WpCall E pure base bar 43 args H Q ↔ frzWp E pure base bar c43 Q (frzAll bar H args) := wpcall_of rfl rfl fun _ _ => rfl
theorem call44 {pure : Bool} {base bar : Nat} {args : List AV} {H : Heap} {Q : AV → Heap → Prop} : WpCall E pure base bar 44 args H Q ↔ frzWp E pure base bar c44 Q (frzAll bar H args) := wpcall_of rfl rfl fun _ _ => rfl
theorem call45 {pure : Bool} {base bar : Nat} {args : List AV} {H : Heap} {Q : AV → Heap → Prop} : WpCall E pure base bar 45 args H Q ↔ frzWp E pure base bar c45 Q (frzAll bar H args) := wpcall_of rfl rfl fun _ _ => rfl
theorem call46 {pure : Bool} {base bar : Nat} {args : List AV} {H : Heap} {Q : AV → Heap → Prop} : WpCall E pure base bar 46 args H Q ↔ frzWp E pure base bar c46 Q (frzAll bar H args) := wpcall_of rfl rfl fun _ _ => rfl
theorem call49 {pure : Bool} {base bar : Nat} {args : List AV} {H : Heap} {Q : AV → Heap → Prop} : WpCall E pure base bar 49 args H Q ↔ frzWp E pure base bar c49 Q (frzAll bar H args) := wpcall_of rfl rfl fun _ _ => rfl
theorem call50 {pure : Bool} {base bar : Nat} {args : List AV} {H : Heap} {Q : AV → Heap → Prop} : WpCall E pure base bar 50 args H Q ↔ frzWp E pure base bar c50 Q (frzAll bar H args) := wpcall_of rfl rfl fun _ _ => rfl
theorem call51 {pure : Bool} {base bar : Nat} {args : List AV} {H : Heap} {Q : AV → Heap → Prop} : WpCall E pure base bar 51 args H Q ↔ frzWp E pure base bar c51 Q (frzAll bar H args) := wpcall_of rfl rfl fun _ _ => rfl
theorem call52 {pure : Bool} {base bar : Nat} {args : List AV} {H : Heap} {Q : AV → Heap → Prop} : WpCall E pure base bar 52 args H Q ↔ frzWp E pure base bar c52 Q (frzAll bar H args) := wpcall_of rfl rfl fun _ _ => rfl
theorem call56 {pure : Bool} {base bar : Nat} {args : List AV} {H : Heap} {Q : AV → Heap → Prop} : WpCall E pure base bar 56 args H Q ↔ frzWp E pure base bar c56 Q (frzAll bar H args) := wpcall_of rfl rfl fun _ _ => rfl
theorem call57 {pure : Bool} {base bar : Nat} {args : List AV} {H : Heap} {Q : AV → Heap → Prop} : WpCall E pure base bar 57 args H Q ↔ frzWp E pure base bar c57 Q (frzAll bar H args) := wpcall_of rfl rfl fun _ _ => rfl
theorem call58 {pure : Bool} {base bar : Nat} {args : List AV} {H : Heap} {Q : AV → Heap → Prop} : WpCall E pure base bar 58 args H Q ↔ frzWp E pure base bar c58 Q (frzAll bar H args) := wpcall_of rfl rfl fun _ _ => rfl
theorem call59 {pure : Bool} {base bar : Nat} {args : List AV} {H : Heap} {Q : AV → Heap → Prop} : WpCall E pure base bar 59 args H Q ↔ frzWp E pure base bar c59 Q (frzAll bar H args) := wpcall_of rfl rfl fun _ _ => rfl
theorem call60 {pure : Bool} {base bar : Nat} {args : List AV} {H : Heap} {Q : AV → Heap → Prop} : WpCall E pure base bar 60 args H Q ↔ frzWp E pure base bar c60 Q (frzAll bar H args) := wpcall_of rfl rfl fun _ _ => rfl
theorem call61 {pure : Bool} {base bar : Nat} {args : List AV} {H : Heap} {Q : AV → Heap → Prop} : WpCall E pure base bar 61 args H Q ↔ frzWp E pure base bar c61 Q (frzAll bar H args) := wpcall_of rfl rfl fun _ _ => rfl
theorem call62 {pure : Bool} {base bar : Nat} {args : List AV} {H : Heap} {Q : AV → Heap → Prop} : WpCall E pure base bar 62 args H Q ↔ frzWp E pure base bar c62 Q (frzAll bar H args) := wpcall_of rfl rfl fun _ _ => rfl
theorem call67 {pure : Bool} {base bar : Nat} {args : List AV} {H : Heap} {Q : AV → Heap → Prop} : WpCall E pure base bar 67 args H Q ↔ frzWp E pure base bar c67 Q (frzAll bar H args) := wpcall_of rfl rfl fun _ _ => rfl
theorem call68 {pure : Bool} {base bar : Nat} {args : List AV} {H : Heap} {Q : AV → Heap → Prop} : WpCall E pure base bar 68 args H Q ↔ frzWp E pure base bar c68 Q (frzAll bar H args) := wpcall_of rfl rfl fun _ _ => rfl
theorem call69 {pure : Bool} {base bar : Nat} {args : List AV} {H : Heap} {Q : AV → Heap → Prop} : WpCall E pure base bar 69 args H Q ↔ frzWp E pure base bar c69 Q (frzAll bar H args) := wpcall_of rfl rfl fun _ _ => rfl
theorem call70 {pure : Bool} {base bar : Nat} {args : List AV} {H : Heap} {Q : AV → Heap → Prop} : WpCall E pure base bar 70 args H Q ↔ frzWp E pure base bar c70 Q (frzAll bar H args) := wpcall_of rfl rfl fun _ _ => rfl
theorem call71 {pure : Bool} {base bar : Nat} {args : List AV} {H : Heap} {Q : AV → Heap → Prop} : WpCall E pure base bar 71 args H Q ↔ frzWp E pure base bar c71 Q (frzAll bar H args) := wpcall_of rfl rfl fun _ _ => rfl
theorem call72 {pure : Bool} {base bar : Nat} {args : List AV} {H : Heap} {Q : AV → Heap → Prop} : WpCall E pure base bar 72 args H Q ↔ frzWp E pure base bar c72 Q (frzAll bar H args) := wpcall_of rfl rfl fun _ _ => rfl
theorem call73 {pure : Bool} {base bar : Nat} {args : List AV} {H : Heap} {Q : AV → Heap → Prop} : WpCall E pure base bar 73 args H Q ↔ frzWp E pure base bar c73 Q (frzAll bar H args) := wpcall_of rfl rfl fun _ _ => rfl
theorem call74 {pure : Bool} {base bar : Nat} {args : List AV} {H : Heap} {Q : AV → Heap → Prop} : WpCall E pure base bar 74 args H Q ↔ frzWp E pure base bar c74 Q (frzAll bar H args) := wpcall_of rfl rfl fun _ _ => rfl
theorem call75 {pure : Bool} {base bar : Nat} {args : List AV} {H : Heap} {Q : AV → Heap → Prop} : WpCall E pure base bar 75 args H Q ↔ frzWp E pure base bar c75 Q (frzAll bar H args) := wpcall_of rfl rfl fun _ _ => rfl
theorem call76 {pure : Bool} {base bar : Nat} {args : List AV} {H : Heap} {Q : AV → Heap → Prop} : WpCall E pure base bar 76 args H Q ↔ frzWp E pure base bar c76 Q (frzAll bar H args) := wpcall_of rfl rfl fun _ _ => rfl
theorem call77 {pure : Bool} {base bar : Nat} {args : List AV} {H : Heap} {Q : AV → Heap → Prop} : WpCall E pure base bar 77 args H Q ↔ frzWp E pure base bar c77 Q (frzAll bar H args) := wpcall_of rfl rfl fun _ _ => rfl
theorem call78 {pure : Bool} {base bar : Nat} {args : List AV} {H : Heap} {Q : AV → Heap → Prop} : WpCall E pure base bar 78 args H Q ↔ frzWp E pure base bar c78 Q (frzAll bar H args) := wpcall_of rfl rfl fun _ _ => rfl
theorem call79 {pure : Bool} {base bar : Nat} {args : List AV} {H : Heap} {Q : AV → Heap → Prop} : WpCall E pure base bar 79 args H Q ↔ frzWp E pure base bar c79 Q (frzAll bar H args) := wpcall_of rfl rfl fun _ _ => rfl
theorem call80 {pure : Bool} {base bar : Nat} {args : List AV} {H : Heap} {Q : AV → Heap → Prop} : WpCall E pure base bar 80 args H Q ↔ frzWp E pure base bar c80 Q (frzAll bar H args) := wpcall_of rfl rfl fun _ _ => rfl
theorem call81 {pure : Bool} {base bar : Nat} {args : List AV} {H : Heap} {Q : AV → Heap → Prop} : WpCall E pure base bar 81 args H Q ↔ frzWp E pure base bar c81 Q (frzAll bar H args) := wpcall_of rfl rfl fun _ _ => rfl
theorem call82 {pure : Bool} {base bar : Nat} {args : List AV} {H : Heap} {Q : AV → Heap → Prop} : WpCall E pure base bar 82 args H Q ↔ WpFun E pure base bar c82 args H Q := wpcall_raw rfl rfl fun _ _ => rfl
theorem call83 {pure : Bool} {base bar : Nat} {args : List AV} {H : Heap} {Q : AV → Heap → Prop} : WpCall E pure base bar 83 args H Q ↔ frzWp E pure base bar c83 Q (frzAll bar H args) := wpcall_of rfl rfl fun _ _ => rfl
theorem call84 {pure : Bool} {base bar : Nat} {args : List AV} {H : Heap} {Q : AV → Heap → Prop} : WpCall E pure base bar 84 args H Q ↔ frzWp E pure base bar c84 Q (frzAll bar H args) := wpcall_of rfl rfl fun _ _ => rfl
theorem call86 {pure : Bool} {base bar : Nat} {args : List AV} {H : Heap} {Q : AV → Heap → Prop} : WpCall E pure base bar 86 args H Q ↔ frzWp E pure base bar c86 Q (frzAll bar H args) := wpcall_of rfl rfl fun _ _ => rfl
theorem call89 {pure : Bool} {base bar : Nat} {args : List AV} {H : Heap} {Q : AV → Heap → Prop} : WpCall E pure base bar 89 args H Q ↔ frzWp E pure base bar c89 Q (frzAll bar H args) := wpcall_of rfl rfl fun _ _ => rfl
theorem call90 {pure : Bool} {base bar : Nat} {args : List AV} {H : Heap} {Q : AV → Heap → Prop} : WpCall E pure base bar 90 args H Q ↔ frzWp E pure base bar c90 Q (frzAll bar H args) := wpcall_of rfl rfl fun _ _ => rfl
theorem call91 {pure : Bool} {base bar : Nat} {args : List AV} {H : Heap} {Q : AV → Heap → Prop} : WpCall E pure base bar 91 args H Q ↔ frzWp E pure base bar c91 Q (frzAll bar H args) := wpcall_of rfl rfl fun _ _ => rfl
theorem call92 {pure : Bool} {base bar : Nat} {args : List AV} {H : Heap} {Q : AV → Heap → Prop} : WpCall E pure base bar 92 args H Q ↔ frzWp E pure base bar c92 Q (frzAll bar H args) := wpcall_of rfl rfl fun _ _ => rfl
theorem call93 {pure : Bool} {base bar : Nat} {args : List AV} {H : Heap} {Q : AV → Heap → Prop} : WpCall E pure base bar 93 args H Q ↔ frzWp E pure base bar c93 Q (frzAll bar H args) := wpcall_of rfl rfl fun _ _ => rfl
theorem call94 {pure : Bool} {base bar : Nat} {args : List AV} {H : Heap} {Q : AV → Heap → Prop} : WpCall E pure base bar 94 args H Q ↔ frzWp E pure base bar c94 Q (frzAll bar H args) := wpcall_of rfl rfl fun _ _ => rfl
theorem call96 {pure : Bool} {base bar : Nat} {args : List AV} {H : Heap} {Q : AV → Heap → Prop} : WpCall E pure base bar 96 args H Q ↔ frzWp E pure base bar c96 Q (frzAll bar H args) := wpcall_of rfl rfl fun _ _ => rfl
theorem call97 {pure : Bool} {base bar : Nat} {args : List AV} {H : Heap} {Q : AV → Heap → Prop} : WpCall E pure base bar 97 args H Q ↔ frzWp E pure base bar c97 Q (frzAll bar H args) := wpcall_of rfl rfl fun _ _ => rfl
theorem call98 {pure : Bool} {base bar : Nat} {args : List AV} {H : Heap} {Q : AV → Heap → Prop} : WpCall E pure base bar 98 args H Q ↔ frzWp E pure base bar c98 Q (frzAll bar H args) := wpcall_of rfl rfl fun _ _ => rfl
theorem call99 {pure : Bool} {base bar : Nat} {args : List AV} {H : Heap} {Q : AV → Heap → Prop} : WpCall E pure base bar 99 args H Q ↔ frzWp E pure base bar c99 Q (frzAll bar H args) := wpcall_of rfl rfl fun _ _ => rfl
theorem call100 {pure : Bool} {base bar : Nat} {args : List AV} {H : Heap} {Q : AV → Heap → Prop} : WpCall E pure base bar 100 args H Q ↔ frzWp E pure base bar c100 Q (frzAll bar H args) := wpcall_of rfl rfl fun _ _ => rfl
theorem call102 {pure : Bool} {base bar : Nat} {args : List AV} {H : Heap} {Q : AV → Heap → Prop} : WpCall E pure base bar 102 args H Q ↔ frzWp E pure base bar c102 Q (frzAll bar H args) := wpcall_of rfl rfl fun _ _ => rfl
theorem call103 {pure : Bool} {base bar : Nat} {args : List AV} {H : Heap} {Q : AV → Heap → Prop} : WpCall E pure base bar 103 args H Q ↔ WpFun E pure base bar c103 args H Q := wpcall_raw rfl rfl fun _ _ => rfl
theorem call104 {pure : Bool} {base bar : Nat} {args : List AV} {H : Heap} {Q : AV → Heap → Prop} : WpCall E pure base bar 104 args H Q ↔ WpFun E pure base bar c104 args H Q := wpcall_raw rfl rfl fun _ _ => rfl
theorem call105 {pure : Bool} {base bar : Nat} {args : List AV} {H : Heap} {Q : AV → Heap → Prop} : WpCall E pure base bar 105 args H Q ↔ frzWp E pure base bar c105 Q (frzAll bar H args) := wpcall_of rfl rfl fun _ _ => rfl
theorem call106 {pure : Bool} {base bar : Nat} {args : List AV} {H : Heap} {Q : AV → Heap → Prop} : WpCall E pure base bar 106 args H Q ↔ frzWp E pure base bar c106 Q (frzAll bar H args) := wpcall_of rfl rfl fun _ _ => rfl
theorem call107 {pure : Bool} {base bar : Nat} {args : List AV} {H : Heap} {Q : AV → Heap → Prop} : WpCall E pure base bar 107 args H Q ↔ WpFun E pure base bar c107 args H Q := wpcall_raw rfl rfl fun _ _ => rfl
theorem call108 {pure : Bool} {base bar : Nat} {args : List AV} {H : Heap} {Q : AV → Heap → Prop} : WpCall E pure base bar 108 args H Q ↔ frzWp E pure base bar c108 Q (frzAll bar H args) := wpcall_of rfl rfl fun _ _ => rfl
theorem call109 {pure : Bool} {base bar : Nat} {args : List AV} {H : Heap} {Q : AV → Heap → Prop} : WpCall E pure base bar 109 args H Q ↔ frzWp E pure base bar c109 Q (frzAll bar H args) := wpcall_of rfl rfl fun _ _ => rfl
theorem call110 {pure : Bool} {base bar : Nat} {args : List AV} {H : Heap} {Q : AV → Heap → Prop} : WpCall E pure base bar 110 args H Q ↔ frzWp E pure base bar c110 Q (frzAll bar H args) := wpcall_of rfl rfl fun _ _ => rfl
theorem call111 {pure : Bool} {base bar : Nat} {args : List AV} {H : Heap} {Q : AV → Heap → Prop} : WpCall E pure base bar 111 args H Q ↔ frzWp E pure base bar c111 Q (frzAll bar H args) := wpcall_of rfl rfl fun _ _ => rfl
theorem call112 {pure : Bool} {base bar : Nat} {args : List AV} {H : Heap} {Q : AV → Heap → Prop} : WpCall E pure base bar 112 args H Q ↔ frzWp E pure base bar c112 Q (frzAll bar H args) := wpcall_of rfl rfl fun _ _ => rfl
theorem call113 {pure : Bool} {base bar : Nat} {args : List AV} {H : Heap} {Q : AV → Heap → Prop} : WpCall E pure base bar 113 args H Q ↔ frzWp E pure base bar c113 Q (frzAll bar H args) := wpcall_of rfl rfl fun _ _ => rfl
theorem call114 {pure : Bool} {base bar : Nat} {args : List AV} {H : Heap} {Q : AV → Heap → Prop} : WpCall E pure base bar 114 args H Q ↔ WpFun E pure base bar c114 args H Q := wpcall_raw rfl rfl fun _ _ => rfl
theorem call115 {pure : Bool} {base bar : Nat} {args : List AV} {H : Heap} {Q : AV → Heap → Prop} : WpCall E pure base bar 115 args H Q ↔ frzWp E pure base bar c115 Q (frzAll bar H args) := wpcall_of rfl rfl fun _ _ => rfl
theorem call116 {pure : Bool} {base bar : Nat} {args : List AV} {H : Heap} {Q : AV → Heap → Prop} : WpCall E pure base bar 116 args H Q ↔ frzWp E pure base bar c116 Q (frzAll bar H args) := wpcall_of rfl rfl fun _ _ => rfl
theorem call117 {pure : Bool} {base bar : Nat} {args : List AV} {H : Heap} {Q : AV → Heap → Prop} : WpCall E pure base bar 117 args H Q ↔ WpFun E pure base bar c117 args H Q := wpcall_raw rfl rfl fun _ _ => rfl
theorem call118 {pure : Bool} {base bar : Nat} {args : List AV} {H : Heap} {Q : AV → Heap → Prop} : WpCall E pure base bar 118 args H Q ↔ WpFun E pure base bar c118 args H Q := wpcall_raw rfl rfl fun _ _ => rfl
theorem call119 {pure : Bool} {base bar : Nat} {args : List AV} {H : Heap} {Q : AV → Heap → Prop} : WpCall E pure base bar 119 args H Q ↔ WpFun E pure base bar c119 args H Q := wpcall_raw rfl rfl fun _ _ => rfl
theorem call120 {pure : Bool} {base bar : Nat} {args : List AV} {H : Heap} {Q : AV → Heap → Prop} : WpCall E pure base bar 120 args H Q ↔ WpFun E pure base bar c120 args H Q := wpcall_raw rfl rfl fun _ _ => rfl
theorem call121 {pure : Bool} {base bar : Nat} {args : List AV} {H : Heap} {Q : AV → Heap → Prop} : WpCall E pure base bar 121 args H Q ↔ WpFun E pure base bar c121 args H Q := wpcall_raw rfl rfl fun _ _ => rfl
theorem call122 {pure : Bool} {base bar : Nat} {args : List AV} {H : Heap} {Q : AV → Heap → Prop} : WpCall E pure base bar 122 args H Q ↔ WpFun E pure base bar c122 args H Q := wpcall_raw rfl rfl fun _ _ => rfl
theorem call123 {pure : Bool} {base bar : Nat} {args : List AV} {H : Heap} {Q : AV → Heap → Prop} : WpCall E pure base bar 123 args H Q ↔ WpFun E pure base bar c123 args H Q := wpcall_raw rfl rfl fun _ _ => rfl
theorem call124 {pure : Bool} {base bar : Nat} {args : List AV} {H : Heap} {Q : AV → Heap → Prop} : WpCall E pure base bar 124 args H Q ↔ WpFun E pure base bar c124 args H Q := wpcall_raw rfl rfl fun _ _ => rfl
theorem call125 {pure : Bool} {base bar : Nat} {args : List AV} {H : Heap} {Q : AV → Heap → Prop} : WpCall E pure base bar 125 args H Q ↔ frzWp E pure base bar c125 Q (frzAll bar H args) := wpcall_of rfl rfl fun _ _ => rfl
theorem call126 {pure : Bool} {base bar : Nat} {args : List AV} {H : Heap} {Q : AV → Heap → Prop} : WpCall E pure base bar 126 args H Q ↔ frzWp E pure base bar c126 Q (frzAll bar H args) := wpcall_of rfl rfl fun _ _ => rfl
theorem call127 {pure : Bool} {base bar : Nat} {args : List AV} {H : Heap} {Q : AV → Heap → Prop} : WpCall E pure base bar 127 args H Q ↔ WpFun E pure base bar c127 args H Q := wpcall_raw rfl rfl fun _ _ => rfl
theorem call128 {pure : Bool} {base bar : Nat} {args : List AV} {H : Heap} {Q : AV → Heap → Prop} : WpCall E pure base bar 128 args H Q ↔ WpFun E pure base bar c128 args H Q := wpcall_raw rfl rfl fun _ _ => rfl
theorem call129 {pure : Bool} {base bar : Nat} {args : List AV} {H : Heap} {Q : AV → Heap → Prop} : WpCall E pure base bar 129 args H Q ↔ WpFun E pure base bar c129 args H Q := wpcall_raw rfl rfl fun _ _ => rfl
theorem call130 {pure : Bool} {base bar : Nat} {args : List AV} {H : Heap} {Q : AV → Heap → Prop} : WpCall E pure base bar 130 args H Q ↔ WpFun E pure base bar c130 args H Q := wpcall_raw rfl rfl fun _ _ => rfl
theorem call131 {pure : Bool} {base bar : Nat} {args : List AV} {H : Heap} {Q : AV → Heap → Prop} : WpCall E pure base bar 131 args H Q ↔ WpFun E pure base bar c131 args H Q := wpcall_raw rfl rfl fun _ _ => rfl
theorem call132 {pure : Bool} {base bar : Nat} {args : List AV} {H : Heap} {Q : AV → Heap → Prop} : WpCall E pure base bar 132 args H Q ↔ WpFun E pure base bar c132 args H Q := wpcall_raw rfl rfl fun _ _ => rfl
theorem call133 {pure : Bool} {base bar : Nat} {args : List AV} {H : Heap} {Q : AV → Heap → Prop} : WpCall E pure base bar 133 args H Q ↔ WpFun E pure base bar c133 args H Q := wpcall_raw rfl rfl fun _ _ => rfl
theorem call134 {pure : Bool} {base bar : Nat} {args : List AV} {H : Heap} {Q : AV → Heap → Prop} : WpCall E pure base bar 134 args H Q ↔ WpFun E pure base bar c134 args H Q := wpcall_raw rfl rfl fun _ _ => rfl
theorem call135 {pure : Bool} {base bar : Nat} {args : List AV} {H : Heap} {Q : AV → Heap → Prop} : WpCall E pure base bar 135 args H Q ↔ WpFun E pure base bar c135 args H Q := wpcall_raw rfl rfl fun _ _ => rfl
theorem call136 {pure : Bool} {base bar : Nat} {args : List AV} {H : Heap} {Q : AV → Heap → Prop} : WpCall E pure base bar 136 args H Q ↔ frzWp E pure base bar c136 Q (frzAll bar H args) := wpcall_of rfl rfl fun _ _ => rfl
theorem call137 {pure : Bool} {base bar : Nat} {args : List AV} {H : Heap} {Q : AV → Heap → Prop} : WpCall E pure base bar 137 args H Q ↔ WpFun E pure base bar c137 args H Q := wpcall_raw rfl rfl fun _ _ => rfl
theorem call138 {pure : Bool} {base bar : Nat} {args : List AV} {H : Heap} {Q : AV → Heap → Prop} : WpCall E pure base bar 138 args H Q ↔ WpFun E pure base bar c138 args H Q := wpcall_raw rfl rfl fun _ _ => rfl
theorem call139 {pure : Bool} {base bar : Nat} {args : List AV} {H : Heap} {Q : AV → Heap → Prop} : WpCall E pure base bar 139 args H Q ↔ WpFun E pure base bar c139 args H Q := wpcall_raw rfl rfl fun _ _ => rfl
theorem call140 {pure : Bool} {base bar : Nat} {args : List AV} {H : Heap} {Q : AV → Heap → Prop} : WpCall E pure base bar 140 args H Q ↔ WpFun E pure base bar c140 args H Q := wpcall_raw rfl rfl fun _ _ => rfl
theorem call141 {pure : Bool} {base bar : Nat} {args : List AV} {H : Heap} {Q : AV → Heap → Prop} : WpCall E pure base bar 141 args H Q ↔ WpFun E pure base bar c141 args H Q := wpcall_raw rfl rfl fun _ _ => rfl
theorem call142 {pure : Bool} {base bar : Nat} {args : List AV} {H : Heap} {Q : AV → Heap → Prop} : WpCall E pure base bar 142 args H Q ↔ WpFun E pure base bar c142 args H Q := wpcall_raw rfl rfl fun _ _ => rfl
theorem call143 {pure : Bool} {base bar : Nat} {args : List AV} {H : Heap} {Q : AV → Heap → Prop} : WpCall E pure base bar 143 args H Q ↔ WpFun E pure base bar c143 args H Q := wpcall_raw rfl rfl fun _ _ => rfl
theorem call144 {pure : Bool} {base bar : Nat} {args : List AV} {H : Heap} {Q : AV → Heap → Prop} : WpCall E pure base bar 144 args H Q ↔ WpFun E pure base bar c144 args H Q := wpcall_raw rfl rfl fun _ _ => rfl
section
variable {pure : Bool} {base bar : Nat} {H : Heap} {Q : AV → Heap → Prop}
theorem call15 : WpCall E pure base bar 15 [] H Q ↔ Q (.bool true) H := wpcall_known rfl rfl rfl
theorem call47 {x : Nat} (hx : x < 64) : WpCall E pure base bar 47 [.int .i64 (x : Int)] H Q ↔ Q (dy x) H := wpcall_known rfl rfl (by
  show (bif Nat.blt x 64 then K1 (dy x) else none) = _
  rw [show Nat.blt x 64 = true by rw [Nat.blt_eq]; exact hx]; rfl)
theorem call85 {n : Nat} (h1 : 1 ≤ n) (h6 : n ≤ 6) : WpCall E pure base bar 85 [.int .i64 (n : Int), .nils] H Q ↔ Q (al n) H := wpcall_known rfl rfl (by
  show (bif in6 n then K1 (al n) else none) = _
  rw [in6_iff.2 ⟨h1, h6⟩]; rfl)
theorem call88 {n r : Nat} (h1 : 1 ≤ n) (h6 : n ≤ 6) (hr : r ≤ n) : WpCall E pure base bar 88 [.int .i64 (n : Int), .int .i64 (r : Int)] H Q ↔ Q (sz n r) H := wpcall_known rfl rfl (by
  show (bif in6 n && Nat.ble r n then K1 (sz n r) else none) = _
  rw [in6_iff.2 ⟨h1, h6⟩, show Nat.ble r n = true by rw [Nat.ble_eq]; exact hr]; rfl)
theorem call87 {n r : Nat} (h1 : 1 ≤ n) (h6 : n ≤ 6) (hr : r ≤ n) : WpCall E pure base bar 87 [.int .i64 (n : Int), .int .i64 (r : Int)] H Q ↔ Q (.int .i64 (chS n r : Int)) H := wpcall_known rfl rfl (by
  show (bif in6 n && Nat.ble r n then K1 _ else none) = _
  rw [in6_iff.2 ⟨h1, h6⟩, show Nat.ble r n = true by rw [Nat.ble_eq]; exact hr]; rfl)
theorem call65 {n : Nat} (h6 : n ≤ 6) : WpCall E pure base bar 65 [.int .i64 (n : Int)] H Q ↔ Q (.int .i64 (fac n : Int)) H := wpcall_known rfl rfl (by
  show (bif Nat.ble n 6 then K1 _ else none) = _
  rw [show Nat.ble n 6 = true by rw [Nat.ble_eq]; exact h6]; rfl)
theorem call27 {n : Nat} (h1 : 1 ≤ n) (h6 : n ≤ 6) : WpCall E pure base bar 27 [.int .i64 (n : Int)] H Q ↔ Q (.tup [.int .i64 (chS n (n / 2) : Int), .int .i64 0]) H := wpcall_known rfl rfl (by
  show (bif in6 n then K1 _ else none) = _
  rw [in6_iff.2 ⟨h1, h6⟩]; rfl)
theorem call27o {n : Int} (h : ¬ (1 ≤ n ∧ n ≤ 6)) : WpCall E pure base bar 27 [.int .i64 n] H Q ↔ frzWp E pure base bar c27 Q (some ([.int .i64 n], H)) := by
  refine wpcall_at rfl rfl ?_
  cases n with
  | ofNat n =>
    show (bif in6 n then K1 _ else none) = none
    cases hb : in6 n
    · rfl
    · exact (h (by have := in6_iff.1 hb; simp only [Int.ofNat_eq_natCast]; omega)).elim
  | negSucc n => rfl
theorem call25 {n : Nat} (h1 : 1 ≤ n) (h6 : n ≤ 6) : WpCall E pure base bar 25 [.int .i64 (n : Int)] H Q ↔ Q (w25 n) H := wpcall_known rfl rfl (by
  show (bif in6 n then K1 _ else none) = _
  rw [in6_iff.2 ⟨h1, h6⟩]; rfl)
theorem call25o {n : Int} (h : ¬ (1 ≤ n ∧ n ≤ 6)) : WpCall E pure base bar 25 [.int .i64 n] H Q ↔ frzWp E pure base bar c25 Q (some ([.int .i64 n], H)) := by
  refine wpcall_at rfl rfl ?_
  cases n with
  | ofNat n =>
    show (bif in6 n then K1 _ else none) = none
    cases hb : in6 n
    · rfl
    · exact (h (by have := in6_iff.1 hb; simp only [Int.ofNat_eq_natCast]; omega)).elim
  | negSucc n => rfl
theorem call26 {n : Nat} (h1 : 1 ≤ n) (h6 : n ≤ 6) : WpCall E pure base bar 26 [.int .i64 (n : Int)] H Q ↔ Q (w26 n) H := wpcall_known rfl rfl (by
  show (bif in6 n then K1 _ else none) = _
  rw [in6_iff.2 ⟨h1, h6⟩]; rfl)
theorem call26o {n : Int} (h : ¬ (1 ≤ n ∧ n ≤ 6)) : WpCall E pure base bar 26 [.int .i64 n] H Q ↔ frzWp E pure base bar c26 Q (some ([.int .i64 n], H)) := by
  refine wpcall_at rfl rfl ?_
  cases n with
  | ofNat n =>
    show (bif in6 n then K1 _ else none) = none
    cases hb : in6 n
    · rfl
    · exact (h (by have := in6_iff.1 hb; simp only [Int.ofNat_eq_natCast]; omega)).elim
  | negSucc n => rfl
end
end Go.Proofs.YtbkhffakhggdaaaDoor.Code
