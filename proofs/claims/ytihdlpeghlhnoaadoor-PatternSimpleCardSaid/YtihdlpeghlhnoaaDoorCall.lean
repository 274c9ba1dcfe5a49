/-
  The environment of the contracts: what works is known; what each call does.
-/
import Derived.Test.YtihdlpeghlhnoaaDoorAbWs
import Derived.Test.YtihdlpeghlhnoaaDoorWorks
set_option linter.all false
section
namespace Go.Proofs.YtihdlpeghlhnoaaDoor.Code
open Go Go.Ab
def E : Env := { funs := env.funs, known := knownT [weTop] }
theorem knowOK : KnownOK Tryd.prog E := knownT_ok rfl (fun p hp => by rw [List.mem_singleton] at hp; subst hp; exact wkTop)
theorem call3 {pure : Bool} {base bar : Nat} {args : List AV} {H : Heap} {Q : AV → Heap → Prop} : WpCall E pure base bar 3 args H Q ↔ frzWp E pure base bar c3 Q (frzAll bar H args) := wpcall_of rfl rfl fun _ _ => rfl
theorem call4 {pure : Bool} {base bar : Nat} {args : List AV} {H : Heap} {Q : AV → Heap → Prop} : WpCall E pure base bar 4 args H Q ↔ frzWp E pure base bar c4 Q (frzAll bar H args) := wpcall_of rfl rfl fun _ _ => rfl
theorem call5 {pure : Bool} {base bar : Nat} {args : List AV} {H : Heap} {Q : AV → Heap → Prop} : WpCall E pure base bar 5 args H Q ↔ frzWp E pure base bar c5 Q (frzAll bar H args) := wpcall_of rfl rfl fun _ _ => rfl
theorem call6 {pure : Bool} {base bar : Nat} {args : List AV} {H : Heap} {Q : AV → Heap → Prop} : WpCall E pure base bar 6 args H Q ↔ frzWp E pure base bar c6 Q (frzAll bar H args) := wpcall_of rfl rfl fun _ _ => rfl
theorem call7 {pure : Bool} {base bar : Nat} {H : Heap} {Q : AV → Heap → Prop} : WpCall E pure base bar 7 [] H Q ↔ Q (.bool true) H := wpcall_known rfl rfl rfl
theorem call8 {pure : Bool} {base bar : Nat} {args : List AV} {H : Heap} {Q : AV → Heap → Prop} : WpCall E pure base bar 8 args H Q ↔ frzWp E pure base bar c8 Q (frzAll bar H args) := wpcall_of rfl rfl fun _ _ => rfl
theorem call9 {pure : Bool} {base bar : Nat} {args : List AV} {H : Heap} {Q : AV → Heap → Prop} : WpCall E pure base bar 9 args H Q ↔ frzWp E pure base bar c9 Q (frzAll bar H args) := wpcall_of rfl rfl fun _ _ => rfl
theorem call10 {pure : Bool} {base bar : Nat} {args : List AV} {H : Heap} {Q : AV → Heap → Prop} : WpCall E pure base bar 10 args H Q ↔ frzWp E pure base bar c10 Q (frzAll bar H args) := wpcall_of rfl rfl fun _ _ => rfl
theorem call11 {pure : Bool} {base bar : Nat} {args : List AV} {H : Heap} {Q : AV → Heap → Prop} : WpCall E pure base bar 11 args H Q ↔ frzWp E pure base bar c11 Q (frzAll bar H args) := wpcall_of rfl rfl fun _ _ => rfl
theorem call12 {pure : Bool} {base bar : Nat} {args : List AV} {H : Heap} {Q : AV → Heap → Prop} : WpCall E pure base bar 12 args H Q ↔ frzWp E pure base bar c12 Q (frzAll bar H args) := wpcall_of rfl rfl fun _ _ => rfl
theorem call13 {pure : Bool} {base bar : Nat} {args : List AV} {H : Heap} {Q : AV → Heap → Prop} : WpCall E pure base bar 13 args H Q ↔ frzWp E pure base bar c13 Q (frzAll bar H args) := wpcall_of rfl rfl fun _ _ => rfl
theorem call14 {pure : Bool} {base bar : Nat} {args : List AV} {H : Heap} {Q : AV → Heap → Prop} : WpCall E pure base bar 14 args H Q ↔ frzWp E pure base bar c14 Q (frzAll bar H args) := wpcall_of rfl rfl fun _ _ => rfl
theorem call15 {pure : Bool} {base bar : Nat} {args : List AV} {H : Heap} {Q : AV → Heap → Prop} : WpCall E pure base bar 15 args H Q ↔ frzWp E pure base bar c15 Q (frzAll bar H args) := wpcall_of rfl rfl fun _ _ => rfl
theorem call16 {pure : Bool} {base bar : Nat} {args : List AV} {H : Heap} {Q : AV → Heap → Prop} : WpCall E pure base bar 16 args H Q ↔ frzWp E pure base bar c16 Q (frzAll bar H args) := wpcall_of rfl rfl fun _ _ => rfl
theorem call17 {pure : Bool} {base bar : Nat} {args : List AV} {H : Heap} {Q : AV → Heap → Prop} : WpCall E pure base bar 17 args H Q ↔ frzWp E pure base bar c17 Q (frzAll bar H args) := wpcall_of rfl rfl fun _ _ => rfl
theorem call18 {pure : Bool} {base bar : Nat} {args : List AV} {H : Heap} {Q : AV → Heap → Prop} : WpCall E pure base bar 18 args H Q ↔ frzWp E pure base bar c18 Q (frzAll bar H args) := wpcall_of rfl rfl fun _ _ => rfl
theorem call19 {pure : Bool} {base bar : Nat} {args : List AV} {H : Heap} {Q : AV → Heap → Prop} : WpCall E pure base bar 19 args H Q ↔ frzWp E pure base bar c19 Q (frzAll bar H args) := wpcall_of rfl rfl fun _ _ => rfl
theorem call20 {pure : Bool} {base bar : Nat} {args : List AV} {H : Heap} {Q : AV → Heap → Prop} : WpCall E pure base bar 20 args H Q ↔ frzWp E pure base bar c20 Q (frzAll bar H args) := wpcall_of rfl rfl fun _ _ => rfl
theorem call21 {pure : Bool} {base bar : Nat} {args : List AV} {H : Heap} {Q : AV → Heap → Prop} : WpCall E pure base bar 21 args H Q ↔ frzWp E pure base bar c21 Q (frzAll bar H args) := wpcall_of rfl rfl fun _ _ => rfl
theorem call22 {pure : Bool} {base bar : Nat} {args : List AV} {H : Heap} {Q : AV → Heap → Prop} : WpCall E pure base bar 22 args H Q ↔ frzWp E pure base bar c22 Q (frzAll bar H args) := wpcall_of rfl rfl fun _ _ => rfl
theorem call23 {pure : Bool} {base bar : Nat} {args : List AV} {H : Heap} {Q : AV → Heap → Prop} : WpCall E pure base bar 23 args H Q ↔ frzWp E pure base bar c23 Q (frzAll bar H args) := wpcall_of rfl rfl fun _ _ => rfl
theorem call24 {pure : Bool} {base bar : Nat} {args : List AV} {H : Heap} {Q : AV → Heap → Prop} : WpCall E pure base bar 24 args H Q ↔ frzWp E pure base bar c24 Q (frzAll bar H args) := wpcall_of rfl rfl fun _ _ => rfl
theorem call25 {pure : Bool} {base bar : Nat} {args : List AV} {H : Heap} {Q : AV → Heap → Prop} : WpCall E pure base bar 25 args H Q ↔ WpFun E pure base bar c25 args H Q := wpcall_raw rfl rfl fun _ _ => rfl
theorem call26 {pure : Bool} {base bar : Nat} {args : List AV} {H : Heap} {Q : AV → Heap → Prop} : WpCall E pure base bar 26 args H Q ↔ frzWp E pure base bar c26 Q (frzAll bar H args) := wpcall_of rfl rfl fun _ _ => rfl
theorem call27 {pure : Bool} {base bar : Nat} {args : List AV} {H : Heap} {Q : AV → Heap → Prop} : WpCall E pure base bar 27 args H Q ↔ frzWp E pure base bar c27 Q (frzAll bar H args) := wpcall_of rfl rfl fun _ _ => rfl
theorem call28 {pure : Bool} {base bar : Nat} {args : List AV} {H : Heap} {Q : AV → Heap → Prop} : WpCall E pure base bar 28 args H Q ↔ frzWp E pure base bar c28 Q (frzAll bar H args) := wpcall_of rfl rfl fun _ _ => rfl
theorem call29 {pure : Bool} {base bar : Nat} {args : List AV} {H : Heap} {Q : AV → Heap → Prop} : WpCall E pure base bar 29 args H Q ↔ frzWp E pure base bar c29 Q (frzAll bar H args) := wpcall_of rfl rfl fun _ _ => rfl
theorem call30 {pure : Bool} {base bar : Nat} {args : List AV} {H : Heap} {Q : AV → Heap → Prop} : WpCall E pure base bar 30 args H Q ↔ frzWp E pure base bar c30 Q (frzAll bar H args) := wpcall_of rfl rfl fun _ _ => rfl
theorem call31 {pure : Bool} {base bar : Nat} {args : List AV} {H : Heap} {Q : AV → Heap → Prop} : WpCall E pure base bar 31 args H Q ↔ frzWp E pure base bar c31 Q (frzAll bar H args) := wpcall_of rfl rfl fun _ _ => rfl
theorem call32 {pure : Bool} {base bar : Nat} {args : List AV} {H : Heap} {Q : AV → Heap → Prop} : WpCall E pure base bar 32 args H Q ↔ frzWp E pure base bar c32 Q (frzAll bar H args) := wpcall_of rfl rfl fun _ _ => rfl
theorem call33 {pure : Bool} {base bar : Nat} {args : List AV} {H : Heap} {Q : AV → Heap → Prop} : WpCall E pure base bar 33 args H Q ↔ frzWp E pure base bar c33 Q (frzAll bar H args) := wpcall_of rfl rfl fun _ _ => rfl
theorem call34 {pure : Bool} {base bar : Nat} {args : List AV} {H : Heap} {Q : AV → Heap → Prop} : WpCall E pure base bar 34 args H Q ↔ frzWp E pure base bar c34 Q (frzAll bar H args) := wpcall_of rfl rfl fun _ _ => rfl
theorem call35 {pure : Bool} {base bar : Nat} {args : List AV} {H : Heap} {Q : AV → Heap → Prop} : WpCall E pure base bar 35 args H Q ↔ WpFun E pure base bar c35 args H Q := wpcall_raw rfl rfl fun _ _ => rfl
theorem call36 {pure : Bool} {base bar : Nat} {args : List AV} {H : Heap} {Q : AV → Heap → Prop} : WpCall E pure base bar 36 args H Q ↔ frzWp E pure base bar c36 Q (frzAll bar H args) := wpcall_of rfl rfl fun _ _ => rfl
theorem call37 {pure : Bool} {base bar : Nat} {args : List AV} {H : Heap} {Q : AV → Heap → Prop} : WpCall E pure base bar 37 args H Q ↔ WpFun E pure base bar c37 args H Q := wpcall_raw rfl rfl fun _ _ => rfl
theorem call38 {pure : Bool} {base bar : Nat} {args : List AV} {H : Heap} {Q : AV → Heap → Prop} : WpCall E pure base bar 38 args H Q ↔ WpFun E pure base bar c38 args H Q := wpcall_raw rfl rfl fun _ _ => rfl
theorem call39 {pure : Bool} {base bar : Nat} {args : List AV} {H : Heap} {Q : AV → Heap → Prop} : WpCall E pure base bar 39 args H Q ↔ WpFun E pure base bar c39 args H Q := wpcall_raw rfl rfl fun _ _ => rfl
theorem call40 {pure : Bool} {base bar : Nat} {args : List AV} {H : Heap} {Q : AV → Heap → Prop} : WpCall E pure base bar 40 args H Q ↔ WpFun E pure base bar c40 args H Q := wpcall_raw rfl rfl fun _ _ => rfl
theorem call41 {pure : Bool} {base bar : Nat} {args : List AV} {H : Heap} {Q : AV → Heap → Prop} : WpCall E pure base bar 41 args H Q ↔ frzWp E pure base bar c41 Q (frzAll bar H args) := wpcall_of rfl rfl fun _ _ => rfl
theorem call42 {pure : Bool} {base bar : Nat} {args : List AV} {H : Heap} {Q : AV → Heap → Prop} : WpCall E pure base bar 42 args H Q ↔ WpFun E pure base bar c42 args H Q := wpcall_raw rfl rfl fun _ _ => rfl
theorem call43 {pure : Bool} {base bar : Nat} {args : List AV} {H : Heap} {Q : AV → Heap → Prop} : WpCall E pure base bar 43 args H Q ↔ WpFun E pure base bar c43 args H Q := wpcall_raw rfl rfl fun _ _ => rfl
theorem call44 {pure : Bool} {base bar : Nat} {args : List AV} {H : Heap} {Q : AV → Heap → Prop} : WpCall E pure base bar 44 args H Q ↔ WpFun E pure base bar c44 args H Q := wpcall_raw rfl rfl fun _ _ => rfl
theorem call45 {pure : Bool} {base bar : Nat} {args : List AV} {H : Heap} {Q : AV → Heap → Prop} : WpCall E pure base bar 45 args H Q ↔ frzWp E pure base bar c45 Q (frzAll bar H args) := wpcall_of rfl rfl fun _ _ => rfl
theorem call46 {pure : Bool} {base bar : Nat} {args : List AV} {H : Heap} {Q : AV → Heap → Prop} : WpCall E pure base bar 46 args H Q ↔ frzWp E pure base bar c46 Q (frzAll bar H args) := wpcall_of rfl rfl fun _ _ => rfl
theorem call47 {pure : Bool} {base bar : Nat} {args : List AV} {H : Heap} {Q : AV → Heap → Prop} : WpCall E pure base bar 47 args H Q ↔ frzWp E pure base bar c47 Q (frzAll bar H args) := wpcall_of rfl rfl fun _ _ => rfl
theorem call48 {pure : Bool} {base bar : Nat} {args : List AV} {H : Heap} {Q : AV → Heap → Prop} : WpCall E pure base bar 48 args H Q ↔ WpFun E pure base bar c48 args H Q := wpcall_raw rfl rfl fun _ _ => rfl
theorem call49 {pure : Bool} {base bar : Nat} {args : List AV} {H : Heap} {Q : AV → Heap → Prop} : WpCall E pure base bar 49 args H Q ↔ WpFun E pure base bar c49 args H Q := wpcall_raw rfl rfl fun _ _ => rfl
theorem call50 {pure : Bool} {base bar : Nat} {args : List AV} {H : Heap} {Q : AV → Heap → Prop} : WpCall E pure base bar 50 args H Q ↔ frzWp E pure base bar c50 Q (frzAll bar H args) := wpcall_of rfl rfl fun _ _ => rfl
theorem call51 {pure : Bool} {base bar : Nat} {args : List AV} {H : Heap} {Q : AV → Heap → Prop} : WpCall E pure base bar 51 args H Q ↔ frzWp E pure base bar c51 Q (frzAll bar H args) := wpcall_of rfl rfl fun _ _ => rfl
theorem call52 {pure : Bool} {base bar : Nat} {args : List AV} {H : Heap} {Q : AV → Heap → Prop} : WpCall E pure base bar 52 args H Q ↔ frzWp E pure base bar c52 Q (frzAll bar H args) := wpcall_of rfl rfl fun _ _ => rfl
theorem call53 {pure : Bool} {base bar : Nat} {args : List AV} {H : Heap} {Q : AV → Heap → Prop} : WpCall E pure base bar 53 args H Q ↔ WpFun E pure base bar c53 args H Q := wpcall_raw rfl rfl fun _ _ => rfl
theorem call54 {pure : Bool} {base bar : Nat} {args : List AV} {H : Heap} {Q : AV → Heap → Prop} : WpCall E pure base bar 54 args H Q ↔ frzWp E pure base bar c54 Q (frzAll bar H args) := wpcall_of rfl rfl fun _ _ => rfl
theorem call55 {pure : Bool} {base bar : Nat} {args : List AV} {H : Heap} {Q : AV → Heap → Prop} : WpCall E pure base bar 55 args H Q ↔ frzWp E pure base bar c55 Q (frzAll bar H args) := wpcall_of rfl rfl fun _ _ => rfl
theorem call56 {pure : Bool} {base bar : Nat} {args : List AV} {H : Heap} {Q : AV → Heap → Prop} : WpCall E pure base bar 56 args H Q ↔ WpFun E pure base bar c56 args H Q := wpcall_raw rfl rfl fun _ _ => rfl
theorem call57 {pure : Bool} {base bar : Nat} {args : List AV} {H : Heap} {Q : AV → Heap → Prop} : WpCall E pure base bar 57 args H Q ↔ frzWp E pure base bar c57 Q (frzAll bar H args) := wpcall_of rfl rfl fun _ _ => rfl
theorem call58 {pure : Bool} {base bar : Nat} {args : List AV} {H : Heap} {Q : AV → Heap → Prop} : WpCall E pure base bar 58 args H Q ↔ WpFun E pure base bar c58 args H Q := wpcall_raw rfl rfl fun _ _ => rfl
theorem call59 {pure : Bool} {base bar : Nat} {args : List AV} {H : Heap} {Q : AV → Heap → Prop} : WpCall E pure base bar 59 args H Q ↔ frzWp E pure base bar c59 Q (frzAll bar H args) := wpcall_of rfl rfl fun _ _ => rfl
theorem call60 {pure : Bool} {base bar : Nat} {args : List AV} {H : Heap} {Q : AV → Heap → Prop} : WpCall E pure base bar 60 args H Q ↔ frzWp E pure base bar c60 Q (frzAll bar H args) := wpcall_of rfl rfl fun _ _ => rfl
theorem call61 {pure : Bool} {base bar : Nat} {args : List AV} {H : Heap} {Q : AV → Heap → Prop} : WpCall E pure base bar 61 args H Q ↔ frzWp E pure base bar c61 Q (frzAll bar H args) := wpcall_of rfl rfl fun _ _ => rfl
theorem call62 {pure : Bool} {base bar : Nat} {args : List AV} {H : Heap} {Q : AV → Heap → Prop} : WpCall E pure base bar 62 args H Q ↔ frzWp E pure base bar c62 Q (frzAll bar H args) := wpcall_of rfl rfl fun _ _ => rfl
theorem call63 {pure : Bool} {base bar : Nat} {args : List AV} {H : Heap} {Q : AV → Heap → Prop} : WpCall E pure base bar 63 args H Q ↔ frzWp E pure base bar c63 Q (frzAll bar H args) := wpcall_of rfl rfl fun _ _ => rfl
theorem call64 {pure : Bool} {base bar : Nat} {args : List AV} {H : Heap} {Q : AV → Heap → Prop} : WpCall E pure base bar 64 args H Q ↔ frzWp E pure base bar c64 Q (frzAll bar H args) := wpcall_of rfl rfl fun _ _ => rfl
theorem call65 {pure : Bool} {base bar : Nat} {args : List AV} {H : Heap} {Q : AV → Heap → Prop} : WpCall E pure base bar 65 args H Q ↔ frzWp E pure base bar c65 Q (frzAll bar H args) := wpcall_of rfl rfl fun _ _ => rfl
theorem call66 {pure : Bool} {base bar : Nat} {args : List AV} {H : Heap} {Q : AV → Heap → Prop} : WpCall E pure base bar 66 args H Q ↔ frzWp E pure base bar c66 Q (frzAll bar H args) := wpcall_of rfl rfl fun _ _ => rfl
theorem call67 {pure : Bool} {base bar : Nat} {args : List AV} {H : Heap} {Q : AV → Heap → Prop} : WpCall E pure base bar 67 args H Q ↔ WpFun E pure base bar c67 args H Q := wpcall_raw rfl rfl fun _ _ => rfl
theorem call68 {pure : Bool} {base bar : Nat} {args : List AV} {H : Heap} {Q : AV → Heap → Prop} : WpCall E pure base bar 68 args H Q ↔ frzWp E pure base bar c68 Q (frzAll bar H args) := wpcall_of rfl rfl fun _ _ => rfl
theorem call69 {pure : Bool} {base bar : Nat} {args : List AV} {H : Heap} {Q : AV → Heap → Prop} : WpCall E pure base bar 69 args H Q ↔ WpFun E pure base bar c69 args H Q := wpcall_raw rfl rfl fun _ _ => rfl
theorem call70 {pure : Bool} {base bar : Nat} {args : List AV} {H : Heap} {Q : AV → Heap → Prop} : WpCall E pure base bar 70 args H Q ↔ frzWp E pure base bar c70 Q (frzAll bar H args) := wpcall_of rfl rfl fun _ _ => rfl
theorem call71 {pure : Bool} {base bar : Nat} {args : List AV} {H : Heap} {Q : AV → Heap → Prop} : WpCall E pure base bar 71 args H Q ↔ frzWp E pure base bar c71 Q (frzAll bar H args) := wpcall_of rfl rfl fun _ _ => rfl
theorem call72 {pure : Bool} {base bar : Nat} {args : List AV} {H : Heap} {Q : AV → Heap → Prop} : WpCall E pure base bar 72 args H Q ↔ WpFun E pure base bar c72 args H Q := wpcall_raw rfl rfl fun _ _ => rfl
theorem call73 {pure : Bool} {base bar : Nat} {args : List AV} {H : Heap} {Q : AV → Heap → Prop} : WpCall E pure base bar 73 args H Q ↔ WpFun E pure base bar c73 args H Q := wpcall_raw rfl rfl fun _ _ => rfl
theorem call74 {pure : Bool} {base bar : Nat} {args : List AV} {H : Heap} {Q : AV → Heap → Prop} : WpCall E pure base bar 74 args H Q ↔ WpFun E pure base bar c74 args H Q := wpcall_raw rfl rfl fun _ _ => rfl
theorem call75 {pure : Bool} {base bar : Nat} {args : List AV} {H : Heap} {Q : AV → Heap → Prop} : WpCall E pure base bar 75 args H Q ↔ WpFun E pure base bar c75 args H Q := wpcall_raw rfl rfl fun _ _ => rfl
theorem call76 {pure : Bool} {base bar : Nat} {args : List AV} {H : Heap} {Q : AV → Heap → Prop} : WpCall E pure base bar 76 args H Q ↔ WpFun E pure base bar c76 args H Q := wpcall_raw rfl rfl fun _ _ => rfl
theorem call77 {pure : Bool} {base bar : Nat} {args : List AV} {H : Heap} {Q : AV → Heap → Prop} : WpCall E pure base bar 77 args H Q ↔ WpFun E pure base bar c77 args H Q := wpcall_raw rfl rfl fun _ _ => rfl
theorem call78 {pure : Bool} {base bar : Nat} {args : List AV} {H : Heap} {Q : AV → Heap → Prop} : WpCall E pure base bar 78 args H Q ↔ WpFun E pure base bar c78 args H Q := wpcall_raw rfl rfl fun _ _ => rfl
theorem call79 {pure : Bool} {base bar : Nat} {args : List AV} {H : Heap} {Q : AV → Heap → Prop} : WpCall E pure base bar 79 args H Q ↔ WpFun E pure base bar c79 args H Q := wpcall_raw rfl rfl fun _ _ => rfl
theorem call80 {pure : Bool} {base bar : Nat} {args : List AV} {H : Heap} {Q : AV → Heap → Prop} : WpCall E pure base bar 80 args H Q ↔ frzWp E pure base bar c80 Q (frzAll bar H args) := wpcall_of rfl rfl fun _ _ => rfl
theorem call81 {pure : Bool} {base bar : Nat} {args : List AV} {H : Heap} {Q : AV → Heap → Prop} : WpCall E pure base bar 81 args H Q ↔ frzWp E pure base bar c81 Q (frzAll bar H args) := wpcall_of rfl rfl fun _ _ => rfl
theorem call82 {pure : Bool} {base bar : Nat} {args : List AV} {H : Heap} {Q : AV → Heap → Prop} : WpCall E pure base bar 82 args H Q ↔ WpFun E pure base bar c82 args H Q := wpcall_raw rfl rfl fun _ _ => rfl
theorem call83 {pure : Bool} {base bar : Nat} {args : List AV} {H : Heap} {Q : AV → Heap → Prop} : WpCall E pure base bar 83 args H Q ↔ WpFun E pure base bar c83 args H Q := wpcall_raw rfl rfl fun _ _ => rfl
theorem call84 {pure : Bool} {base bar : Nat} {args : List AV} {H : Heap} {Q : AV → Heap → Prop} : WpCall E pure base bar 84 args H Q ↔ WpFun E pure base bar c84 args H Q := wpcall_raw rfl rfl fun _ _ => rfl
theorem call85 {pure : Bool} {base bar : Nat} {args : List AV} {H : Heap} {Q : AV → Heap → Prop} : WpCall E pure base bar 85 args H Q ↔ WpFun E pure base bar c85 args H Q := wpcall_raw rfl rfl fun _ _ => rfl
theorem call86 {pure : Bool} {base bar : Nat} {args : List AV} {H : Heap} {Q : AV → Heap → Prop} : WpCall E pure base bar 86 args H Q ↔ WpFun E pure base bar c86 args H Q := wpcall_raw rfl rfl fun _ _ => rfl
theorem call87 {pure : Bool} {base bar : Nat} {args : List AV} {H : Heap} {Q : AV → Heap → Prop} : WpCall E pure base bar 87 args H Q ↔ WpFun E pure base bar c87 args H Q := wpcall_raw rfl rfl fun _ _ => rfl
theorem call88 {pure : Bool} {base bar : Nat} {args : List AV} {H : Heap} {Q : AV → Heap → Prop} : WpCall E pure base bar 88 args H Q ↔ WpFun E pure base bar c88 args H Q := wpcall_raw rfl rfl fun _ _ => rfl
theorem call89 {pure : Bool} {base bar : Nat} {args : List AV} {H : Heap} {Q : AV → Heap → Prop} : WpCall E pure base bar 89 args H Q ↔ WpFun E pure base bar c89 args H Q := wpcall_raw rfl rfl fun _ _ => rfl
theorem call90 {pure : Bool} {base bar : Nat} {args : List AV} {H : Heap} {Q : AV → Heap → Prop} : WpCall E pure base bar 90 args H Q ↔ WpFun E pure base bar c90 args H Q := wpcall_raw rfl rfl fun _ _ => rfl
theorem call91 {pure : Bool} {base bar : Nat} {args : List AV} {H : Heap} {Q : AV → Heap → Prop} : WpCall E pure base bar 91 args H Q ↔ frzWp E pure base bar c91 Q (frzAll bar H args) := wpcall_of rfl rfl fun _ _ => rfl
theorem call92 {pure : Bool} {base bar : Nat} {args : List AV} {H : Heap} {Q : AV → Heap → Prop} : WpCall E pure base bar 92 args H Q ↔ WpFun E pure base bar c92 args H Q := wpcall_raw rfl rfl fun _ _ => rfl
theorem call93 {pure : Bool} {base bar : Nat} {args : List AV} {H : Heap} {Q : AV → Heap → Prop} : WpCall E pure base bar 93 args H Q ↔ WpFun E pure base bar c93 args H Q := wpcall_raw rfl rfl fun _ _ => rfl
theorem call94 {pure : Bool} {base bar : Nat} {args : List AV} {H : Heap} {Q : AV → Heap → Prop} : WpCall E pure base bar 94 args H Q ↔ WpFun E pure base bar c94 args H Q := wpcall_raw rfl rfl fun _ _ => rfl
theorem call95 {pure : Bool} {base bar : Nat} {args : List AV} {H : Heap} {Q : AV → Heap → Prop} : WpCall E pure base bar 95 args H Q ↔ WpFun E pure base bar c95 args H Q := wpcall_raw rfl rfl fun _ _ => rfl
theorem call96 {pure : Bool} {base bar : Nat} {args : List AV} {H : Heap} {Q : AV → Heap → Prop} : WpCall E pure base bar 96 args H Q ↔ WpFun E pure base bar c96 args H Q := wpcall_raw rfl rfl fun _ _ => rfl
theorem call97 {pure : Bool} {base bar : Nat} {args : List AV} {H : Heap} {Q : AV → Heap → Prop} : WpCall E pure base bar 97 args H Q ↔ WpFun E pure base bar c97 args H Q := wpcall_raw rfl rfl fun _ _ => rfl
theorem call98 {pure : Bool} {base bar : Nat} {args : List AV} {H : Heap} {Q : AV → Heap → Prop} : WpCall E pure base bar 98 args H Q ↔ WpFun E pure base bar c98 args H Q := wpcall_raw rfl rfl fun _ _ => rfl
theorem call99 {pure : Bool} {base bar : Nat} {args : List AV} {H : Heap} {Q : AV → Heap → Prop} : WpCall E pure base bar 99 args H Q ↔ WpFun E pure base bar c99 args H Q := wpcall_raw rfl rfl fun _ _ => rfl
end Go.Proofs.YtihdlpeghlhnoaaDoor.Code
end

