/-
  The environment of the contracts: what works is known; what each call does.
-/
import Derived.Test.YtngoldipfgfecaaAbWs
import Derived.Test.YtngoldipfgfecaaWorks
set_option linter.all false
namespace Go.Proofs.Ytngoldipfgfecaa.Code
open Go Go.Ab
def E : Env := { funs := env.funs, known := knownT Works.table }
theorem knowOK : KnownOK Try.prog E := knownT_ok rfl Works.tableOK
theorem call4 {pure : Bool} {base bar : Nat} {args : List AV} {H : Heap} {Q : AV → Heap → Prop} : WpCall E pure base bar 4 args H Q ↔ frzWp E pure base bar c4 Q (frzAll bar H args) := wpcall_of rfl rfl fun _ _ => rfl
theorem call8 {pure : Bool} {base bar : Nat} {args : List AV} {H : Heap} {Q : AV → Heap → Prop} : WpCall E pure base bar 8 args H Q ↔ frzWp E pure base bar c8 Q (frzAll bar H args) := wpcall_of rfl rfl fun _ _ => rfl
theorem call10 {pure : Bool} {base bar : Nat} {args : List AV} {H : Heap} {Q : AV → Heap → Prop} : WpCall E pure base bar 10 args H Q ↔ frzWp E pure base bar c10 Q (frzAll bar H args) := wpcall_of rfl rfl fun _ _ => rfl
theorem call12 {pure : Bool} {base bar : Nat} {args : List AV} {H : Heap} {Q : AV → Heap → Prop} : WpCall E pure base bar 12 args H Q ↔ frzWp E pure base bar c12 Q (frzAll bar H args) := wpcall_of rfl rfl fun _ _ => rfl
theorem call13 {pure : Bool} {base bar : Nat} {args : List AV} {H : Heap} {Q : AV → Heap → Prop} : WpCall E pure base bar 13 args H Q ↔ frzWp E pure base bar c13 Q (frzAll bar H args) := wpcall_of rfl rfl fun _ _ => rfl
theorem call14 {pure : Bool} {base bar : Nat} {args : List AV} {H : Heap} {Q : AV → Heap → Prop} : WpCall E pure base bar 14 args H Q ↔ frzWp E pure base bar c14 Q (frzAll bar H args) := wpcall_of rfl rfl fun _ _ => rfl
theorem call15 {pure : Bool} {base bar : Nat} {args : List AV} {H : Heap} {Q : AV → Heap → Prop} : WpCall E pure base bar 15 args H Q ↔ frzWp E pure base bar c15 Q (frzAll bar H args) := wpcall_of rfl rfl fun _ _ => rfl
theorem call16 {pure : Bool} {base bar : Nat} {args : List AV} {H : Heap} {Q : AV → Heap → Prop} : WpCall E pure base bar 16 args H Q ↔ frzWp E pure base bar c16 Q (frzAll bar H args) := wpcall_of rfl rfl fun _ _ => rfl
theorem call17 {pure : Bool} {base bar : Nat} {args : List AV} {H : Heap} {Q : AV → Heap → Prop} : WpCall E pure base bar 17 args H Q ↔ frzWp E pure base bar c17 Q (frzAll bar H args) := wpcall_of rfl rfl fun _ _ => rfl
theorem call18 {pure : Bool} {base bar : Nat} {args : List AV} {H : Heap} {Q : AV → Heap → Prop} : WpCall E pure base bar 18 args H Q ↔ frzWp E pure base bar c18 Q (frzAll bar H args) := wpcall_of rfl rfl fun _ _ => rfl
theorem call19 {pure : Bool} {base bar : Nat} {args : List AV} {H : Heap} {Q : AV → Heap → Prop} : WpCall E pure base bar 19 args H Q ↔ frzWp E pure base bar c19 Q (frzAll bar H args) := wpcall_of rfl rfl fun _ _ => rfl
theorem call20 {pure : Bool} {base bar : Nat} {H : Heap} {Q : AV → Heap → Prop} : WpCall E pure base bar 20 [] H Q ↔ Q (.bool true) H := wpcall_known rfl rfl rfl
theorem call24 {pure : Bool} {base bar : Nat} {args : List AV} {H : Heap} {Q : AV → Heap → Prop} : WpCall E pure base bar 24 args H Q ↔ frzWp E pure base bar c24 Q (frzAll bar H args) := wpcall_of rfl rfl fun _ _ => rfl
theorem call29 {pure : Bool} {base bar : Nat} {args : List AV} {H : Heap} {Q : AV → Heap → Prop} : WpCall E pure base bar 29 args H Q ↔ frzWp E pure base bar c29 Q (frzAll bar H args) := wpcall_of rfl rfl fun _ _ => rfl
theorem call30 {pure : Bool} {base bar : Nat} {args : List AV} {H : Heap} {Q : AV → Heap → Prop} : WpCall E pure base bar 30 args H Q ↔ frzWp E pure base bar c30 Q (frzAll bar H args) := wpcall_of rfl rfl fun _ _ => rfl
theorem call32 {pure : Bool} {base bar : Nat} {args : List AV} {H : Heap} {Q : AV → Heap → Prop} : WpCall E pure base bar 32 args H Q ↔ frzWp E pure base bar c32 Q (frzAll bar H args) := wpcall_of rfl rfl fun _ _ => rfl
theorem call33 {pure : Bool} {base bar : Nat} {args : List AV} {H : Heap} {Q : AV → Heap → Prop} : WpCall E pure base bar 33 args H Q ↔ frzWp E pure base bar c33 Q (frzAll bar H args) := wpcall_of rfl rfl fun _ _ => rfl
theorem call36 {pure : Bool} {base bar : Nat} {args : List AV} {H : Heap} {Q : AV → Heap → Prop} : WpCall E pure base bar 36 args H Q ↔ frzWp E pure base bar c36 Q (frzAll bar H args) := wpcall_of rfl rfl fun _ _ => rfl
theorem call37 {pure : Bool} {base bar : Nat} {args : List AV} {H : Heap} {Q : AV → Heap → Prop} : WpCall E pure base bar 37 args H Q ↔ frzWp E pure base bar c37 Q (frzAll bar H args) := wpcall_of rfl rfl fun _ _ => rfl
theorem call41 {pure : Bool} {base bar : Nat} {args : List AV} {H : Heap} {Q : AV → Heap → Prop} : WpCall E pure base bar 41 args H Q ↔ frzWp E pure base bar c41 Q (frzAll bar H args) := wpcall_of rfl rfl fun _ _ => rfl
theorem call42 {pure : Bool} {base bar : Nat} {args : List AV} {H : Heap} {Q : AV → Heap → Prop} : WpCall E pure base bar 42 args H Q ↔ frzWp E pure base bar c42 Q (frzAll bar H args) := wpcall_of rfl rfl fun _ _ => rfl
theorem call43 {pure : Bool} {base bar : Nat} {args : List AV} {H : Heap} {Q : AV → Heap → Prop} : WpCall E pure base bar 43 args H Q ↔ frzWp E pure base bar c43 Q (frzAll bar H args) := wpcall_of rfl rfl fun _ _ => rfl
theorem call44 {pure : Bool} {base bar : Nat} {args : List AV} {H : Heap} {Q : AV → Heap → Prop} : WpCall E pure base bar 44 args H Q ↔ frzWp E pure base bar c44 Q (frzAll bar H args) := wpcall_of rfl rfl fun _ _ => rfl
theorem call45 {pure : Bool} {base bar : Nat} {args : List AV} {H : Heap} {Q : AV → Heap → Prop} : WpCall E pure base bar 45 args H Q ↔ frzWp E pure base bar c45 Q (frzAll bar H args) := wpcall_of rfl rfl fun _ _ => rfl
theorem call46 {pure : Bool} {base bar : Nat} {args : List AV} {H : Heap} {Q : AV → Heap → Prop} : WpCall E pure base bar 46 args H Q ↔ frzWp E pure base bar c46 Q (frzAll bar H args) := wpcall_of rfl rfl fun _ _ => rfl
theorem call47 {pure : Bool} {base bar : Nat} {args : List AV} {H : Heap} {Q : AV → Heap → Prop} : WpCall E pure base bar 47 args H Q ↔ frzWp E pure base bar c47 Q (frzAll bar H args) := wpcall_of rfl rfl fun _ _ => rfl
theorem call48 {pure : Bool} {base bar : Nat} {args : List AV} {H : Heap} {Q : AV → Heap → Prop} : WpCall E pure base bar 48 args H Q ↔ WpFun E pure base bar c48 args H Q := wpcall_raw rfl rfl fun _ _ => rfl
theorem call49 {pure : Bool} {base bar : Nat} {args : List AV} {H : Heap} {Q : AV → Heap → Prop} : WpCall E pure base bar 49 args H Q ↔ WpFun E pure base bar c49 args H Q := wpcall_raw rfl rfl fun _ _ => rfl
theorem call50 {pure : Bool} {base bar : Nat} {args : List AV} {H : Heap} {Q : AV → Heap → Prop} : WpCall E pure base bar 50 args H Q ↔ WpFun E pure base bar c50 args H Q := wpcall_raw rfl rfl fun _ _ => rfl
theorem call53 {pure : Bool} {base bar : Nat} {args : List AV} {H : Heap} {Q : AV → Heap → Prop} : WpCall E pure base bar 53 args H Q ↔ frzWp E pure base bar c53 Q (frzAll bar H args) := wpcall_of rfl rfl fun _ _ => rfl
theorem call55 {pure : Bool} {base bar : Nat} {args : List AV} {H : Heap} {Q : AV → Heap → Prop} : WpCall E pure base bar 55 args H Q ↔ frzWp E pure base bar c55 Q (frzAll bar H args) := wpcall_of rfl rfl fun _ _ => rfl
theorem call57 {pure : Bool} {base bar : Nat} {args : List AV} {H : Heap} {Q : AV → Heap → Prop} : WpCall E pure base bar 57 args H Q ↔ frzWp E pure base bar c57 Q (frzAll bar H args) := wpcall_of rfl rfl fun _ _ => rfl
theorem call59 {pure : Bool} {base bar : Nat} {args : List AV} {H : Heap} {Q : AV → Heap → Prop} : WpCall E pure base bar 59 args H Q ↔ frzWp E pure base bar c59 Q (frzAll bar H args) := wpcall_of rfl rfl fun _ _ => rfl
theorem call61 {pure : Bool} {base bar : Nat} {args : List AV} {H : Heap} {Q : AV → Heap → Prop} : WpCall E pure base bar 61 args H Q ↔ frzWp E pure base bar c61 Q (frzAll bar H args) := wpcall_of rfl rfl fun _ _ => rfl
theorem call62 {pure : Bool} {base bar : Nat} {args : List AV} {H : Heap} {Q : AV → Heap → Prop} : WpCall E pure base bar 62 args H Q ↔ frzWp E pure base bar c62 Q (frzAll bar H args) := wpcall_of rfl rfl fun _ _ => rfl
theorem call63 {pure : Bool} {base bar : Nat} {args : List AV} {H : Heap} {Q : AV → Heap → Prop} : WpCall E pure base bar 63 args H Q ↔ frzWp E pure base bar c63 Q (frzAll bar H args) := wpcall_of rfl rfl fun _ _ => rfl
theorem call65 {pure : Bool} {base bar : Nat} {args : List AV} {H : Heap} {Q : AV → Heap → Prop} : WpCall E pure base bar 65 args H Q ↔ frzWp E pure base bar c65 Q (frzAll bar H args) := wpcall_of rfl rfl fun _ _ => rfl
theorem call66 {pure : Bool} {base bar : Nat} {args : List AV} {H : Heap} {Q : AV → Heap → Prop} : WpCall E pure base bar 66 args H Q ↔ frzWp E pure base bar c66 Q (frzAll bar H args) := wpcall_of rfl rfl fun _ _ => rfl
theorem call67 {pure : Bool} {base bar : Nat} {args : List AV} {H : Heap} {Q : AV → Heap → Prop} : WpCall E pure base bar 67 args H Q ↔ frzWp E pure base bar c67 Q (frzAll bar H args) := wpcall_of rfl rfl fun _ _ => rfl
theorem call68 {pure : Bool} {base bar : Nat} {args : List AV} {H : Heap} {Q : AV → Heap → Prop} : WpCall E pure base bar 68 args H Q ↔ frzWp E pure base bar c68 Q (frzAll bar H args) := wpcall_of rfl rfl fun _ _ => rfl
theorem call69 {pure : Bool} {base bar : Nat} {args : List AV} {H : Heap} {Q : AV → Heap → Prop} : WpCall E pure base bar 69 args H Q ↔ frzWp E pure base bar c69 Q (frzAll bar H args) := wpcall_of rfl rfl fun _ _ => rfl
theorem call71 {pure : Bool} {base bar : Nat} {args : List AV} {H : Heap} {Q : AV → Heap → Prop} : WpCall E pure base bar 71 args H Q ↔ frzWp E pure base bar c71 Q (frzAll bar H args) := wpcall_of rfl rfl fun _ _ => rfl
theorem call72 {pure : Bool} {base bar : Nat} {args : List AV} {H : Heap} {Q : AV → Heap → Prop} : WpCall E pure base bar 72 args H Q ↔ frzWp E pure base bar c72 Q (frzAll bar H args) := wpcall_of rfl rfl fun _ _ => rfl
theorem call74 {pure : Bool} {base bar : Nat} {args : List AV} {H : Heap} {Q : AV → Heap → Prop} : WpCall E pure base bar 74 args H Q ↔ frzWp E pure base bar c74 Q (frzAll bar H args) := wpcall_of rfl rfl fun _ _ => rfl
theorem call75 {pure : Bool} {base bar : Nat} {args : List AV} {H : Heap} {Q : AV → Heap → Prop} : WpCall E pure base bar 75 args H Q ↔ frzWp E pure base bar c75 Q (frzAll bar H args) := wpcall_of rfl rfl fun _ _ => rfl
theorem call76 {pure : Bool} {base bar : Nat} {args : List AV} {H : Heap} {Q : AV → Heap → Prop} : WpCall E pure base bar 76 args H Q ↔ frzWp E pure base bar c76 Q (frzAll bar H args) := wpcall_of rfl rfl fun _ _ => rfl
theorem call77 {pure : Bool} {base bar : Nat} {args : List AV} {H : Heap} {Q : AV → Heap → Prop} : WpCall E pure base bar 77 args H Q ↔ frzWp E pure base bar c77 Q (frzAll bar H args) := wpcall_of rfl rfl fun _ _ => rfl
theorem call78 {pure : Bool} {base bar : Nat} {args : List AV} {H : Heap} {Q : AV → Heap → Prop} : WpCall E pure base bar 78 args H Q ↔ frzWp E pure base bar c78 Q (frzAll bar H args) := wpcall_of rfl rfl fun _ _ => rfl
theorem call79 {pure : Bool} {base bar : Nat} {args : List AV} {H : Heap} {Q : AV → Heap → Prop} : WpCall E pure base bar 79 args H Q ↔ frzWp E pure base bar c79 Q (frzAll bar H args) := wpcall_of rfl rfl fun _ _ => rfl
theorem call83 {pure : Bool} {base bar : Nat} {args : List AV} {H : Heap} {Q : AV → Heap → Prop} : WpCall E pure base bar 83 args H Q ↔ frzWp E pure base bar c83 Q (frzAll bar H args) := wpcall_of rfl rfl fun _ _ => rfl
theorem call84 {pure : Bool} {base bar : Nat} {args : List AV} {H : Heap} {Q : AV → Heap → Prop} : WpCall E pure base bar 84 args H Q ↔ frzWp E pure base bar c84 Q (frzAll bar H args) := wpcall_of rfl rfl fun _ _ => rfl
theorem call85 {pure : Bool} {base bar : Nat} {args : List AV} {H : Heap} {Q : AV → Heap → Prop} : WpCall E pure base bar 85 args H Q ↔ frzWp E pure base bar c85 Q (frzAll bar H args) := wpcall_of rfl rfl fun _ _ => rfl
theorem call86 {pure : Bool} {base bar : Nat} {args : List AV} {H : Heap} {Q : AV → Heap → Prop} : WpCall E pure base bar 86 args H Q ↔ frzWp E pure base bar c86 Q (frzAll bar H args) := wpcall_of rfl rfl fun _ _ => rfl
theorem call87 {pure : Bool} {base bar : Nat} {args : List AV} {H : Heap} {Q : AV → Heap → Prop} : WpCall E pure base bar 87 args H Q ↔ frzWp E pure base bar c87 Q (frzAll bar H args) := wpcall_of rfl rfl fun _ _ => rfl
theorem call88 {pure : Bool} {base bar : Nat} {args : List AV} {H : Heap} {Q : AV → Heap → Prop} : WpCall E pure base bar 88 args H Q ↔ frzWp E pure base bar c88 Q (frzAll bar H args) := wpcall_of rfl rfl fun _ _ => rfl
theorem call89 {pure : Bool} {base bar : Nat} {args : List AV} {H : Heap} {Q : AV → Heap → Prop} : WpCall E pure base bar 89 args H Q ↔ frzWp E pure base bar c89 Q (frzAll bar H args) := wpcall_of rfl rfl fun _ _ => rfl
theorem call92 {pure : Bool} {base bar : Nat} {args : List AV} {H : Heap} {Q : AV → Heap → Prop} : WpCall E pure base bar 92 args H Q ↔ frzWp E pure base bar c92 Q (frzAll bar H args) := wpcall_of rfl rfl fun _ _ => rfl
theorem call93 {pure : Bool} {base bar : Nat} {args : List AV} {H : Heap} {Q : AV → Heap → Prop} : WpCall E pure base bar 93 args H Q ↔ frzWp E pure base bar c93 Q (frzAll bar H args) := wpcall_of rfl rfl fun _ _ => rfl
theorem call94 {pure : Bool} {base bar : Nat} {args : List AV} {H : Heap} {Q : AV → Heap → Prop} : WpCall E pure base bar 94 args H Q ↔ frzWp E pure base bar c94 Q (frzAll bar H args) := wpcall_of rfl rfl fun _ _ => rfl
theorem call96 {pure : Bool} {base bar : Nat} {args : List AV} {H : Heap} {Q : AV → Heap → Prop} : WpCall E pure base bar 96 args H Q ↔ frzWp E pure base bar c96 Q (frzAll bar H args) := wpcall_of rfl rfl fun _ _ => rfl
theorem call97 {pure : Bool} {base bar : Nat} {args : List AV} {H : Heap} {Q : AV → Heap → Prop} : WpCall E pure base bar 97 args H Q ↔ frzWp E pure base bar c97 Q (frzAll bar H args) := wpcall_of rfl rfl fun _ _ => rfl
end Go.Proofs.Ytngoldipfgfecaa.Code
