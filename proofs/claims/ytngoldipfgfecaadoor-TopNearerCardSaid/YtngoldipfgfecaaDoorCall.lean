/-
  Answers of calls that are known, and calls.
-/
import Derived.Test.YtngoldipfgfecaaDoorEvT
import Derived.Test.YtngoldipfgfecaaDoorKit
import Derived.KernelRfl
set_option linter.all false
namespace Go.Proofs.YtngoldipfgfecaaDoor.Code
open Go Go.Ab
theorem call3 {pure : Bool} {base bar : Nat} {args : List AV} {H : Heap} {Q : AV → Heap → Prop} : WpCall E pure base bar 3 args H Q ↔ frzWp E pure base bar c3 Q (frzAll bar H args) := wpcall_of rfl rfl fun _ _ => rfl
theorem call4 {pure : Bool} {base bar : Nat} {args : List AV} {H : Heap} {Q : AV → Heap → Prop} : WpCall E pure base bar 4 args H Q ↔ frzWp E pure base bar c4 Q (frzAll bar H args) := wpcall_of rfl rfl fun _ _ => rfl
theorem call7 {pure : Bool} {base bar : Nat} {args : List AV} {H : Heap} {Q : AV → Heap → Prop} : WpCall E pure base bar 7 args H Q ↔ frzWp E pure base bar c7 Q (frzAll bar H args) := wpcall_of rfl rfl fun _ _ => rfl
theorem call9 {pure : Bool} {base bar : Nat} {args : List AV} {H : Heap} {Q : AV → Heap → Prop} : WpCall E pure base bar 9 args H Q ↔ frzWp E pure base bar c9 Q (frzAll bar H args) := wpcall_of rfl rfl fun _ _ => rfl
theorem call14 {pure : Bool} {base bar : Nat} {args : List AV} {H : Heap} {Q : AV → Heap → Prop} : WpCall E pure base bar 14 args H Q ↔ frzWp E pure base bar c14 Q (frzAll bar H args) := wpcall_of rfl rfl fun _ _ => rfl
theorem call15 {pure : Bool} {base bar : Nat} {args : List AV} {H : Heap} {Q : AV → Heap → Prop} : WpCall E pure base bar 15 args H Q ↔ frzWp E pure base bar c15 Q (frzAll bar H args) := wpcall_of rfl rfl fun _ _ => rfl
theorem call16 {pure : Bool} {base bar : Nat} {args : List AV} {H : Heap} {Q : AV → Heap → Prop} : WpCall E pure base bar 16 args H Q ↔ frzWp E pure base bar c16 Q (frzAll bar H args) := wpcall_of rfl rfl fun _ _ => rfl
theorem call17 {pure : Bool} {base bar : Nat} {args : List AV} {H : Heap} {Q : AV → Heap → Prop} : WpCall E pure base bar 17 args H Q ↔ frzWp E pure base bar c17 Q (frzAll bar H args) := wpcall_of rfl rfl fun _ _ => rfl
theorem call18 {pure : Bool} {base bar : Nat} {args : List AV} {H : Heap} {Q : AV → Heap → Prop} : WpCall E pure base bar 18 args H Q ↔ frzWp E pure base bar c18 Q (frzAll bar H args) := wpcall_of rfl rfl fun _ _ => rfl
theorem call19 {pure : Bool} {base bar : Nat} {args : List AV} {H : Heap} {Q : AV → Heap → Prop} : WpCall E pure base bar 19 args H Q ↔ frzWp E pure base bar c19 Q (frzAll bar H args) := wpcall_of rfl rfl fun _ _ => rfl
theorem call25 {pure : Bool} {base bar : Nat} {args : List AV} {H : Heap} {Q : AV → Heap → Prop} : WpCall E pure base bar 25 args H Q ↔ frzWp E pure base bar c25 Q (frzAll bar H args) := wpcall_of rfl rfl fun _ _ => rfl
theorem call31 {pure : Bool} {base bar : Nat} {args : List AV} {H : Heap} {Q : AV → Heap → Prop} : WpCall E pure base bar 31 args H Q ↔ frzWp E pure base bar c31 Q (frzAll bar H args) := wpcall_of rfl rfl fun _ _ => rfl
theorem call32 {pure : Bool} {base bar : Nat} {args : List AV} {H : Heap} {Q : AV → Heap → Prop} : WpCall E pure base bar 32 args H Q ↔ frzWp E pure base bar c32 Q (frzAll bar H args) := wpcall_of rfl rfl fun _ _ => rfl
theorem call33 {pure : Bool} {base bar : Nat} {args : List AV} {H : Heap} {Q : AV → Heap → Prop} : WpCall E pure base bar 33 args H Q ↔ frzWp E pure base bar c33 Q (frzAll bar H args) := wpcall_of rfl rfl fun _ _ => rfl
theorem call34 {pure : Bool} {base bar : Nat} {args : List AV} {H : Heap} {Q : AV → Heap → Prop} : WpCall E pure base bar 34 args H Q ↔ frzWp E pure base bar c34 Q (frzAll bar H args) := wpcall_of rfl rfl fun _ _ => rfl
theorem call35 {pure : Bool} {base bar : Nat} {args : List AV} {H : Heap} {Q : AV → Heap → Prop} : WpCall E pure base bar 35 args H Q ↔ frzWp E pure base bar c35 Q (frzAll bar H args) := wpcall_of rfl rfl fun _ _ => rfl
theorem call36 {pure : Bool} {base bar : Nat} {args : List AV} {H : Heap} {Q : AV → Heap → Prop} : WpCall E pure base bar 36 args H Q ↔ frzWp E pure base bar c36 Q (frzAll bar H args) := wpcall_of rfl rfl fun _ _ => rfl
theorem call37 {pure : Bool} {base bar : Nat} {args : List AV} {H : Heap} {Q : AV → Heap → Prop} : WpCall E pure base bar 37 args H Q ↔ frzWp E pure base bar c37 Q (frzAll bar H args) := wpcall_of rfl rfl fun _ _ => rfl
theorem call38 {pure : Bool} {base bar : Nat} {args : List AV} {H : Heap} {Q : AV → Heap → Prop} : WpCall E pure base bar 38 args H Q ↔ frzWp E pure base bar c38 Q (frzAll bar H args) := wpcall_of rfl rfl fun _ _ => rfl
theorem call39 {pure : Bool} {base bar : Nat} {args : List AV} {H : Heap} {Q : AV → Heap → Prop} : WpCall E pure base bar 39 args H Q ↔ frzWp E pure base bar c39 Q (frzAll bar H args) := wpcall_of rfl rfl fun _ _ => rfl
theorem call40 {pure : Bool} {base bar : Nat} {args : List AV} {H : Heap} {Q : AV → Heap → Prop} : WpCall E pure base bar 40 args H Q ↔ frzWp E pure base bar c40 Q (frzAll bar H args) := wpcall_of rfl rfl fun _ _ => rfl
theorem call41 {pure : Bool} {base bar : Nat} {args : List AV} {H : Heap} {Q : AV → Heap → Prop} : WpCall E pure base bar 41 args H Q ↔ frzWp E pure base bar c41 Q (frzAll bar H args) := wpcall_of rfl rfl fun _ _ => rfl
theorem call42 {pure : Bool} {base bar : Nat} {args : List AV} {H : Heap} {Q : AV → Heap → Prop} : WpCall E pure base bar 42 args H Q ↔ frzWp E pure base bar c42 Q (frzAll bar H args) := wpcall_of rfl rfl fun _ _ => rfl
theorem call43 {pure : Bool} {base bar : Nat} {args : List AV} {H : Heap} {Q : AV → Heap → Prop} : WpCall E pure base bar 43 args H Q ↔ frzWp E pure base bar c43 Q (frzAll bar H args) := wpcall_of rfl rfl fun _ _ => rfl
theorem call44 {pure : Bool} {base bar : Nat} {args : List AV} {H : Heap} {Q : AV → Heap → Prop} : WpCall E pure base bar 44 args H Q ↔ frzWp E pure base bar c44 Q (frzAll bar H args) := wpcall_of rfl rfl fun _ _ => rfl
theorem call45 {pure : Bool} {base bar : Nat} {args : List AV} {H : Heap} {Q : AV → Heap → Prop} : WpCall E pure base bar 45 args H Q ↔ frzWp E pure base bar c45 Q (frzAll bar H args) := wpcall_of rfl rfl fun _ _ => rfl
theorem call46 {pure : Bool} {base bar : Nat} {args : List AV} {H : Heap} {Q : AV → Heap → Prop} : WpCall E pure base bar 46 args H Q ↔ frzWp E pure base bar c46 Q (frzAll bar H args) := wpcall_of rfl rfl fun _ _ => rfl
theorem call47 {pure : Bool} {base bar : Nat} {args : List AV} {H : Heap} {Q : AV → Heap → Prop} : WpCall E pure base bar 47 args H Q ↔ frzWp E pure base bar c47 Q (frzAll bar H args) := wpcall_of rfl rfl fun _ _ => rfl
theorem call48 {pure : Bool} {base bar : Nat} {args : List AV} {H : Heap} {Q : AV → Heap → Prop} : WpCall E pure base bar 48 args H Q ↔ frzWp E pure base bar c48 Q (frzAll bar H args) := wpcall_of rfl rfl fun _ _ => rfl
theorem call49 {pure : Bool} {base bar : Nat} {args : List AV} {H : Heap} {Q : AV → Heap → Prop} : WpCall E pure base bar 49 args H Q ↔ frzWp E pure base bar c49 Q (frzAll bar H args) := wpcall_of rfl rfl fun _ _ => rfl
theorem call53 {pure : Bool} {base bar : Nat} {args : List AV} {H : Heap} {Q : AV → Heap → Prop} : WpCall E pure base bar 53 args H Q ↔ frzWp E pure base bar c53 Q (frzAll bar H args) := wpcall_of rfl rfl fun _ _ => rfl
theorem call54 {pure : Bool} {base bar : Nat} {args : List AV} {H : Heap} {Q : AV → Heap → Prop} : WpCall E pure base bar 54 args H Q ↔ frzWp E pure base bar c54 Q (frzAll bar H args) := wpcall_of rfl rfl fun _ _ => rfl
theorem call55 {pure : Bool} {base bar : Nat} {args : List AV} {H : Heap} {Q : AV → Heap → Prop} : WpCall E pure base bar 55 args H Q ↔ frzWp E pure base bar c55 Q (frzAll bar H args) := wpcall_of rfl rfl fun _ _ => rfl
theorem call68 {pure : Bool} {base bar : Nat} {args : List AV} {H : Heap} {Q : AV → Heap → Prop} : WpCall E pure base bar 68 args H Q ↔ frzWp E pure base bar c68 Q (frzAll bar H args) := wpcall_of rfl rfl fun _ _ => rfl
theorem call69 {pure : Bool} {base bar : Nat} {args : List AV} {H : Heap} {Q : AV → Heap → Prop} : WpCall E pure base bar 69 args H Q ↔ frzWp E pure base bar c69 Q (frzAll bar H args) := wpcall_of rfl rfl fun _ _ => rfl
theorem call70 {pure : Bool} {base bar : Nat} {args : List AV} {H : Heap} {Q : AV → Heap → Prop} : WpCall E pure base bar 70 args H Q ↔ frzWp E pure base bar c70 Q (frzAll bar H args) := wpcall_of rfl rfl fun _ _ => rfl
theorem call71 {pure : Bool} {base bar : Nat} {args : List AV} {H : Heap} {Q : AV → Heap → Prop} : WpCall E pure base bar 71 args H Q ↔ frzWp E pure base bar c71 Q (frzAll bar H args) := wpcall_of rfl rfl fun _ _ => rfl
theorem call72 {pure : Bool} {base bar : Nat} {args : List AV} {H : Heap} {Q : AV → Heap → Prop} : WpCall E pure base bar 72 args H Q ↔ frzWp E pure base bar c72 Q (frzAll bar H args) := wpcall_of rfl rfl fun _ _ => rfl
theorem call75 {pure : Bool} {base bar : Nat} {args : List AV} {H : Heap} {Q : AV → Heap → Prop} : WpCall E pure base bar 75 args H Q ↔ frzWp E pure base bar c75 Q (frzAll bar H args) := wpcall_of rfl rfl fun _ _ => rfl
theorem call82 {pure : Bool} {base bar : Nat} {args : List AV} {H : Heap} {Q : AV → Heap → Prop} : WpCall E pure base bar 82 args H Q ↔ frzWp E pure base bar c82 Q (frzAll bar H args) := wpcall_of rfl rfl fun _ _ => rfl
theorem call83 {pure : Bool} {base bar : Nat} {args : List AV} {H : Heap} {Q : AV → Heap → Prop} : WpCall E pure base bar 83 args H Q ↔ frzWp E pure base bar c83 Q (frzAll bar H args) := wpcall_of rfl rfl fun _ _ => rfl
theorem call84 {pure : Bool} {base bar : Nat} {args : List AV} {H : Heap} {Q : AV → Heap → Prop} : WpCall E pure base bar 84 args H Q ↔ frzWp E pure base bar c84 Q (frzAll bar H args) := wpcall_of rfl rfl fun _ _ => rfl
theorem call85 {pure : Bool} {base bar : Nat} {args : List AV} {H : Heap} {Q : AV → Heap → Prop} : WpCall E pure base bar 85 args H Q ↔ frzWp E pure base bar c85 Q (frzAll bar H args) := wpcall_of rfl rfl fun _ _ => rfl
theorem call86 {pure : Bool} {base bar : Nat} {args : List AV} {H : Heap} {Q : AV → Heap → Prop} : WpCall E pure base bar 86 args H Q ↔ frzWp E pure base bar c86 Q (frzAll bar H args) := wpcall_of rfl rfl fun _ _ => rfl
theorem call94 {pure : Bool} {base bar : Nat} {args : List AV} {H : Heap} {Q : AV → Heap → Prop} : WpCall E pure base bar 94 args H Q ↔ frzWp E pure base bar c94 Q (frzAll bar H args) := wpcall_of rfl rfl fun _ _ => rfl
theorem call95 {pure : Bool} {base bar : Nat} {args : List AV} {H : Heap} {Q : AV → Heap → Prop} : WpCall E pure base bar 95 args H Q ↔ frzWp E pure base bar c95 Q (frzAll bar H args) := wpcall_of rfl rfl fun _ _ => rfl
variable {pure : Bool} {base bar : Nat} {H : Heap} {Q : AV → Heap → Prop}
theorem call12 : WpCall E pure base bar 12 [] H Q ↔ Q (.bool true) H := wpcall_known rfl rfl rfl
theorem same_refl_L5 : L5.same L5 = true := by rfl
theorem same_refl_O5 : O5.same O5 = true := by rfl
theorem call67 : WpCall E pure base bar 67 [L5, O5] H Q ↔ Q (.tup [.agg [L5, O5], .int .i64 0]) H := wpcall_known rfl rfl rfl
theorem call8 {n : Nat} (hn : n < 32) : WpCall E pure base bar 8 [L5, O5, .int .i64 (n : Nat)] H Q ↔ Q (.tup [digs n, .int .i64 0]) H := wpcall_known rfl rfl (by
  show (bif L5.same L5 && O5.same O5 && Nat.blt n 32 then K1 _ else none) = _
  rw [same_refl_L5, same_refl_O5, show Nat.blt n 32 = true by rw [Nat.blt_eq]; exact hn]; rfl)
theorem call10 {n : Nat} (hn : n < 32) : WpCall E pure base bar 10 [.int .i64 5, .int .i64 (n : Nat)] H Q ↔ Q (.tup [pos5 n, .int .i64 0]) H := wpcall_known rfl rfl (by
  show (bif Nat.beq 5 5 && Nat.blt n 32 then K1 _ else bif Nat.beq 5 4 && Nat.blt n 16 then K1 _ else none) = _
  rw [show Nat.blt n 32 = true by rw [Nat.blt_eq]; exact hn]; rfl)
theorem call10b {n : Nat} (hn : n < 16) : WpCall E pure base bar 10 [.int .i64 4, .int .i64 (n : Nat)] H Q ↔ Q (.tup [pos4 n, .int .i64 0]) H := wpcall_known rfl rfl (by
  show (bif Nat.beq 4 5 && Nat.blt n 32 then K1 (.tup [pos5 n, .int .i64 0]) else bif Nat.beq 4 4 && Nat.blt n 16 then K1 _ else none) = _
  rw [show Nat.blt n 16 = true by rw [Nat.blt_eq]; exact hn]; rfl)
theorem call11 {n : Nat} (hn : n < 32) : WpCall E pure base bar 11 [pos5 n] H Q ↔ Q (.tup [.int .i64 (n : Nat), .int .i64 0]) H := wpcall_known rfl rfl (by
  show (match fd5 (pos5 n) with | some n => K1 (.tup [iv n, .int .i64 0]) | none => none) = _
  rw [fd5_at n hn]; rfl)
theorem call13 {n : Nat} (hn : n < 16) : WpCall E pure base bar 13 [pos4 n, open4] H Q ↔ Q (.tup [.int .i64 (n : Nat), .int .i64 0]) H := wpcall_known rfl rfl (by
  show (bif open4.same open4 then match fd4 (pos4 n) with | some n => K1 (.tup [iv n, .int .i64 0]) | none => none else none) = _
  rw [show open4.same open4 = true by rfl, fd4_at n hn]; rfl)
end Go.Proofs.YtngoldipfgfecaaDoor.Code
