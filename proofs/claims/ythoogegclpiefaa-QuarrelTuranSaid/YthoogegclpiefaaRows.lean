/-
  No cell of these rows narrows 'for every input' (looked for: loops, veiled, ifaces, maps, wideKeys, modest, calm, conditions, laid).
  DERIVED. THE GIVEN ROWS OF THIS SEAT. 11 by the template 'for every input the law returns true; each argument reads behind the call as it read before'; 0 by the template 'total and deterministic' (their statements: YthoogegclpiefaaTotals.lean).
  GIVEN WITH THE SEED: the statements are not yours to turn. If you find one false, say at which input.
  Laid BY PROGRAM, IN A SANDBOX (cutbox-rows.mjs): the forced cells as the released guide's own fill.sh prints them over the translation c761b9520c242d8c… (all of the seat's roots in one cut). By AI agents, Wed Nov 11 2026. No macro, syntax, notation, axiom, sorry.
-/
import Derived.Test.YthoogegclpiefaaChecked
import GoSem.Claim
import GoSem.ClaimJoined
import GoSem.ClaimMapViews
import Derived.JoinedTies
import Derived.KernelRfl
namespace Go.Proofs.Ythoogegclpiefaa
/- THE CELL 'sum', in the pinned program and in every row, IS THE sha256 OF THE DUMP (.gsa) THAT YthoogegclpiefaaProg.lean LOADS. Nothing in Lean hashes anything: it is a label: what it is worth is what the hold of that sum in a sandbox is worth. -/
noncomputable def Try.pinned : Pinned := { name := "ythoogegclpiefaa", sum := "c761b9520c242d8c098eb3bedcace1896484eee95045f4ba1898439af0a8307e", checked := Try.checked }
namespace Rows
def none {H : Type} : Left H := { results := [], args := [] }

/-- 'aigrettelaw12.QuarrelRooms': WHATEVER THE INPUT: true; the input reads as it did. -/
def quarrelRoomsSpec : ChangeSpec := { name := "quarrelRooms", fn := fun _ => fun
  | [d] => { results := [.lit (.bool true)], args := [d] }
  | _ => none }
def quarrelRoomsRow : OpenClaim := { program := "ythoogegclpiefaa", sum := "c761b9520c242d8c098eb3bedcace1896484eee95045f4ba1898439af0a8307e", func := "aigrette/aigrettelaw12.QuarrelRooms", spec := "quarrelRooms", unfollowed := true, recurses := true, apart := false }
def QuarrelRoomsSaid : Prop := quarrelRoomsRow.holds Try.pinned (OpenSpec.ofChange quarrelRoomsSpec)

/-- ITS FALSE NEIGHBOUR: 'it returns false'. Refute it at one input. -/
def quarrelRoomsWrong : ChangeSpec := { name := "quarrelRooms", fn := fun _ => fun
  | [d] => { results := [.lit (.bool false)], args := [d] }
  | _ => none }
def QuarrelRoomsWrongFalsely : Prop := quarrelRoomsRow.holds Try.pinned (OpenSpec.ofChange quarrelRoomsWrong)

/-- 'aigrettelaw12.QuarrelCopies': WHATEVER THE INPUT: true; the input reads as it did. -/
def quarrelCopiesSpec : ChangeSpec := { name := "quarrelCopies", fn := fun _ => fun
  | [d1, d2, d3, d4] => { results := [.lit (.bool true)], args := [d1, d2, d3, d4] }
  | _ => none }
def quarrelCopiesRow : OpenClaim := { program := "ythoogegclpiefaa", sum := "c761b9520c242d8c098eb3bedcace1896484eee95045f4ba1898439af0a8307e", func := "aigrette/aigrettelaw12.QuarrelCopies", spec := "quarrelCopies", unfollowed := true, recurses := true, apart := false }
def QuarrelCopiesSaid : Prop := quarrelCopiesRow.holds Try.pinned (OpenSpec.ofChange quarrelCopiesSpec)

/-- ITS FALSE NEIGHBOUR: 'it returns false'. Refute it at one input. -/
def quarrelCopiesWrong : ChangeSpec := { name := "quarrelCopies", fn := fun _ => fun
  | [d1, d2, d3, d4] => { results := [.lit (.bool false)], args := [d1, d2, d3, d4] }
  | _ => none }
def QuarrelCopiesWrongFalsely : Prop := quarrelCopiesRow.holds Try.pinned (OpenSpec.ofChange quarrelCopiesWrong)

/-- 'aigrettelaw12.QuarrelMost': WHATEVER THE INPUT: true; the input reads as it did. -/
def quarrelMostSpec : ChangeSpec := { name := "quarrelMost", fn := fun _ => fun
  | [d1, d2] => { results := [.lit (.bool true)], args := [d1, d2] }
  | _ => none }
def quarrelMostRow : OpenClaim := { program := "ythoogegclpiefaa", sum := "c761b9520c242d8c098eb3bedcace1896484eee95045f4ba1898439af0a8307e", func := "aigrette/aigrettelaw12.QuarrelMost", spec := "quarrelMost", unfollowed := true, recurses := true, apart := false }
def QuarrelMostSaid : Prop := quarrelMostRow.holds Try.pinned (OpenSpec.ofChange quarrelMostSpec)

/-- ITS FALSE NEIGHBOUR: 'it returns false'. Refute it at one input. -/
def quarrelMostWrong : ChangeSpec := { name := "quarrelMost", fn := fun _ => fun
  | [d1, d2] => { results := [.lit (.bool false)], args := [d1, d2] }
  | _ => none }
def QuarrelMostWrongFalsely : Prop := quarrelMostRow.holds Try.pinned (OpenSpec.ofChange quarrelMostWrong)

/-- 'aigrettelaw12.QuarrelZykov': WHATEVER THE INPUT: true; the input reads as it did. -/
def quarrelZykovSpec : ChangeSpec := { name := "quarrelZykov", fn := fun _ => fun
  | [d1, d2, d3] => { results := [.lit (.bool true)], args := [d1, d2, d3] }
  | _ => none }
def quarrelZykovRow : OpenClaim := { program := "ythoogegclpiefaa", sum := "c761b9520c242d8c098eb3bedcace1896484eee95045f4ba1898439af0a8307e", func := "aigrette/aigrettelaw12.QuarrelZykov", spec := "quarrelZykov", unfollowed := true, recurses := true, apart := false }
def QuarrelZykovSaid : Prop := quarrelZykovRow.holds Try.pinned (OpenSpec.ofChange quarrelZykovSpec)

/-- ITS FALSE NEIGHBOUR: 'it returns false'. Refute it at one input. -/
def quarrelZykovWrong : ChangeSpec := { name := "quarrelZykov", fn := fun _ => fun
  | [d1, d2, d3] => { results := [.lit (.bool false)], args := [d1, d2, d3] }
  | _ => none }
def QuarrelZykovWrongFalsely : Prop := quarrelZykovRow.holds Try.pinned (OpenSpec.ofChange quarrelZykovWrong)

/-- 'aigrettelaw12.QuarrelCounted': WHATEVER THE INPUT: true; the input reads as it did. -/
def quarrelCountedSpec : ChangeSpec := { name := "quarrelCounted", fn := fun _ => fun
  | [d] => { results := [.lit (.bool true)], args := [d] }
  | _ => none }
def quarrelCountedRow : OpenClaim := { program := "ythoogegclpiefaa", sum := "c761b9520c242d8c098eb3bedcace1896484eee95045f4ba1898439af0a8307e", func := "aigrette/aigrettelaw12.QuarrelCounted", spec := "quarrelCounted", unfollowed := true, recurses := true, apart := false }
def QuarrelCountedSaid : Prop := quarrelCountedRow.holds Try.pinned (OpenSpec.ofChange quarrelCountedSpec)

/-- ITS FALSE NEIGHBOUR: 'it returns false'. Refute it at one input. -/
def quarrelCountedWrong : ChangeSpec := { name := "quarrelCounted", fn := fun _ => fun
  | [d] => { results := [.lit (.bool false)], args := [d] }
  | _ => none }
def QuarrelCountedWrongFalsely : Prop := quarrelCountedRow.holds Try.pinned (OpenSpec.ofChange quarrelCountedWrong)

/-- 'aigrettelaw12.QuarrelRoomed': WHATEVER THE INPUT: true; the input reads as it did. -/
def quarrelRoomedSpec : ChangeSpec := { name := "quarrelRoomed", fn := fun _ => fun
  | [d] => { results := [.lit (.bool true)], args := [d] }
  | _ => none }
def quarrelRoomedRow : OpenClaim := { program := "ythoogegclpiefaa", sum := "c761b9520c242d8c098eb3bedcace1896484eee95045f4ba1898439af0a8307e", func := "aigrette/aigrettelaw12.QuarrelRoomed", spec := "quarrelRoomed", unfollowed := true, recurses := true, apart := false }
def QuarrelRoomedSaid : Prop := quarrelRoomedRow.holds Try.pinned (OpenSpec.ofChange quarrelRoomedSpec)

/-- ITS FALSE NEIGHBOUR: 'it returns false'. Refute it at one input. -/
def quarrelRoomedWrong : ChangeSpec := { name := "quarrelRoomed", fn := fun _ => fun
  | [d] => { results := [.lit (.bool false)], args := [d] }
  | _ => none }
def QuarrelRoomedWrongFalsely : Prop := quarrelRoomedRow.holds Try.pinned (OpenSpec.ofChange quarrelRoomedWrong)

/-- 'aigrettelaw12.QuarrelBrawls': WHATEVER THE INPUT: true; the input reads as it did. -/
def quarrelBrawlsSpec : ChangeSpec := { name := "quarrelBrawls", fn := fun _ => fun
  | [d1, d2] => { results := [.lit (.bool true)], args := [d1, d2] }
  | _ => none }
def quarrelBrawlsRow : OpenClaim := { program := "ythoogegclpiefaa", sum := "c761b9520c242d8c098eb3bedcace1896484eee95045f4ba1898439af0a8307e", func := "aigrette/aigrettelaw12.QuarrelBrawls", spec := "quarrelBrawls", unfollowed := true, recurses := true, apart := false }
def QuarrelBrawlsSaid : Prop := quarrelBrawlsRow.holds Try.pinned (OpenSpec.ofChange quarrelBrawlsSpec)

/-- ITS FALSE NEIGHBOUR: 'it returns false'. Refute it at one input. -/
def quarrelBrawlsWrong : ChangeSpec := { name := "quarrelBrawls", fn := fun _ => fun
  | [d1, d2] => { results := [.lit (.bool false)], args := [d1, d2] }
  | _ => none }
def QuarrelBrawlsWrongFalsely : Prop := quarrelBrawlsRow.holds Try.pinned (OpenSpec.ofChange quarrelBrawlsWrong)

/-- 'aigrettelaw12.QuarrelKnown': WHATEVER THE INPUT: true; the input reads as it did. -/
def quarrelKnownSpec : ChangeSpec := { name := "quarrelKnown", fn := fun _ => fun
  | [] => { results := [.lit (.bool true)], args := [] }
  | _ => none }
def quarrelKnownRow : OpenClaim := { program := "ythoogegclpiefaa", sum := "c761b9520c242d8c098eb3bedcace1896484eee95045f4ba1898439af0a8307e", func := "aigrette/aigrettelaw12.QuarrelKnown", spec := "quarrelKnown", unfollowed := true, recurses := true, apart := false }
def QuarrelKnownSaid : Prop := quarrelKnownRow.holds Try.pinned (OpenSpec.ofChange quarrelKnownSpec)

/-- ITS FALSE NEIGHBOUR: 'it returns false'. Refute it at one input. -/
def quarrelKnownWrong : ChangeSpec := { name := "quarrelKnown", fn := fun _ => fun
  | [] => { results := [.lit (.bool false)], args := [] }
  | _ => none }
def QuarrelKnownWrongFalsely : Prop := quarrelKnownRow.holds Try.pinned (OpenSpec.ofChange quarrelKnownWrong)

/-- 'aigrettelaw12.QuarrelParted': WHATEVER THE INPUT: true; the input reads as it did. -/
def quarrelPartedSpec : ChangeSpec := { name := "quarrelParted", fn := fun _ => fun
  | [d1, d2, d3] => { results := [.lit (.bool true)], args := [d1, d2, d3] }
  | _ => none }
def quarrelPartedRow : OpenClaim := { program := "ythoogegclpiefaa", sum := "c761b9520c242d8c098eb3bedcace1896484eee95045f4ba1898439af0a8307e", func := "aigrette/aigrettelaw12.QuarrelParted", spec := "quarrelParted", unfollowed := true, recurses := true, apart := false }
def QuarrelPartedSaid : Prop := quarrelPartedRow.holds Try.pinned (OpenSpec.ofChange quarrelPartedSpec)

/-- ITS FALSE NEIGHBOUR: 'it returns false'. Refute it at one input. -/
def quarrelPartedWrong : ChangeSpec := { name := "quarrelParted", fn := fun _ => fun
  | [d1, d2, d3] => { results := [.lit (.bool false)], args := [d1, d2, d3] }
  | _ => none }
def QuarrelPartedWrongFalsely : Prop := quarrelPartedRow.holds Try.pinned (OpenSpec.ofChange quarrelPartedWrong)

/-- 'aigrettelaw12.QuarrelTuran': WHATEVER THE INPUT: true; the input reads as it did. -/
def quarrelTuranSpec : ChangeSpec := { name := "quarrelTuran", fn := fun _ => fun
  | [d1, d2] => { results := [.lit (.bool true)], args := [d1, d2] }
  | _ => none }
def quarrelTuranRow : OpenClaim := { program := "ythoogegclpiefaa", sum := "c761b9520c242d8c098eb3bedcace1896484eee95045f4ba1898439af0a8307e", func := "aigrette/aigrettelaw12.QuarrelTuran", spec := "quarrelTuran", unfollowed := true, recurses := true, apart := false }
def QuarrelTuranSaid : Prop := quarrelTuranRow.holds Try.pinned (OpenSpec.ofChange quarrelTuranSpec)

/-- ITS FALSE NEIGHBOUR: 'it returns false'. Refute it at one input. -/
def quarrelTuranWrong : ChangeSpec := { name := "quarrelTuran", fn := fun _ => fun
  | [d1, d2] => { results := [.lit (.bool false)], args := [d1, d2] }
  | _ => none }
def QuarrelTuranWrongFalsely : Prop := quarrelTuranRow.holds Try.pinned (OpenSpec.ofChange quarrelTuranWrong)

/-- 'aigrettelaw12.QuarrelNamed': WHATEVER THE INPUT: true; the input reads as it did. -/
def quarrelNamedSpec : ChangeSpec := { name := "quarrelNamed", fn := fun _ => fun
  | [d1, d2, d3] => { results := [.lit (.bool true)], args := [d1, d2, d3] }
  | _ => none }
def quarrelNamedRow : OpenClaim := { program := "ythoogegclpiefaa", sum := "c761b9520c242d8c098eb3bedcace1896484eee95045f4ba1898439af0a8307e", func := "aigrette/aigrettelaw12.QuarrelNamed", spec := "quarrelNamed", unfollowed := true, recurses := true, apart := false }
def QuarrelNamedSaid : Prop := quarrelNamedRow.holds Try.pinned (OpenSpec.ofChange quarrelNamedSpec)

/-- ITS FALSE NEIGHBOUR: 'it returns false'. Refute it at one input. -/
def quarrelNamedWrong : ChangeSpec := { name := "quarrelNamed", fn := fun _ => fun
  | [d1, d2, d3] => { results := [.lit (.bool false)], args := [d1, d2, d3] }
  | _ => none }
def QuarrelNamedWrongFalsely : Prop := quarrelNamedRow.holds Try.pinned (OpenSpec.ofChange quarrelNamedWrong)

/- THE SECOND FORM. 'bulk': how many values and letters a reading holds, each counted each time it is reached (what is shared counts as often as it is met; a slice's spare places count too). A statement '..UptoSaid' is the law's where the arguments, and the package variables that the reading takes, are together of bulk at most 1048576: NARROWER than '..Said'. Prove '..Said' where nothing that the law and all that it calls make is longer than what came in: it says more and counts as full. Else prove '..UptoSaid'. A law counts once. -/
mutual
def uptoBulk {H : Type} : DataW H → Nat
  | .lit (.string bytes) => bytes.length + 1
  | .lit _ => 1
  | .nil => 1
  | .ptr d => uptoBulk d + 1
  | .slice elems spare => uptoBulkAll elems + uptoBulkAll spare + 1
  | .agg parts => uptoBulkAll parts + 1
  | .iface _ d => uptoBulk d + 1
  | .map entries => uptoBulkEntries entries + 1
  | .held _ => 1
def uptoBulkAll {H : Type} : List (DataW H) → Nat
  | [] => 0
  | d :: r => uptoBulk d + uptoBulkAll r
def uptoBulkEntries {H : Type} : List (Lit × DataW H) → Nat
  | [] => 0
  | x :: r => uptoBulkEntry x + uptoBulkEntries r
def uptoBulkEntry {H : Type} : Lit × DataW H → Nat
  | (.string bytes, d) => bytes.length + uptoBulk d + 1
  | (_, d) => uptoBulk d + 1
 end
def uptoSmall : (H : Type) → List (DataW H) → Bool := fun _ ds => decide (uptoBulkAll ds ≤ 1048576)
def OpenSpec.upto (s : _root_.Go.ChangeSpec) : _root_.Go.OpenSpec := { _root_.Go.OpenSpec.ofChange s with cond := some uptoSmall }

/-- 'aigrettelaw12.QuarrelRooms', WHERE WHAT IT READS IS OF BULK AT MOST 1048576: true; the input reads as it did. -/
def quarrelRoomsUptoRow : OpenClaim := { program := "ythoogegclpiefaa", sum := "c761b9520c242d8c098eb3bedcace1896484eee95045f4ba1898439af0a8307e", func := "aigrette/aigrettelaw12.QuarrelRooms", spec := "quarrelRooms", unfollowed := true, recurses := true, apart := false, narrowed := true }
def QuarrelRoomsUptoSaid : Prop := quarrelRoomsUptoRow.holds Try.pinned (OpenSpec.upto quarrelRoomsSpec)

/-- 'aigrettelaw12.QuarrelCopies', WHERE WHAT IT READS IS OF BULK AT MOST 1048576: true; the input reads as it did. -/
def quarrelCopiesUptoRow : OpenClaim := { program := "ythoogegclpiefaa", sum := "c761b9520c242d8c098eb3bedcace1896484eee95045f4ba1898439af0a8307e", func := "aigrette/aigrettelaw12.QuarrelCopies", spec := "quarrelCopies", unfollowed := true, recurses := true, apart := false, narrowed := true }
def QuarrelCopiesUptoSaid : Prop := quarrelCopiesUptoRow.holds Try.pinned (OpenSpec.upto quarrelCopiesSpec)

/-- 'aigrettelaw12.QuarrelMost', WHERE WHAT IT READS IS OF BULK AT MOST 1048576: true; the input reads as it did. -/
def quarrelMostUptoRow : OpenClaim := { program := "ythoogegclpiefaa", sum := "c761b9520c242d8c098eb3bedcace1896484eee95045f4ba1898439af0a8307e", func := "aigrette/aigrettelaw12.QuarrelMost", spec := "quarrelMost", unfollowed := true, recurses := true, apart := false, narrowed := true }
def QuarrelMostUptoSaid : Prop := quarrelMostUptoRow.holds Try.pinned (OpenSpec.upto quarrelMostSpec)

/-- 'aigrettelaw12.QuarrelZykov', WHERE WHAT IT READS IS OF BULK AT MOST 1048576: true; the input reads as it did. -/
def quarrelZykovUptoRow : OpenClaim := { program := "ythoogegclpiefaa", sum := "c761b9520c242d8c098eb3bedcace1896484eee95045f4ba1898439af0a8307e", func := "aigrette/aigrettelaw12.QuarrelZykov", spec := "quarrelZykov", unfollowed := true, recurses := true, apart := false, narrowed := true }
def QuarrelZykovUptoSaid : Prop := quarrelZykovUptoRow.holds Try.pinned (OpenSpec.upto quarrelZykovSpec)

/-- 'aigrettelaw12.QuarrelCounted', WHERE WHAT IT READS IS OF BULK AT MOST 1048576: true; the input reads as it did. -/
def quarrelCountedUptoRow : OpenClaim := { program := "ythoogegclpiefaa", sum := "c761b9520c242d8c098eb3bedcace1896484eee95045f4ba1898439af0a8307e", func := "aigrette/aigrettelaw12.QuarrelCounted", spec := "quarrelCounted", unfollowed := true, recurses := true, apart := false, narrowed := true }
def QuarrelCountedUptoSaid : Prop := quarrelCountedUptoRow.holds Try.pinned (OpenSpec.upto quarrelCountedSpec)

/-- 'aigrettelaw12.QuarrelRoomed', WHERE WHAT IT READS IS OF BULK AT MOST 1048576: true; the input reads as it did. -/
def quarrelRoomedUptoRow : OpenClaim := { program := "ythoogegclpiefaa", sum := "c761b9520c242d8c098eb3bedcace1896484eee95045f4ba1898439af0a8307e", func := "aigrette/aigrettelaw12.QuarrelRoomed", spec := "quarrelRoomed", unfollowed := true, recurses := true, apart := false, narrowed := true }
def QuarrelRoomedUptoSaid : Prop := quarrelRoomedUptoRow.holds Try.pinned (OpenSpec.upto quarrelRoomedSpec)

/-- 'aigrettelaw12.QuarrelBrawls', WHERE WHAT IT READS IS OF BULK AT MOST 1048576: true; the input reads as it did. -/
def quarrelBrawlsUptoRow : OpenClaim := { program := "ythoogegclpiefaa", sum := "c761b9520c242d8c098eb3bedcace1896484eee95045f4ba1898439af0a8307e", func := "aigrette/aigrettelaw12.QuarrelBrawls", spec := "quarrelBrawls", unfollowed := true, recurses := true, apart := false, narrowed := true }
def QuarrelBrawlsUptoSaid : Prop := quarrelBrawlsUptoRow.holds Try.pinned (OpenSpec.upto quarrelBrawlsSpec)

/-- 'aigrettelaw12.QuarrelKnown', WHERE WHAT IT READS IS OF BULK AT MOST 1048576: true; the input reads as it did. -/
def quarrelKnownUptoRow : OpenClaim := { program := "ythoogegclpiefaa", sum := "c761b9520c242d8c098eb3bedcace1896484eee95045f4ba1898439af0a8307e", func := "aigrette/aigrettelaw12.QuarrelKnown", spec := "quarrelKnown", unfollowed := true, recurses := true, apart := false, narrowed := true }
def QuarrelKnownUptoSaid : Prop := quarrelKnownUptoRow.holds Try.pinned (OpenSpec.upto quarrelKnownSpec)

/-- 'aigrettelaw12.QuarrelParted', WHERE WHAT IT READS IS OF BULK AT MOST 1048576: true; the input reads as it did. -/
def quarrelPartedUptoRow : OpenClaim := { program := "ythoogegclpiefaa", sum := "c761b9520c242d8c098eb3bedcace1896484eee95045f4ba1898439af0a8307e", func := "aigrette/aigrettelaw12.QuarrelParted", spec := "quarrelParted", unfollowed := true, recurses := true, apart := false, narrowed := true }
def QuarrelPartedUptoSaid : Prop := quarrelPartedUptoRow.holds Try.pinned (OpenSpec.upto quarrelPartedSpec)

/-- 'aigrettelaw12.QuarrelTuran', WHERE WHAT IT READS IS OF BULK AT MOST 1048576: true; the input reads as it did. -/
def quarrelTuranUptoRow : OpenClaim := { program := "ythoogegclpiefaa", sum := "c761b9520c242d8c098eb3bedcace1896484eee95045f4ba1898439af0a8307e", func := "aigrette/aigrettelaw12.QuarrelTuran", spec := "quarrelTuran", unfollowed := true, recurses := true, apart := false, narrowed := true }
def QuarrelTuranUptoSaid : Prop := quarrelTuranUptoRow.holds Try.pinned (OpenSpec.upto quarrelTuranSpec)

/-- 'aigrettelaw12.QuarrelNamed', WHERE WHAT IT READS IS OF BULK AT MOST 1048576: true; the input reads as it did. -/
def quarrelNamedUptoRow : OpenClaim := { program := "ythoogegclpiefaa", sum := "c761b9520c242d8c098eb3bedcace1896484eee95045f4ba1898439af0a8307e", func := "aigrette/aigrettelaw12.QuarrelNamed", spec := "quarrelNamed", unfollowed := true, recurses := true, apart := false, narrowed := true }
def QuarrelNamedUptoSaid : Prop := quarrelNamedUptoRow.holds Try.pinned (OpenSpec.upto quarrelNamedSpec)

end Rows
end Go.Proofs.Ythoogegclpiefaa
