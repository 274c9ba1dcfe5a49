/-
  The points inside a piece, over the answers of its search and of its turns.
-/
import Derived.Test.YtihdlpeghlhnoaaGreatDoorIn1
import Derived.Test.YtihdlpeghlhnoaaGreatDoorIn3
set_option linter.all false
section
namespace Go.Proofs.YtihdlpeghlhnoaaGreatDoor.Code
open Go Go.Ab
def ie37 : FuncId × List AV × AV := (67, [L6], E16)
theorem ik37 : Kept Tryz.prog ie37 := keptQ (by kernel_rfl) (by kernel_rfl) (by kernel_rfl)
def ie6 : FuncId × List AV × AV := (27, [L6], .int .i64 (.ofNat 0))
theorem ik6 : Kept Tryz.prog ie6 := keptQ (by kernel_rfl) (by kernel_rfl) (by kernel_rfl)
theorem row_all {p : Nat → Nat → Bool} (h0 : ((List.range 12).all (p 0)) = true) (h1 : ((List.range 12).all (p 1)) = true) (h2 : ((List.range 12).all (p 2)) = true) (h3 : ((List.range 12).all (p 3)) = true)
    (h4 : ((List.range 12).all (p 4)) = true) (h5 : ((List.range 12).all (p 5)) = true) (h6 : ((List.range 12).all (p 6)) = true) (h7 : ((List.range 12).all (p 7)) = true)
    (h8 : ((List.range 12).all (p 8)) = true) (h9 : ((List.range 12).all (p 9)) = true) (h10 : ((List.range 12).all (p 10)) = true) (h11 : ((List.range 12).all (p 11)) = true) {x y : Nat} (hx : x < 12) (hy : y < 12) : p x y = true := by
  have go : ∀ {q : Nat → Bool}, ((List.range 12).all q) = true → q y = true := fun h => List.all_eq_true.1 h y (by simpa using hy)
  match x, hx with
  | 0, _ => exact go h0
  | 1, _ => exact go h1
  | 2, _ => exact go h2
  | 3, _ => exact go h3
  | 4, _ => exact go h4
  | 5, _ => exact go h5
  | 6, _ => exact go h6
  | 7, _ => exact go h7
  | 8, _ => exact go h8
  | 9, _ => exact go h9
  | 10, _ => exact go h10
  | 11, _ => exact go h11
theorem ea_all {x y : Nat} (hx : x < 12) (hy : y < 12) : ea x y = true := row_all ea_0 ea_1 ea_2 ea_3 ea_4 ea_5 ea_6 ea_7 ea_8 ea_9 ea_10 ea_11 hx hy
theorem eb_all {x y : Nat} (hx : x < 12) (hy : y < 12) : eb x y = true := row_all eb_0 eb_1 eb_2 eb_3 eb_4 eb_5 eb_6 eb_7 eb_8 eb_9 eb_10 eb_11 hx hy
def knowI (f : FuncId) (args : List AV) (H : Heap) : Option KRes := if f = 71 then (match args with
  | [l, .agg [.int .i64 (.ofNat x), .int .i64 (.ofNat y)]] => if (l.same L6 && Nat.blt x 12 && Nat.blt y 12 && !onE x y) = true then some { v := .bool (inL x y) } else none
  | _ => none) else if f = 107 then (match args with
  | [l, .agg [.int .i64 (.ofNat x), .int .i64 (.ofNat y)], .fn g [] []] => if (l.same E16 && Nat.beq g 95 && Nat.blt x 12 && Nat.blt y 12) = true then some { v := .tup [.int .i64 (Int.ofNat (idxE x y)), .bool (onE x y)] } else none
  | _ => none) else match knownT [ie37, ie6] f args H with
  | some k => some k
  | none => lib f args H
theorem kept_calls {f : FuncId} {args : List AV} {v : AV} (h : Kept Tryz.prog (f, args, v)) (H : Heap) : CallsTo Tryz.prog f H.length 0 (List.range H.length) args H v (applyUps [] H ++ []) := by
  simpa [applyUps] using h H
theorem knowI_ok : KnownOK Tryz.prog { funs := env.funs, known := knowI } := fun f args H k hk => by
  have hk' : knowI f args H = some k := hk
  unfold knowI at hk'
  split at hk'
  · rename_i e; subst e
    split at hk' <;> try (cases hk'; done)
    rename_i l x y
    split at hk' <;> try (cases hk'; done)
    rename_i hc
    simp only [Option.some.injEq] at hk'; subst hk'
    simp only [Bool.and_eq_true, Nat.blt_eq, Bool.not_eq_true'] at hc
    obtain ⟨⟨⟨h1, h2⟩, h3⟩, h4⟩ := hc
    obtain rfl := AV.same_eq _ _ h1
    have := ea_all h2 h3
    unfold ea at this
    rw [h4, Bool.false_or] at this
    exact kept_calls (keptQ this rfl rfl) H
  · split at hk'
    · rename_i e; subst e
      split at hk' <;> try (cases hk'; done)
      rename_i l x y g
      split at hk' <;> try (cases hk'; done)
      rename_i hc
      simp only [Option.some.injEq] at hk'; subst hk'
      simp only [Bool.and_eq_true, Nat.blt_eq] at hc
      obtain ⟨⟨⟨h1, h2⟩, h3⟩, h4⟩ := hc
      obtain rfl := AV.same_eq _ _ h1
      obtain rfl := Nat.eq_of_beq_eq_true h2
      exact kept_calls (keptQ (eb_all h3 h4) rfl rfl) H
    · split at hk'
      · rename_i k' h1
        cases hk'
        exact knownT_ok (env := { funs := env.funs, known := knownT [ie37, ie6] }) rfl (by simp only [List.forall_mem_cons]; exact ⟨ik37, ik6, by simp⟩) f args H k h1
      · exact lib_ok hk'
def EI : Env := { funs := env.funs, known := knowI }
theorem keptI {f : FuncId} {args : List AV} {v : AV} (h : okv (acallQ EI 200000 f args []) v = true) (ha : AV.top.tops args = 0) (hv : v.top = 0) : Kept Tryz.prog (f, args, v) := by
  rw [acallQ_eq] at h
  exact kept (env := EI) (funsOK rfl Code.tableOK) knowI_ok Code.mixed (okv_eq h) ha hv
end Go.Proofs.YtihdlpeghlhnoaaGreatDoor.Code
end

section
namespace Go.Proofs.YtihdlpeghlhnoaaGreatDoor.Code
open Go Go.Ab
def inLl : AV := .lst 2 false [pq 1 1, pq 1 2, pq 1 3, pq 2 1, pq 3 1]
theorem wkIn : Kept Tryz.prog (20, [L6], .tup [inLl, .int .i64 (.ofNat 0)]) := keptI (by kernel_rfl) (by kernel_rfl) (by kernel_rfl)
end Go.Proofs.YtihdlpeghlhnoaaGreatDoor.Code
end

