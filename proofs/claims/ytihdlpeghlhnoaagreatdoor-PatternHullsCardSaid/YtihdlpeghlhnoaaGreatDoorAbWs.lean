/-
  The rules as a set for 'simp'.
-/
import Derived.Test.YtihdlpeghlhnoaaGreatDoorAbWq
import Derived.Attr
set_option linter.all false
namespace Go.Ab
variable {env : Env} {base bar : Nat} {fr : Frame} {H : Heap} {pure : Bool} {Q : PQ}

/-! What comes later is held in words of its own, without binders: so 'simp' does not look into it. -/
section
variable {env : Env} {base bar : Nat} {fr : Frame} {H : Heap} {d : Option Nat} {op : AOp} {t : Nat} {e p : Bool} {l : List Nat} {lo hi : Nat} {r : List AOper} {hs : List Heap} {tcs : List (List Nat)} {pend : List (Nat × Nat × Nat)} {Q : Frame → Heap → Prop} {R : PQ}
def regAt (R : PQ) (fr : Frame) (H : Heap) : Prop := R .normal fr H
theorem regAt_nil : regAt R [] H = R .normal [] H := (rfl)
theorem regAt_cons {x : Nat × AV} : regAt R (x :: fr) H = R .normal (x :: fr) H := (rfl)
def regK (keep : List Nat) (R : PQ) (fr : Frame) (H : Heap) : Prop := regAt R (fkeep keep fr) H
theorem regK_def {keep : List Nat} : regK keep R fr H = regAt R (fkeep keep fr) H := (rfl)
theorem wp_reg_s {ops : List AOper} {keep : List Nat} : Wp env base bar (.reg ops keep) fr H R ↔ WpOps env base bar ops fr H (regK keep R) := wp_reg
theorem wp_dreg_s {ops : List AOper} {keep : List Nat} : Wp env base bar (.dreg ops keep) fr H R ↔ WpDraw env base bar ops fr [H] [] [] (regK keep R) := wp_dreg
def opsAt (env : Env) (base bar : Nat) (r : List AOper) (Q : Frame → Heap → Prop) (fr : Frame) (H : Heap) : Prop := WpOps env base bar r fr H Q
theorem opsAt_nil : opsAt env base bar r Q [] H = WpOps env base bar r [] H Q := (rfl)
theorem opsAt_cons {x : Nat × AV} : opsAt env base bar r Q (x :: fr) H = WpOps env base bar r (x :: fr) H Q := (rfl)
def opK (env : Env) (base bar : Nat) (r : List AOper) (d : Option Nat) (fr : Frame) (Q : Frame → Heap → Prop) (v : AV) (H : Heap) (_ : List Nat) : Prop := opsAt env base bar r Q (fput d v fr) H
theorem opK_def {v : AV} {tc : List Nat} : opK env base bar r d fr Q v H tc = opsAt env base bar r Q (fput d v fr) H := (rfl)
theorem wpops_op_s : WpOps env base bar (⟨d, op, none, e, p, l, lo, hi⟩ :: r) fr H Q ↔ WpOp env false base bar op fr H (opK env base bar r d fr Q) := wpops_op
/-- the operation, when its frame is known -/
def opAt (env : Env) (base bar : Nat) (d : Option Nat) (op : AOp) (r : List AOper) (Q : Frame → Heap → Prop) (fr : Frame) (H : Heap) : Prop := WpOp env false base bar op fr H (opK env base bar r d fr Q)
theorem opAt_nil : opAt env base bar d op r Q [] H = WpOp env false base bar op [] H (opK env base bar r d [] Q) := (rfl)
theorem opAt_cons {x : Nat × AV} : opAt env base bar d op r Q (x :: fr) H = WpOp env false base bar op (x :: fr) H (opK env base bar r d (x :: fr) Q) := (rfl)
def guardAt (env : Env) (base bar : Nat) (x : Option AV) (t : Nat) (b : Bool) (d : Option Nat) (op : AOp) (r : List AOper) (Q : Frame → Heap → Prop) (fr : Frame) (H : Heap) : Prop :=
  guardWp x b (opAt env base bar d op r Q (fset t (.bool b) fr) H) (opsAt env base bar r Q (fput d (.tup []) (fset t (.bool (!b)) fr)) H) (opsAt env base bar r Q (fput d (.tup []) fr) H)
theorem guardAt_t {x : Bool} : guardAt env base bar (some (.bool x)) t true d op r Q fr H = if x = true then opAt env base bar d op r Q (fset t (.bool true) fr) H else opsAt env base bar r Q (fput d (.tup []) (fset t (.bool false) fr)) H := (rfl)
theorem guardAt_f {x : Bool} : guardAt env base bar (some (.bool x)) t false d op r Q fr H = if x = false then opAt env base bar d op r Q (fset t (.bool false) fr) H else opsAt env base bar r Q (fput d (.tup []) (fset t (.bool true) fr)) H := (rfl)
theorem guardAt_tup {b : Bool} {vs : List AV} : guardAt env base bar (some (.tup vs)) t b d op r Q fr H = opsAt env base bar r Q (fput d (.tup []) fr) H := (rfl)
theorem wpops_guard_s {b : Bool} : WpOps env base bar (⟨d, op, some (t, b), e, p, l, lo, hi⟩ :: r) fr H Q ↔ guardAt env base bar (fget t fr) t b d op r Q fr H := wpops_guard

/-! regions that draw -/
def drawAt (env : Env) (base bar : Nat) (r : List AOper) (hs : List Heap) (tcs : List (List Nat)) (pend : List (Nat × Nat × Nat)) (Q : Frame → Heap → Prop) (fr : Frame) : Prop := WpDraw env base bar r fr hs tcs pend Q
theorem drawAt_nil : drawAt env base bar r hs tcs pend Q [] = WpDraw env base bar r [] hs tcs pend Q := (rfl)
theorem drawAt_cons {x : Nat × AV} : drawAt env base bar r hs tcs pend Q (x :: fr) = WpDraw env base bar r (x :: fr) hs tcs pend Q := (rfl)
def effK (env : Env) (base bar : Nat) (r : List AOper) (d : Option Nat) (fr : Frame) (hs : List Heap) (tcs : List (List Nat)) (pend : List (Nat × Nat × Nat)) (Q : Frame → Heap → Prop) (v : AV) (H : Heap) (tc : List Nat) : Prop :=
  drawAt env base bar r (hs ++ [H]) (tcs ++ [tc]) pend Q (fput d v fr)
theorem effK_def {v : AV} {tc : List Nat} : effK env base bar r d fr hs tcs pend Q v H tc = drawAt env base bar r (hs ++ [H]) (tcs ++ [tc]) pend Q (fput d v fr) := (rfl)
/-- an operation of the chain of effects: 'fr1' is what it sees of the frame -/
def effAt (env : Env) (p : Bool) (base bar : Nat) (d : Option Nat) (op : AOp) (r : List AOper) (hs : List Heap) (tcs : List (List Nat)) (pend : List (Nat × Nat × Nat)) (Q : Frame → Heap → Prop) (fr : Frame) (o : Option Heap) (fr1 : Frame) : Prop :=
  match o with
  | some H => WpOp env p base bar op fr1 H (effK env base bar r d fr hs tcs pend Q)
  | none => False
theorem effAt_nil : effAt env p base bar d op r hs tcs pend Q fr (some H) [] = WpOp env p base bar op [] H (effK env base bar r d fr hs tcs pend Q) := (rfl)
theorem effAt_cons {x : Nat × AV} {fr1 : Frame} : effAt env p base bar d op r hs tcs pend Q fr (some H) (x :: fr1) = WpOp env p base bar op (x :: fr1) H (effK env base bar r d fr hs tcs pend Q) := (rfl)
theorem wpdraw_eff_s : WpDraw env base bar (⟨d, op, none, true, p, l, lo, hi⟩ :: r) fr hs tcs pend Q ↔ effAt env p base bar d op r hs tcs pend Q fr hs.getLast? (fkeep l fr) := by
  rw [wpdraw_eff]; unfold effAt; cases hs.getLast? <;> exact Iff.rfl
/-- where a read goes on -/
def seenAt (env : Env) (base bar : Nat) (r : List AOper) (lo hi : Nat) (hs : List Heap) (tcs : List (List Nat)) (pend : List (Nat × Nat × Nat)) (Q : Frame → Heap → Prop) (fr : Frame) (x : Option (Option Nat)) : Prop :=
  match x with
  | some none => drawAt env base bar r hs tcs pend Q fr
  | some (some id) => drawAt env base bar r hs tcs ((id, lo, hi) :: pend) Q fr
  | none => False
theorem seenAt_none : seenAt env base bar r lo hi hs tcs pend Q fr (some none) = drawAt env base bar r hs tcs pend Q fr := (rfl)
theorem seenAt_some {id : Nat} : seenAt env base bar r lo hi hs tcs pend Q fr (some (some id)) = drawAt env base bar r hs tcs ((id, lo, hi) :: pend) Q fr := (rfl)
def readK (env : Env) (base bar : Nat) (op : AOp) (r : List AOper) (d : Option Nat) (lo hi : Nat) (fr fr1 : Frame) (H0 : Heap) (hs : List Heap) (tcs : List (List Nat)) (pend : List (Nat × Nat × Nat)) (Q : Frame → Heap → Prop) (v : AV) (H : Heap) (tc : List Nat) : Prop :=
  (tc.isEmpty = true ∧ H.length = H0.length) ∧ if lo = hi then drawAt env base bar r hs tcs pend Q (fput d v fr) else seenAt env base bar r lo hi hs tcs pend Q (fput d v fr) (readOf op fr1)
theorem readK_def {v : AV} {tc : List Nat} {fr1 : Frame} {H0 : Heap} : readK env base bar op r d lo hi fr fr1 H0 hs tcs pend Q v H tc = ((tc.isEmpty = true ∧ H.length = H0.length) ∧ if lo = hi then drawAt env base bar r hs tcs pend Q (fput d v fr) else seenAt env base bar r lo hi hs tcs pend Q (fput d v fr) (readOf op fr1)) := (rfl)
def readAtF (env : Env) (base bar : Nat) (d : Option Nat) (op : AOp) (lo hi : Nat) (r : List AOper) (hs : List Heap) (tcs : List (List Nat)) (pend : List (Nat × Nat × Nat)) (Q : Frame → Heap → Prop) (fr : Frame) (o : Option Heap) (fr1 : Frame) : Prop :=
  match o with
  | some H => WpOp env true base bar op fr1 H (readK env base bar op r d lo hi fr fr1 H hs tcs pend Q)
  | none => False
theorem readAtF_nil : readAtF env base bar d op lo hi r hs tcs pend Q fr (some H) [] = WpOp env true base bar op [] H (readK env base bar op r d lo hi fr [] H hs tcs pend Q) := (rfl)
theorem readAtF_cons {x : Nat × AV} {fr1 : Frame} : readAtF env base bar d op lo hi r hs tcs pend Q fr (some H) (x :: fr1) = WpOp env true base bar op (x :: fr1) H (readK env base bar op r d lo hi fr (x :: fr1) H hs tcs pend Q) := (rfl)
theorem readWp_seen {fr1 : Frame} : readWp env base bar op lo hi fr1 r fr hs tcs pend Q = if lo = hi then drawAt env base bar r hs tcs pend Q fr else seenAt env base bar r lo hi hs tcs pend Q fr (readOf op fr1) := by
  unfold readWp seenAt drawAt; rfl
theorem wpdraw_read_s : WpDraw env base bar (⟨d, op, none, false, p, l, lo, hi⟩ :: r) fr hs tcs pend Q ↔ readAtF env base bar d op lo hi r hs tcs pend Q fr hs[lo]? (fkeep l fr) := by
  rw [wpdraw_read]; unfold readAtF; cases hs[lo]? with
  | none => exact Iff.rfl
  | some H => simp only [readWp_seen]; exact Iff.rfl
/-- under a condition: what is done, with the condition known -/
def geffAt (env : Env) (p : Bool) (base bar : Nat) (t : Nat) (b : Bool) (d : Option Nat) (op : AOp) (l : List Nat) (r : List AOper) (hs : List Heap) (tcs : List (List Nat)) (pend : List (Nat × Nat × Nat)) (Q : Frame → Heap → Prop) (fr : Frame) (o : Option Heap) (x : Option AV) : Prop :=
  match o with
  | some H => guardWp x b (effGo env p base bar d op l r hs tcs pend Q H (fset t (.bool b) fr)) (drawAt env base bar r (hs ++ [H]) (tcs ++ [[]]) pend Q (fput d (.tup []) (fset t (.bool (!b)) fr))) (drawAt env base bar r (hs ++ [H]) (tcs ++ [[]]) pend Q (fput d (.tup []) fr))
  | none => False
where
  effGo (env : Env) (p : Bool) (base bar : Nat) (d : Option Nat) (op : AOp) (l : List Nat) (r : List AOper) (hs : List Heap) (tcs : List (List Nat)) (pend : List (Nat × Nat × Nat)) (Q : Frame → Heap → Prop) (H : Heap) (fr : Frame) : Prop :=
    effAt env p base bar d op r hs tcs pend Q fr (some H) (fkeep l fr)
theorem effGo_cons {x : Nat × AV} : geffAt.effGo env p base bar d op l r hs tcs pend Q H (x :: fr) = effAt env p base bar d op r hs tcs pend Q (x :: fr) (some H) (fkeep l (x :: fr)) := (rfl)
theorem geffAt_t {x : Bool} : geffAt env p base bar t true d op l r hs tcs pend Q fr (some H) (some (.bool x)) = if x = true then geffAt.effGo env p base bar d op l r hs tcs pend Q H (fset t (.bool true) fr) else drawAt env base bar r (hs ++ [H]) (tcs ++ [[]]) pend Q (fput d (.tup []) (fset t (.bool false) fr)) := (rfl)
theorem geffAt_f {x : Bool} : geffAt env p base bar t false d op l r hs tcs pend Q fr (some H) (some (.bool x)) = if x = false then geffAt.effGo env p base bar d op l r hs tcs pend Q H (fset t (.bool false) fr) else drawAt env base bar r (hs ++ [H]) (tcs ++ [[]]) pend Q (fput d (.tup []) (fset t (.bool true) fr)) := (rfl)
theorem geffAt_tup {b : Bool} {vs : List AV} : geffAt env p base bar t b d op l r hs tcs pend Q fr (some H) (some (.tup vs)) = drawAt env base bar r (hs ++ [H]) (tcs ++ [[]]) pend Q (fput d (.tup []) fr) := (rfl)
theorem wpdraw_geff_s {b : Bool} : WpDraw env base bar (⟨d, op, some (t, b), true, p, l, lo, hi⟩ :: r) fr hs tcs pend Q ↔ geffAt env p base bar t b d op l r hs tcs pend Q fr hs.getLast? (fget t (fkeep l fr)) := by
  rw [wpdraw_geff]; unfold geffAt; cases hs.getLast? <;> exact Iff.rfl
def greadAt (env : Env) (base bar : Nat) (t : Nat) (b : Bool) (d : Option Nat) (op : AOp) (l : List Nat) (lo hi : Nat) (r : List AOper) (hs : List Heap) (tcs : List (List Nat)) (pend : List (Nat × Nat × Nat)) (Q : Frame → Heap → Prop) (fr : Frame) (last o : Option Heap) (x : Option AV) : Prop :=
  match last with
  | some _ => guardWp x b (readGo env base bar d op l lo hi r hs tcs pend Q o (fset t (.bool b) fr)) (drawAt env base bar r hs tcs pend Q (fput d (.tup []) (fset t (.bool (!b)) fr))) (drawAt env base bar r hs tcs pend Q (fput d (.tup []) fr))
  | none => False
where
  readGo (env : Env) (base bar : Nat) (d : Option Nat) (op : AOp) (l : List Nat) (lo hi : Nat) (r : List AOper) (hs : List Heap) (tcs : List (List Nat)) (pend : List (Nat × Nat × Nat)) (Q : Frame → Heap → Prop) (o : Option Heap) (fr : Frame) : Prop :=
    readAtF env base bar d op lo hi r hs tcs pend Q fr o (fkeep l fr)
theorem readGo_cons {x : Nat × AV} {o : Option Heap} : greadAt.readGo env base bar d op l lo hi r hs tcs pend Q o (x :: fr) = readAtF env base bar d op lo hi r hs tcs pend Q (x :: fr) o (fkeep l (x :: fr)) := (rfl)
theorem greadAt_t {x : Bool} {o : Option Heap} : greadAt env base bar t true d op l lo hi r hs tcs pend Q fr (some H) o (some (.bool x)) = if x = true then greadAt.readGo env base bar d op l lo hi r hs tcs pend Q o (fset t (.bool true) fr) else drawAt env base bar r hs tcs pend Q (fput d (.tup []) (fset t (.bool false) fr)) := (rfl)
theorem greadAt_f {x : Bool} {o : Option Heap} : greadAt env base bar t false d op l lo hi r hs tcs pend Q fr (some H) o (some (.bool x)) = if x = false then greadAt.readGo env base bar d op l lo hi r hs tcs pend Q o (fset t (.bool false) fr) else drawAt env base bar r hs tcs pend Q (fput d (.tup []) (fset t (.bool true) fr)) := (rfl)
theorem greadAt_tup {b : Bool} {vs : List AV} {o : Option Heap} : greadAt env base bar t b d op l lo hi r hs tcs pend Q fr (some H) o (some (.tup vs)) = drawAt env base bar r hs tcs pend Q (fput d (.tup []) fr) := (rfl)
theorem wpdraw_gread_s {b : Bool} : WpDraw env base bar (⟨d, op, some (t, b), false, p, l, lo, hi⟩ :: r) fr hs tcs pend Q ↔ greadAt env base bar t b d op l lo hi r hs tcs pend Q fr hs.getLast? hs[lo]? (fget t (fkeep l fr)) := by
  rw [wpdraw_gread]; unfold greadAt greadAt.readGo readAtF drawAt
  cases hs.getLast? with
  | none => cases hs[lo]? <;> exact Iff.rfl
  | some _ => cases hs[lo]? with
    | none => exact Iff.rfl
    | some H => simp only [readWp_seen]; exact Iff.rfl

/-! operations with several operands -/
variable {pure : Bool} {K : AV → Heap → List Nat → Prop} {L : AV → Heap → Prop}
def callK (env : Env) (pure : Bool) (f : FuncId) (vs : List AV) (H : Heap) (K : AV → Heap → List Nat → Prop) (v : AV) (H' : Heap) : Prop := K v H' (touchQ env pure f H vs)
theorem callK_def {f : FuncId} {vs : List AV} {v : AV} {H' : Heap} : callK env pure f vs H K v H' = K v H' (touchQ env pure f H vs) := (rfl)
theorem touchQ_true {f : FuncId} {H : Heap} {vs : List AV} : touchQ env true f H vs = if AV.noVec.noVecs vs = true then [] else if rawOf env f = true then [] else if vs.all (flatV H) = true then idsV vs else List.range H.length := by
  unfold touchQ touchA; simp only [if_true]; split <;> split <;> rfl
theorem touchQ_false {f : FuncId} {H : Heap} {vs : List AV} : touchQ env false f H vs = List.range H.length := (rfl)
attribute [go_sem] touchQ_true touchQ_false
def callAt (env : Env) (pure : Bool) (base bar : Nat) (f : FuncId) (vs : Option (List AV)) (H : Heap) (K : AV → Heap → List Nat → Prop) : Prop :=
  match vs with
  | some vs => WpCall env pure base bar f vs H (callK env pure f vs H K)
  | none => False
theorem callAt_some {f : FuncId} {vs : List AV} : callAt env pure base bar f (some vs) H K = WpCall env pure base bar f vs H (callK env pure f vs H K) := (rfl)
theorem wpop_callF_s {f : FuncId} {args : List Opd} : WpOp env pure base bar (.callF f args) fr H K ↔ callAt env pure base bar f (evs fr args) H K := by
  rw [wpop_callF]; unfold callAt; cases evs fr args <;> exact Iff.rfl
def callVAt (env : Env) (pure : Bool) (base bar : Nat) (f : Option AV) (vs : Option (List AV)) (H : Heap) (K : AV → Heap → List Nat → Prop) : Prop :=
  match f with
  | some (.fn f first caps) => match vs with
    | some vs => WpCall env pure base bar f (first ++ vs ++ caps) H (callK env pure f (first ++ vs ++ caps) H K)
    | none => False
  | _ => False
theorem callVAt_some {f : FuncId} {first vs caps : List AV} : callVAt env pure base bar (some (.fn f first caps)) (some vs) H K = WpCall env pure base bar f (first ++ vs ++ caps) H (callK env pure f (first ++ vs ++ caps) H K) := (rfl)
theorem wpop_callV_s {x : Opd} {args : List Opd} : WpOp env pure base bar (.callV x args) fr H K ↔ callVAt env pure base bar (x.ev fr) (evs fr args) H K := by
  rw [wpop_callV]; unfold callVAt
  cases x.ev fr with
  | none => simp
  | some v => cases v with
    | fn f a b => cases evs fr args <;> exact Iff.rfl
    | _ => simp
def callIAt (env : Env) (pure : Bool) (base bar : Nat) (tbl : List (TypeId × FuncId)) (f : Option AV) (vs : Option (List AV)) (H : Heap) (K : AV → Heap → List Nat → Prop) : Prop :=
  match f with
  | some (.ifc t u) => match vs with
    | some vs => match tlook tbl t with
      | some f => WpCall env pure base bar f (u :: vs) H (callK env pure f (u :: vs) H K)
      | none => False
    | none => False
  | _ => False
theorem callIAt_some {tbl : List (TypeId × FuncId)} {t : TypeId} {u : AV} {vs : List AV} : callIAt env pure base bar tbl (some (.ifc t u)) (some vs) H K = match tlook tbl t with
    | some f => WpCall env pure base bar f (u :: vs) H (callK env pure f (u :: vs) H K)
    | none => False := (rfl)
theorem wpop_callI_s {tbl : List (TypeId × FuncId)} {x : Opd} {args : List Opd} : WpOp env pure base bar (.callI tbl x args) fr H K ↔ callIAt env pure base bar tbl (x.ev fr) (evs fr args) H K := by
  rw [wpop_callI]; unfold callIAt
  cases x.ev fr with
  | none => simp
  | some v => cases v with
    | ifc t u => cases evs fr args <;> exact Iff.rfl
    | _ => simp
def buildAt (zero : List AV) (parts : List (Nat × Nat × Opd)) (vs : Option (List AV)) (H : Heap) (K : AV → Heap → List Nat → Prop) : Prop :=
  match vs with
  | some vs => vs.any AV.isTup = false ∧ valWp ((fillA zero ((parts.zip vs).map fun (p, v) => (p.1, p.2.1, v))).map .agg) H K
  | none => False
theorem buildAt_some {zero : List AV} {parts : List (Nat × Nat × Opd)} {vs : List AV} : buildAt zero parts (some vs) H K = (vs.any AV.isTup = false ∧ valWp ((fillA zero ((parts.zip vs).map fun (p, v) => (p.1, p.2.1, v))).map .agg) H K) := (rfl)
theorem wpop_build_s {zero : List AV} {parts : List (Nat × Nat × Opd)} : WpOp env pure base bar (.build zero parts) fr H K ↔ buildAt zero parts (evs fr (parts.map (·.2.2))) H K := by
  rw [wpop_build]; unfold buildAt evsWp; cases evs fr (parts.map (·.2.2)) <;> exact Iff.rfl
def loadAt (ti : TI) (p : Option AV) (H : Heap) (K : AV → Heap → List Nat → Prop) : Prop :=
  match p with
  | some p => valWp (aload H ti p) H K
  | none => False
theorem loadAt_some {ti : TI} {p : AV} : loadAt ti (some p) H K = valWp (aload H ti p) H K := (rfl)
theorem wpop_load_s {ti : TI} {x : Opd} : WpOp env pure base bar (.load ti x) fr H K ↔ loadAt ti (x.ev fr) H K := by
  rw [wpop_load]; unfold loadAt evsWp; cases x.ev fr <;> exact Iff.rfl
def storeAt (base bar size : Nat) (p v : Option AV) (H : Heap) (K : AV → Heap → List Nat → Prop) : Prop :=
  match p with
  | some p => match v with
    | some v => storeWp base bar size p v H K
    | none => False
  | none => False
theorem storeAt_some {size : Nat} {p v : AV} : storeAt base bar size (some p) (some v) H K = storeWp base bar size p v H K := (rfl)
theorem wpop_store_s {size : Nat} {a v : Opd} : WpOp env pure base bar (.store size a v) fr H K ↔ storeAt base bar size (a.ev fr) (v.ev fr) H K := by
  rw [wpop_store]; unfold storeAt evsWp evs evs evs
  cases a.ev fr with
  | none => exact Iff.rfl
  | some p => cases v.ev fr <;> exact Iff.rfl
def mkfnAt (f : FuncId) (a b : Option (List AV)) (H : Heap) (K : AV → Heap → List Nat → Prop) : Prop :=
  match a with
  | some a => match b with
    | some b => K (.fn f a b) H []
    | none => False
  | none => False
theorem mkfnAt_some {f : FuncId} {a b : List AV} : mkfnAt f (some a) (some b) H K = K (.fn f a b) H [] := (rfl)
theorem wpop_mkfn_s {f : FuncId} {a b : List Opd} : WpOp env pure base bar (.mkfn f a b) fr H K ↔ mkfnAt f (evs fr a) (evs fr b) H K := by
  rw [wpop_mkfn]; unfold mkfnAt evsWp
  cases evs fr a with
  | none => exact Iff.rfl
  | some p => cases evs fr b <;> exact Iff.rfl
def extractAt (x : Option AV) (i : Nat) (H : Heap) (K : AV → Heap → List Nat → Prop) : Prop :=
  match x with
  | some (.tup vs) => valWp (vs[i]?) H K
  | _ => False
theorem extractAt_some {vs : List AV} {i : Nat} : extractAt (some (.tup vs)) i H K = valWp (vs[i]?) H K := (rfl)
theorem wpop_extract_s {x : Opd} {i : Nat} : WpOp env pure base bar (.extract x i) fr H K ↔ extractAt (x.ev fr) i H K := wpop_extract
def fldAt (off : Nat) (ti : TI) (x : Option AV) (H : Heap) (K : AV → Heap → List Nat → Prop) : Prop :=
  match x with
  | some (.agg cs) => valWp (part ti cs off) H K
  | _ => False
theorem fldAt_some {off : Nat} {ti : TI} {cs : List AV} : fldAt off ti (some (.agg cs)) H K = valWp (part ti cs off) H K := (rfl)
theorem wpop_fld_s {off : Nat} {ti : TI} {x : Opd} : WpOp env pure base bar (.fld off ti x) fr H K ↔ fldAt off ti (x.ev fr) H K := wpop_fld
def foffAt (off : Nat) (ti : TI) (x : Option AV) (H : Heap) (K : AV → Heap → List Nat → Prop) : Prop :=
  match x with
  | some (.ptr id ver o) => K (.ptr id ver (o + off)) H []
  | some (.fp (.agg cs)) => valWp ((part ti cs off).map .fp) H K
  | _ => False
theorem foffAt_ptr {off id ver o : Nat} {ti : TI} : foffAt off ti (some (.ptr id ver o)) H K = K (.ptr id ver (o + off)) H [] := (rfl)
theorem foffAt_fp {off : Nat} {ti : TI} {cs : List AV} : foffAt off ti (some (.fp (.agg cs))) H K = valWp ((part ti cs off).map .fp) H K := (rfl)
theorem wpop_foff_s {off : Nat} {ti : TI} {x : Opd} : WpOp env pure base bar (.foff off ti x) fr H K ↔ foffAt off ti (x.ev fr) H K := wpop_foff
def condAt (env : Env) (base bar : Nat) (x : Option AV) (a b : ACode) (fr : Frame) (H : Heap) (R : PQ) : Prop :=
  match x with
  | some (.bool x) => if x = true then Wp env base bar a fr H R else Wp env base bar b fr H R
  | _ => False
theorem condAt_some {x : Bool} {a b : ACode} : condAt env base bar (some (.bool x)) a b fr H R = if x = true then Wp env base bar a fr H R else Wp env base bar b fr H R := (rfl)
theorem wp_cond_s {c : Opd} {a b : ACode} : Wp env base bar (.cond c a b) fr H R ↔ condAt env base bar (c.ev fr) a b fr H R := wp_cond
def frzAt (env : Env) (base bar : Nat) (c : ACode) (s : Option St) (R : PQ) : Prop :=
  match s with
  | some st => Wp env base bar c st.fr st.H R
  | none => False
theorem frzAt_some {c : ACode} : frzAt env base bar c (some ⟨fr, H⟩) R = Wp env base bar c fr H R := (rfl)
theorem wp_frz_s {ts : List Nat} {c : ACode} : Wp env base bar (.frz ts c) fr H R ↔ frzAt env base bar c (frzSlots bar ts ⟨fr, H⟩) R := by
  rw [wp_frz]; unfold frzAt; cases frzSlots bar ts ⟨fr, H⟩ <;> exact Iff.rfl
end
attribute [go_sem] guardAt_tup geffAt_tup greadAt_tup regAt_nil regAt_cons regK_def opsAt_nil opsAt_cons opK_def opAt_nil opAt_cons guardAt_t guardAt_f drawAt_nil drawAt_cons effK_def effAt_nil effAt_cons seenAt_none seenAt_some readK_def readAtF_nil readAtF_cons effGo_cons geffAt_t geffAt_f readGo_cons greadAt_t greadAt_f
attribute [go_sem] callK_def callAt_some callVAt_some callIAt_some tlook buildAt_some loadAt_some storeAt_some mkfnAt_some extractAt_some fldAt_some foffAt_ptr foffAt_fp condAt_some frzAt_some

attribute [go_sem ↓] wp_seq wp_reg_s wp_dreg_s wpops_op_s wpops_guard_s wpops_nil wpdraw_nil wpdraw_eff_s wpdraw_read_s wpdraw_geff_s wpdraw_gread_s wp_cond_s wp_block wp_ret wp_exit wp_skip wp_fresh wp_frz_s wp_scope wp_label wp_goto
attribute [go_sem ↓] wpop_mv wpop_pick wpop_alloc wpop_box wpop_build_s wpop_load_s wpop_store_s wpop_nilck wpop_bin wpop_eq wpop_un wpop_conv wpop_mkfn_s wpop_extract_s wpop_len wpop_fld_s wpop_foff_s wpop_ixaS wpop_ixaA wpop_ix
attribute [go_sem ↓] wpop_bslice wpop_mkslice wpop_slice wpop_ixStr wpop_lenStr wpop_clr wpop_mkmap wpop_mlook wpop_mupd wpop_mlookA wpop_mupdA wpop_mlen wpop_mkifc wpop_tass wpop_s2a wpop_mxmn wpop_callF_s wpop_callV_s wpop_callI_s

@[go_sem] theorem evsWp_some {vs : List AV} {K : List AV → Prop} : evsWp (some vs) K = K vs := (rfl)
@[go_sem] theorem frzWp_some {vs : List AV} {af : AFun} {L : AV → Heap → Prop} : frzWp env pure base bar af L (some (vs, H)) = WpFun env pure base bar af vs H L := (rfl)
@[go_sem] theorem readOf_mv {x : Opd} : readOf (.mv x) fr = some none := (rfl)
@[go_sem] theorem readOf_pick {a b c : Opd} : readOf (.pick a b c) fr = some none := (rfl)
@[go_sem] theorem readOf_build {a : List AV} {b : List (Nat × Nat × Opd)} : readOf (.build a b) fr = some none := (rfl)
@[go_sem] theorem readOf_nilck {x : Opd} : readOf (.nilck x) fr = some none := (rfl)
@[go_sem] theorem readOf_bin {o : BinOp} {x y : Opd} : readOf (.bin o x y) fr = some none := (rfl)
@[go_sem] theorem readOf_eq {n : Bool} {k : EK} {x y : Opd} : readOf (.eq n k x y) fr = some none := (rfl)
@[go_sem] theorem readOf_un {o : UnOp} {x : Opd} : readOf (.un o x) fr = some none := (rfl)
@[go_sem] theorem readOf_conv {k : IntKind} {x : Opd} : readOf (.conv k x) fr = some none := (rfl)
@[go_sem] theorem readOf_mkfn {f : FuncId} {a b : List Opd} : readOf (.mkfn f a b) fr = some none := (rfl)
@[go_sem] theorem readOf_foff {o : Nat} {ti : TI} {x : Opd} : readOf (.foff o ti x) fr = some none := (rfl)
@[go_sem] theorem readOf_fld {o : Nat} {ti : TI} {x : Opd} : readOf (.fld o ti x) fr = some none := (rfl)
@[go_sem] theorem readOf_ixaS {n : Nat} {x y : Opd} : readOf (.ixaS n x y) fr = some none := (rfl)
@[go_sem] theorem readOf_ixaA {n : Nat} {ti : TI} {x y : Opd} : readOf (.ixaA n ti x y) fr = some none := (rfl)
@[go_sem] theorem readOf_ix {n : Nat} {ti : TI} {x y : Opd} : readOf (.ix n ti x y) fr = some none := (rfl)
@[go_sem] theorem readOf_ixStr {x y : Opd} : readOf (.ixStr x y) fr = some none := (rfl)
@[go_sem] theorem readOf_extract {x : Opd} {i : Nat} : readOf (.extract x i) fr = some none := (rfl)
@[go_sem] theorem readOf_len {x : Opd} : readOf (.len x) fr = some none := (rfl)
@[go_sem] theorem readOf_lenStr {x : Opd} : readOf (.lenStr x) fr = some none := (rfl)
@[go_sem] theorem readOf_mxmn {b : Bool} {xs : List Opd} : readOf (.mxmn b xs) fr = some none := (rfl)
def readAt (p : Option AV) : Option (Option Nat) :=
  match p with
  | some (.ptr id _ _) => some (some id)
  | some (.fp _) => some none
  | _ => none
@[go_sem] theorem readAt_ptr {a b c : Nat} : readAt (some (.ptr a b c)) = some (some a) := (rfl)
@[go_sem] theorem readAt_fp {x : AV} : readAt (some (.fp x)) = some none := (rfl)
@[go_sem] theorem readOf_load {ti : TI} {x : Opd} : readOf (.load ti x) fr = readAt (x.ev fr) := (rfl)
def readSl (p : Option AV) : Option (Option Nat) :=
  match p with
  | some (.vec id _ _ _ _) => some (some id)
  | some (.lst _ _ _) => some none
  | some (.fp _) => some none
  | some .nils => some none
  | _ => none
@[go_sem] theorem readSl_vec {a b c d e : Nat} : readSl (some (.vec a b c d e)) = some (some a) := (rfl)
@[go_sem] theorem readSl_lst {a : Nat} {e : Bool} {xs : List AV} : readSl (some (.lst a e xs)) = some none := (rfl)
@[go_sem] theorem readSl_fp {x : AV} : readSl (some (.fp x)) = some none := (rfl)
@[go_sem] theorem readSl_nils : readSl (some .nils) = some none := (rfl)
@[go_sem] theorem readOf_slice {k : SK} {x : Opd} {lo hi mx : Option Opd} : readOf (.slice k x lo hi mx) fr = readSl (x.ev fr) := (rfl)
def readMp (p : Option AV) : Option (Option Nat) :=
  match p with
  | some (.mp id) => some (some id)
  | some .nilm => some none
  | _ => none
@[go_sem] theorem readMp_mp {a : Nat} : readMp (some (.mp a)) = some (some a) := (rfl)
@[go_sem] theorem readMp_nil : readMp (some .nilm) = some none := (rfl)
@[go_sem] theorem readOf_mlook {z : AV} {ok : Bool} {m k : Opd} : readOf (.mlook z ok m k) fr = readMp (m.ev fr) := (rfl)
@[go_sem] theorem readOf_mlookA {ks : List Bool} {z : AV} {ok : Bool} {m k : Opd} : readOf (.mlookA ks z ok m k) fr = readMp (m.ev fr) := (rfl)
def readVs (p : Option (List AV)) : Option (Option Nat) :=
  match p with
  | some vs => if AV.noVec.noVecs vs then some none else none
  | none => none
@[go_sem] theorem readVs_some {vs : List AV} : readVs (some vs) = if AV.noVec.noVecs vs = true then some none else none := (rfl)
@[go_sem] theorem readOf_bslice {n : Nat} {cs : List AV} {ps : List (Nat × Opd)} : readOf (.bslice n cs ps) fr = readVs (evs fr (ps.map (·.2))) := (rfl)
@[go_sem] theorem clearOf_nil {id : Nat} : clearOf id [] = true := (rfl)
@[go_sem] theorem clearOf_cons {id : Nat} {tc : List Nat} {r : List (List Nat)} : clearOf id (tc :: r) = (!tc.contains id && clearOf id r) := (rfl)
attribute [go_sem] valWp_some valWp_none opWp_some

@[go_sem] theorem pickWp_true {a b : Option AV} {K : AV → Heap → List Nat → Prop} : pickWp (some (.bool true)) a b H K = valWp a H K := (rfl)
@[go_sem] theorem pickWp_false {a b : Option AV} {K : AV → Heap → List Nat → Prop} : pickWp (some (.bool false)) a b H K = valWp b H K := (rfl)
theorem pickWp_if {x : Bool} {a b : Option AV} {K : AV → Heap → List Nat → Prop} : pickWp (some (.bool x)) a b H K = if x = true then valWp a H K else valWp b H K := by cases x <;> rfl

@[go_sem] theorem boxWp_some {v : AV} {K : AV → Heap → List Nat → Prop} : boxWp (some v) H K = (v.isTup = false ∧ K (.ptr H.length 0 0) (H ++ [.row 0 v.cells 0 true]) []) := (rfl)
@[go_sem] theorem nilckWp_ptr {i v o : Nat} {K : AV → Heap → List Nat → Prop} : nilckWp (some (.ptr i v o)) H K = K (.ptr i v o) H [] := (rfl)
@[go_sem] theorem nilckWp_fp {v : AV} {K : AV → Heap → List Nat → Prop} : nilckWp (some (.fp v)) H K = K (.fp v) H [] := (rfl)
@[go_sem] theorem nilckWp_fn {f : FuncId} {a b : List AV} {K : AV → Heap → List Nat → Prop} : nilckWp (some (.fn f a b)) H K = K (.fn f a b) H [] := (rfl)
@[go_sem] theorem binWp_some {op : BinOp} {x y : AV} {K : AV → Heap → List Nat → Prop} : binWp op (some x) (some y) H K = valWp (abin op x y) H K := (rfl)
@[go_sem] theorem unWp_some {op : UnOp} {x : AV} {K : AV → Heap → List Nat → Prop} : unWp op (some x) H K = valWp (aun op x) H K := (rfl)
@[go_sem] theorem eqWp_int {neg : Bool} {k : IntKind} {a b : Int} {K : AV → Heap → List Nat → Prop} : eqWp neg .int (some (.int k a)) (some (.int k b)) H K = K (.bool (if neg then !(a == b) else (a == b))) H [] := by
  simp [eqWp, aeq, eqCell]
@[go_sem] theorem eqWp_bool {neg : Bool} {a b : Bool} {K : AV → Heap → List Nat → Prop} : eqWp neg .bool (some (.bool a)) (some (.bool b)) H K = K (.bool (if neg then !(a == b) else (a == b))) H [] := by
  simp [eqWp, aeq, eqCell]
theorem eqWp_def {neg : Bool} {k : EK} {a b : AV} {K : AV → Heap → List Nat → Prop} : eqWp neg k (some a) (some b) H K = match aeq k a b with
    | some r => K (.bool (if neg then !r else r)) H []
    | none => False := (rfl)
@[go_sem] theorem convWp_int {k k' : IntKind} {n : Int} {K : AV → Heap → List Nat → Prop} : convWp k (some (.int k' n)) H K = K (.int k (k.wrap n)) H [] := (rfl)
@[go_sem] theorem lenWp_nils {K : AV → Heap → List Nat → Prop} : lenWp (some .nils) H K = K (.int .i64 0) H [] := (rfl)
@[go_sem] theorem lenWp_lst {sz : Nat} {ex : Bool} {xs : List AV} {K : AV → Heap → List Nat → Prop} : lenWp (some (.lst sz ex xs)) H K = K (.int .i64 xs.length) H [] := (rfl)
@[go_sem] theorem lenWp_vec {a b c n sz : Nat} {K : AV → Heap → List Nat → Prop} : lenWp (some (.vec a b c n sz)) H K = K (.int .i64 n) H [] := (rfl)
@[go_sem] theorem ixaSWp_lst {sz sz' : Nat} {ex : Bool} {xs : List AV} {k : IntKind} {i : Int} {K : AV → Heap → List Nat → Prop} :
    ixaSWp sz (some (.lst sz' ex xs)) (some (.int k i)) H K = (0 ≤ i ∧ sz' = sz ∧ valWp ((xs[i.toNat]?).map .fp) H K) := (rfl)
@[go_sem] theorem ixaSWp_vec {sz sz' a b c n : Nat} {k : IntKind} {i : Int} {K : AV → Heap → List Nat → Prop} :
    ixaSWp sz (some (.vec a b c n sz')) (some (.int k i)) H K = (0 ≤ i ∧ sz' = sz ∧ i.toNat < n ∧ K (.ptr a b (c + i.toNat * sz)) H []) := (rfl)
@[go_sem] theorem ixaAWp_ptr {n a b o : Nat} {ti : TI} {k : IntKind} {i : Int} {K : AV → Heap → List Nat → Prop} :
    ixaAWp n ti (some (.ptr a b o)) (some (.int k i)) H K = (0 ≤ i ∧ i.toNat < n ∧ K (.ptr a b (o + i.toNat * ti.size)) H []) := (rfl)
@[go_sem] theorem ixaAWp_fp {n : Nat} {cs : List AV} {ti : TI} {k : IntKind} {i : Int} {K : AV → Heap → List Nat → Prop} :
    ixaAWp n ti (some (.fp (.agg cs))) (some (.int k i)) H K = (0 ≤ i ∧ i.toNat < n ∧ valWp ((part ti cs (i.toNat * ti.size)).map .fp) H K) := (rfl)
@[go_sem] theorem ixWp_agg {n : Nat} {cs : List AV} {ti : TI} {k : IntKind} {i : Int} {K : AV → Heap → List Nat → Prop} :
    ixWp n ti (some (.agg cs)) (some (.int k i)) H K = (0 ≤ i ∧ i.toNat < n ∧ valWp (part ti cs (i.toNat * ti.size)) H K) := (rfl)

/-! frames -/
def hasN (u : Nat) : List Nat → Bool
  | [] => false
  | x :: r => if u = x then true else hasN u r
theorem hasN_contains {u : Nat} : ∀ {l : List Nat}, hasN u l = l.contains u
  | [] => rfl
  | x :: r => by
    simp only [hasN, List.contains_cons, hasN_contains (l := r)]
    by_cases h : u = x
    · simp [h]
    · simp [h]
@[go_sem] theorem hasN_nil {u : Nat} : hasN u [] = false := (rfl)
@[go_sem] theorem hasN_cons {u x : Nat} {r : List Nat} : hasN u (x :: r) = if u = x then true else hasN u r := (rfl)
def resCons (x : Option AV) (y : Option (List AV)) : Option (List AV) :=
  match x with
  | none => none
  | some v => match y with
    | none => none
    | some vs => some (v :: vs)
@[go_sem] theorem resCons_some {v : AV} {vs : List AV} : resCons (some v) (some vs) = some (v :: vs) := (rfl)

@[go_sem] theorem ev_t {n : Nat} : Opd.ev fr (.t n) = fget n fr := (rfl)
@[go_sem] theorem ev_c {v : AV} : Opd.ev fr (.c v) = some v := (rfl)
@[go_sem] theorem fget_cons {t u : Nat} {v : AV} {r : Frame} : fget t ((u, v) :: r) = if t = u then some v else fget t r := fgetC
@[go_sem] theorem fset_nil {t : Nat} {v : AV} : fset t v [] = [(t, v)] := (rfl)
@[go_sem] theorem fset_cons {t u : Nat} {v x : AV} {r : Frame} : fset t v ((u, x) :: r) = if t = u then (t, v) :: r else (u, x) :: fset t v r := fsetC
@[go_sem] theorem fput_some {t : Nat} {v : AV} : fput (some t) v fr = fset t v fr := (rfl)
@[go_sem] theorem fput_none {v : AV} : fput none v fr = fr := (rfl)
@[go_sem] theorem fkeep_nil {l : List Nat} : fkeep l [] = [] := (rfl)
@[go_sem] theorem fkeep_cons {l : List Nat} {u : Nat} {x : AV} {r : Frame} : fkeep l ((u, x) :: r) = if hasN u l = true then (u, x) :: fkeep l r else fkeep l r := by
  simp only [fkeepN, fkeepC, hasN_contains]
@[go_sem] theorem evs_nil : evs fr [] = some [] := (rfl)
@[go_sem] theorem evs_cons {x : Opd} {r : List Opd} : evs fr (x :: r) = resCons (x.ev fr) (evs fr r) := by
  simp only [evs, resCons]
  cases x.ev fr with
  | none => rfl
  | some v => cases evs fr r <;> rfl
@[go_sem] theorem frame0_nil {i : Nat} : frame0 i [] = [] := (rfl)
@[go_sem] theorem frame0_cons {i : Nat} {v : AV} {r : List AV} : frame0 i (v :: r) = (i, v) :: frame0 (i + 1) r := (rfl)
attribute [go_sem] baseOf barOf

@[go_sem] theorem thenWp_normal {b : ACode} : thenWp env base bar b Q .normal fr H = Wp env base bar b fr H Q := (rfl)
@[go_sem] theorem thenWp_exit {b : ACode} {i : Nat} : thenWp env base bar b Q (.exit i) fr H = Q (.exit i) fr H := (rfl)
@[go_sem] theorem thenWp_ret {b : ACode} : thenWp env base bar b Q .ret fr H = Q .ret fr H := (rfl)
@[go_sem] theorem thenWp_goto {b : ACode} {i : Nat} : thenWp env base bar b Q (.goto i) fr H = Q (.goto i) fr H := (rfl)
@[go_sem] theorem exitWp_normal {i : Nat} : exitWp i Q .normal fr H = Q .normal fr H := (rfl)
@[go_sem] theorem exitWp_ret {i : Nat} : exitWp i Q .ret fr H = Q .ret fr H := (rfl)
@[go_sem] theorem exitWp_goto {i j : Nat} : exitWp i Q (.goto j) fr H = Q (.goto j) fr H := (rfl)
@[go_sem] theorem exitWp_exit {i j : Nat} : exitWp i Q (.exit j) fr H = if j = i then Q .normal fr H else Q (.exit j) fr H := (rfl)
@[go_sem] theorem gotoWp_normal {b : ACode} : gotoWp env base bar b Q .normal fr H = Q .normal fr H := (rfl)
@[go_sem] theorem gotoWp_ret {b : ACode} : gotoWp env base bar b Q .ret fr H = Q .ret fr H := (rfl)
@[go_sem] theorem gotoWp_exit {b : ACode} {i : Nat} : gotoWp env base bar b Q (.exit i) fr H = Q (.exit i) fr H := (rfl)
@[go_sem] theorem freshWp_ret {ks : List Nat} {k : Nat} : freshWp ks k Q .ret fr H = Q .ret fr H := (rfl)
@[go_sem] theorem freshWp_normal {ks : List Nat} {k : Nat} : freshWp ks k Q .normal fr H = (ftop (fkeep ks fr) ≤ k ∧ Q .normal (fkeep ks fr) (H.take k)) := (rfl)
@[go_sem] theorem freshWp_exit {ks : List Nat} {k i : Nat} : freshWp ks k Q (.exit i) fr H = (ftop (fkeep ks fr) ≤ k ∧ Q (.exit i) (fkeep ks fr) (H.take k)) := (rfl)
@[go_sem] theorem freshWp_goto {ks : List Nat} {k i : Nat} : freshWp ks k Q (.goto i) fr H = (ftop (fkeep ks fr) ≤ k ∧ Q (.goto i) (fkeep ks fr) (H.take k)) := (rfl)
@[go_sem] theorem retWp_ret {m : Nat} {res : List ARes} {K : AV → Heap → Prop} : retWp m base bar res K .ret fr H = endWp m base bar res K fr H := (rfl)
@[go_sem] theorem retWp_normal {m : Nat} {res : List ARes} {K : AV → Heap → Prop} : retWp m base bar res K .normal fr H = endWp m base bar res K fr H := (rfl)

/-! numbers -/
@[go_sem] theorem abin_lss {k : IntKind} {a b : Int} : abin .lss (.int k a) (.int k b) = some (.bool (decide (a < b))) := by simp [abin, binInt]
@[go_sem] theorem abin_leq {k : IntKind} {a b : Int} : abin .leq (.int k a) (.int k b) = some (.bool (decide (a ≤ b))) := by simp [abin, binInt]
@[go_sem] theorem abin_gtr {k : IntKind} {a b : Int} : abin .gtr (.int k a) (.int k b) = some (.bool (decide (a > b))) := by simp [abin, binInt]
@[go_sem] theorem abin_geq {k : IntKind} {a b : Int} : abin .geq (.int k a) (.int k b) = some (.bool (decide (a ≥ b))) := by simp [abin, binInt]
@[go_sem] theorem abin_add {k : IntKind} {a b : Int} : abin .add (.int k a) (.int k b) = some (.int k (k.wrap (a + b))) := by simp [abin, binInt]
@[go_sem] theorem abin_sub {k : IntKind} {a b : Int} : abin .sub (.int k a) (.int k b) = some (.int k (k.wrap (a - b))) := by simp [abin, binInt]
@[go_sem] theorem abin_mul {k : IntKind} {a b : Int} : abin .mul (.int k a) (.int k b) = some (.int k (k.wrap (a * b))) := by simp [abin, binInt]
theorem abin_quo {k : IntKind} {a b : Int} (h : b ≠ 0) : abin .quo (.int k a) (.int k b) = some (.int k (k.wrap (a.tdiv b))) := by simp [abin, binInt, h]
theorem abin_rem {k : IntKind} {a b : Int} (h : b ≠ 0) : abin .rem (.int k a) (.int k b) = some (.int k (a.tmod b)) := by simp [abin, binInt, h]
@[go_sem] theorem aun_not {b : Bool} : aun .not (.bool b) = some (.bool !b) := (rfl)
@[go_sem] theorem aun_neg {k : IntKind} {n : Int} : aun .neg (.int k n) = some (.int k (k.wrap (0 - n))) := (rfl)


/-! blocks of one's own -/
@[go_sem] theorem own_get0 {H l : List Blk} : (H ++ l)[H.length]? = l[0]? := by simp [List.getElem?_append_right]
@[go_sem] theorem own_get {H l : List Blk} {k : Nat} : (H ++ l)[H.length + k]? = l[k]? := by simp [List.getElem?_append_right]
@[go_sem] theorem own_set0 {H l : List Blk} {b : Blk} : (H ++ l).set H.length b = H ++ l.set 0 b := by simp
@[go_sem] theorem own_set {H l : List Blk} {k : Nat} {b : Blk} : (H ++ l).set (H.length + k) b = H ++ l.set k b := by simp
@[go_sem] theorem own_take {H l : List Blk} {k : Nat} : (H ++ l).take (H.length + k) = H ++ l.take k := by
  rw [List.take_append, List.take_of_length_le (by omega)]; simp
theorem old_get {H l : List Blk} {i : Nat} {b : Blk} (h : H[i]? = some b) : (H ++ l)[i]? = some b := by
  rw [List.getElem?_append_left (List.getElem?_eq_some_iff.1 h).1]; exact h

/-! freezing -/
@[go_sem] theorem frz_int {d : Nat} {k : IntKind} {n : Int} : frz (d + 1) bar H (.int k n) = some (.int k n, H) := (rfl)
@[go_sem] theorem frz_bool {d : Nat} {b : Bool} : frz (d + 1) bar H (.bool b) = some (.bool b, H) := (rfl)
@[go_sem] theorem frz_str {d : Nat} {b : ByteArray} : frz (d + 1) bar H (.str b) = some (.str b, H) := (rfl)
@[go_sem] theorem frz_nils {d : Nat} : frz (d + 1) bar H .nils = some (.nils, H) := (rfl)
@[go_sem] theorem frz_nilp {d : Nat} : frz (d + 1) bar H .nilp = some (.nilp, H) := (rfl)
@[go_sem] theorem frz_nilf {d : Nat} : frz (d + 1) bar H .nilf = some (.nilf, H) := (rfl)
@[go_sem] theorem frz_nilm {d : Nat} : frz (d + 1) bar H .nilm = some (.nilm, H) := (rfl)
@[go_sem] theorem frz_lst {d sz : Nat} {ex : Bool} {xs : List AV} : frz (d + 1) bar H (.lst sz ex xs) = some (.lst sz ex xs, H) := (rfl)
@[go_sem] theorem frz_fp {d : Nat} {x : AV} : frz (d + 1) bar H (.fp x) = some (.fp x, H) := (rfl)
@[go_sem] theorem frz_ptr {d a b c : Nat} : frz (d + 1) bar H (.ptr a b c) = some (.ptr a b c, H) := (rfl)
@[go_sem] theorem frz_fn {d : Nat} {f : FuncId} {a b : List AV} : frz (d + 1) bar H (.fn f a b) = some (.fn f a b, H) := (rfl)
@[go_sem] theorem frz_agg {d : Nat} {cs : List AV} : frz (d + 1) bar H (.agg cs) = match frzsW (frz d bar) H cs with
    | some (xs, H') => some (.agg xs, H')
    | none => none := (rfl)
@[go_sem] theorem frzsW_nil {f : Heap → AV → Option (AV × Heap)} : frzsW f H [] = some ([], H) := (rfl)
@[go_sem] theorem frzsW_cons {f : Heap → AV → Option (AV × Heap)} {x : AV} {r : List AV} : frzsW f H (x :: r) = match f H x with
    | some (y, H1) => match frzsW f H1 r with
      | some (ys, H2) => some (y :: ys, H2)
      | none => none
    | none => none := (rfl)
theorem frzsW_id {f : Heap → AV → Option (AV × Heap)} : ∀ {l : List AV}, (∀ x ∈ l, f H x = some (x, H)) → frzsW f H l = some (l, H)
  | [], _ => rfl
  | x :: r, h => by rw [frzsW_cons, h x (List.mem_cons_self ..)]; simp only; rw [frzsW_id fun y hy => h y (List.mem_cons_of_mem _ hy)]
@[go_sem] theorem frzsW_ints {d : Nat} {k : IntKind} {l : List Int} : frzsW (frz (d + 1) bar) H (l.map (.int k)) = some (l.map (.int k), H) :=
  frzsW_id fun x hx => by
    obtain ⟨n, _, rfl⟩ := List.mem_map.1 hx
    rfl
attribute [go_sem] frzAll frz.frzs

/-! what values name -/
@[go_sem] theorem cells_int {k : IntKind} {n : Int} : AV.cells (.int k n) = [(.int k n)] := (rfl)
@[go_sem] theorem isTup_int {k : IntKind} {n : Int} : AV.isTup (.int k n) = false := (rfl)
@[go_sem] theorem cells_bool {b : Bool} : AV.cells (.bool b) = [(.bool b)] := (rfl)
@[go_sem] theorem isTup_bool {b : Bool} : AV.isTup (.bool b) = false := (rfl)
@[go_sem] theorem cells_str {b : ByteArray} : AV.cells (.str b) = [(.str b)] := (rfl)
@[go_sem] theorem isTup_str {b : ByteArray} : AV.isTup (.str b) = false := (rfl)
@[go_sem] theorem cells_nilp  : AV.cells .nilp = [.nilp] := (rfl)
@[go_sem] theorem isTup_nilp  : AV.isTup .nilp = false := (rfl)
@[go_sem] theorem cells_nils  : AV.cells .nils = [.nils] := (rfl)
@[go_sem] theorem isTup_nils  : AV.isTup .nils = false := (rfl)
@[go_sem] theorem cells_nilm  : AV.cells .nilm = [.nilm] := (rfl)
@[go_sem] theorem isTup_nilm  : AV.isTup .nilm = false := (rfl)
@[go_sem] theorem cells_nilf  : AV.cells .nilf = [.nilf] := (rfl)
@[go_sem] theorem isTup_nilf  : AV.isTup .nilf = false := (rfl)
@[go_sem] theorem cells_lst {sz : Nat} {ex : Bool} {xs : List AV} : AV.cells (.lst sz ex xs) = [(.lst sz ex xs)] := (rfl)
@[go_sem] theorem isTup_lst {sz : Nat} {ex : Bool} {xs : List AV} : AV.isTup (.lst sz ex xs) = false := (rfl)
@[go_sem] theorem cells_fp {x : AV} : AV.cells (.fp x) = [(.fp x)] := (rfl)
@[go_sem] theorem isTup_fp {x : AV} : AV.isTup (.fp x) = false := (rfl)
@[go_sem] theorem cells_ptr {a b c : Nat} : AV.cells (.ptr a b c) = [(.ptr a b c)] := (rfl)
@[go_sem] theorem isTup_ptr {a b c : Nat} : AV.isTup (.ptr a b c) = false := (rfl)
@[go_sem] theorem cells_vec {a b c d e : Nat} : AV.cells (.vec a b c d e) = [(.vec a b c d e)] := (rfl)
@[go_sem] theorem isTup_vec {a b c d e : Nat} : AV.isTup (.vec a b c d e) = false := (rfl)
@[go_sem] theorem cells_fn {f : FuncId} {a b : List AV} : AV.cells (.fn f a b) = [(.fn f a b)] := (rfl)
@[go_sem] theorem isTup_fn {f : FuncId} {a b : List AV} : AV.isTup (.fn f a b) = false := (rfl)
@[go_sem] theorem cells_agg {cs : List AV} : AV.cells (.agg cs) = cs := (rfl)
@[go_sem] theorem isTup_agg {cs : List AV} : AV.isTup (.agg cs) = false := (rfl)
@[go_sem] theorem isTup_tup {cs : List AV} : AV.isTup (.tup cs) = true := (rfl)
@[go_sem] theorem top_int {k : IntKind} {n : Int} : AV.top (.int k n) = 0 := (rfl)
@[go_sem] theorem top_bool {b : Bool} : AV.top (.bool b) = 0 := (rfl)
@[go_sem] theorem top_str {b : ByteArray} : AV.top (.str b) = 0 := (rfl)
@[go_sem] theorem top_nils : AV.top .nils = 0 := (rfl)
@[go_sem] theorem top_nilp : AV.top .nilp = 0 := (rfl)
@[go_sem] theorem top_nilf : AV.top .nilf = 0 := (rfl)
@[go_sem] theorem top_nilm : AV.top .nilm = 0 := (rfl)
@[go_sem] theorem top_agg {cs : List AV} : AV.top (.agg cs) = AV.top.tops cs := (rfl)
@[go_sem] theorem top_tup {cs : List AV} : AV.top (.tup cs) = AV.top.tops cs := (rfl)
@[go_sem] theorem top_lst {sz : Nat} {ex : Bool} {cs : List AV} : AV.top (.lst sz ex cs) = AV.top.tops cs := (rfl)
@[go_sem] theorem top_fp {x : AV} : AV.top (.fp x) = x.top := (rfl)
@[go_sem] theorem top_ptr {a b c : Nat} : AV.top (.ptr a b c) = a + 1 := (rfl)
@[go_sem] theorem top_vec {a b c d e : Nat} : AV.top (.vec a b c d e) = a + 1 := (rfl)
@[go_sem] theorem top_fn {f : FuncId} {a b : List AV} : AV.top (.fn f a b) = max (AV.top.tops a) (AV.top.tops b) := (rfl)
@[go_sem] theorem tops_nil : AV.top.tops [] = 0 := (rfl)
@[go_sem] theorem tops_cons {x : AV} {r : List AV} : AV.top.tops (x :: r) = max x.top (AV.top.tops r) := (rfl)
@[go_sem] theorem tops_append {l r : List AV} : AV.top.tops (l ++ r) = max (AV.top.tops l) (AV.top.tops r) := by
  induction l with
  | nil => simp [tops_nil]
  | cons x l ih => simp [tops_cons, ih, Nat.max_assoc]
theorem tops_zero : ∀ {l : List AV}, (∀ x ∈ l, x.top = 0) → AV.top.tops l = 0
  | [], _ => rfl
  | x :: r, h => by simp [tops_cons, h x (List.mem_cons_self ..), tops_zero fun y hy => h y (List.mem_cons_of_mem _ hy)]
@[go_sem] theorem tops_ints {k : IntKind} {l : List Int} : AV.top.tops (l.map (.int k)) = 0 := tops_zero fun x hx => by
  obtain ⟨n, _, rfl⟩ := List.mem_map.1 hx
  rfl

/-! what leaves -/
def outWp (r : Option (AV × Heap)) (K : AV → Heap → Prop) : Prop :=
  match r with
  | some (v, H') => K v H'
  | none => False
@[go_sem] theorem outWp_some {v : AV} {K : AV → Heap → Prop} : outWp (some (v, H)) K = K v H := (rfl)
def endAt (m base bar : Nat) (K : AV → Heap → Prop) (H : Heap) (vs : Option (List AV)) : Prop :=
  match vs with
  | some vs => outWp (leave m base bar vs H) K
  | none => False
@[go_sem] theorem endAt_some {m : Nat} {K : AV → Heap → Prop} {vs : List AV} : endAt m base bar K H (some vs) = outWp (leave m base bar vs H) K := (rfl)
@[go_sem ↓] theorem endWp_def {m : Nat} {res : List ARes} {K : AV → Heap → Prop} : endWp m base bar res K fr H = endAt m base bar K H (resOf fr H res) := by
  unfold endWp endAt outWp
  cases resOf fr H res <;> rfl

def cellOf (H : Heap) (ti : TI) (p : Option AV) : Option AV :=
  match p with
  | none => none
  | some p => aload H ti p
@[go_sem] theorem cellOf_some {ti : TI} {p : AV} : cellOf H ti (some p) = aload H ti p := (rfl)
@[go_sem] theorem resOf_nil : resOf fr H [] = some [] := (rfl)
@[go_sem] theorem resOf_tmp {t : Nat} {r : List ARes} : resOf fr H (.tmp t :: r) = resCons (fget t fr) (resOf fr H r) := by
  simp only [resOf, resCons]
  cases fget t fr with
  | none => rfl
  | some v => cases resOf fr H r <;> rfl
@[go_sem] theorem resOf_cell {t : Nat} {ti : TI} {r : List ARes} : resOf fr H (.cell t ti :: r) = resCons (cellOf H ti (fget t fr)) (resOf fr H r) := by
  simp only [resOf, resCons, cellOf]
  cases fget t fr with
  | none => rfl
  | some p =>
    simp only
    cases aload H ti p with
    | none => rfl
    | some v => cases resOf fr H r <;> rfl
@[go_sem] theorem tupled_nil : tupled [] = .tup [] := (rfl)
@[go_sem] theorem tupled_one {v : AV} : tupled [v] = v := (rfl)
@[go_sem] theorem tupled_two {v w : AV} {r : List AV} : tupled (v :: w :: r) = .tup (v :: w :: r) := (rfl)
/-- what leaves a call that drops its blocks -/
def leave0 (base : Nat) (r : Option (List AV × Heap)) : Option (AV × Heap) :=
  match r with
  | none => none
  | some (vs, H) => if AV.top.tops vs ≤ base then some (tupled vs, H.take base) else none
@[go_sem] theorem leave0_some {vs : List AV} : leave0 base (some (vs, H)) = if AV.top.tops vs ≤ base then some (tupled vs, H.take base) else none := (rfl)
@[go_sem] theorem leave_0 {vs : List AV} : leave 0 base bar vs H = leave0 base (frzAll bar H vs) := by
  simp only [leave, leave0]
  cases frzAll bar H vs <;> rfl
def leave2 (r : Option (List AV × Heap)) : Option (AV × Heap) :=
  match r with
  | none => none
  | some (vs, H) => some (tupled vs, H)
@[go_sem] theorem leave2_some {vs : List AV} : leave2 (some (vs, H)) = some (tupled vs, H) := (rfl)
@[go_sem] theorem leave_2 {vs : List AV} : leave 2 base bar vs H = leave2 (frzAll bar H vs) := by
  simp only [leave, leave2]
  cases frzAll bar H vs <;> rfl

@[go_sem] theorem leave_4 {vs : List AV} : leave 4 base bar vs H = some (tupled vs, H) := (rfl)
@[go_sem] theorem leave_3 {vs : List AV} : leave 3 base bar vs H = some (tupled vs, H) := (rfl)

/-- a bar below what is there stands below all that is new -/
theorem bar_ok {pure : Bool} (hb : bar ≤ H.length) : barOf pure H.length bar ≤ H.length := by
  unfold barOf; split <;> omega
end Go.Ab
