/-
  Rules for each operation.
-/
import Derived.Test.YtihdlpeghlhnoaaGreatDoorAbWp
set_option linter.all false
namespace Go.Ab
variable {env : Env} {base bar : Nat} {fr : Frame} {H : Heap} {pure : Bool} {Q : AV → Heap → List Nat → Prop}

theorem fset_get {t : Nat} {v : AV} : ∀ {fr : Frame}, fget t fr = some v → fset t v fr = fr
  | [], h => by simp [fgetN, fgetC] at h
  | (u, x) :: r, h => by
    simp only [fgetN, fgetC] at h
    simp only [fsetN, fsetC]
    split at h
    · rename_i he; subst he; simp only [Option.some.injEq] at h; subst h; simp
    · rename_i he; rw [if_neg he, fset_get h]

theorem fkeep_get {t : Nat} {l : List Nat} {v : AV} : ∀ {fr : Frame}, fget t (fkeep l fr) = some v → fget t fr = some v
  | [], h => by simp [fkeepN, fkeepC, fgetN, fgetC] at h
  | (u, x) :: r, h => by
    simp only [fkeepN, fkeepC] at h
    simp only [fgetN, fgetC]
    split at h
    · simp only [fgetN, fgetC] at h
      split at h
      · rename_i he; rw [if_pos he]; exact h
      · rename_i he; rw [if_neg he]; exact fkeep_get h
    · rename_i hc
      have := fkeep_get h
      by_cases he : t = u
      · subst he
        exfalso
        have : ∀ {fr : Frame}, l.contains t = false → fget t (fkeep l fr) = none := fun {fr} hl => by
          induction fr with
          | nil => rfl
          | cons p r ih =>
            obtain ⟨p1, p2⟩ := p
            simp only [fkeepN, fkeepC]
            split
            · rename_i hc2
              simp only [fgetN, fgetC]
              by_cases he : t = p1
              · subst he; rw [hl] at hc2; cases hc2
              · rw [if_neg he]; exact ih
            · exact ih
        rw [this (by simpa using hc)] at h
        cases h
      · rw [if_neg he]; exact this

theorem wpops_op {d : Option Nat} {op : AOp} {e p : Bool} {l : List Nat} {lo hi : Nat} {r : List AOper} {Q : Frame → Heap → Prop} :
    WpOps env base bar (⟨d, op, none, e, p, l, lo, hi⟩ :: r) fr H Q ↔ WpOp env false base bar op fr H (fun v H _ => WpOps env base bar r (fput d v fr) H Q) := wpops_cons

/-- an operation under a condition: what the condition is, is known from there on -/
def guardWp (x : Option AV) (b : Bool) (K : Prop) (L M : Prop) : Prop :=
  match x with
  | some (.bool x) => if x = b then K else L
  | some _ => M
  | none => False

theorem wpops_guard {d : Option Nat} {op : AOp} {t : Nat} {b e p : Bool} {l : List Nat} {lo hi : Nat} {r : List AOper} {Q : Frame → Heap → Prop} :
    WpOps env base bar (⟨d, op, some (t, b), e, p, l, lo, hi⟩ :: r) fr H Q ↔ guardWp (fget t fr) b
      (WpOp env false base bar op (fset t (.bool b) fr) H (fun v H _ => WpOps env base bar r (fput d v (fset t (.bool b) fr)) H Q))
      (WpOps env base bar r (fput d (.tup []) (fset t (.bool (!b)) fr)) H Q)
      (WpOps env base bar r (fput d (.tup []) fr) H Q) := by
  rw [wpops_cons]
  simp only [wantA, guardWp]
  cases hg : fget t fr with
  | none => simp
  | some v =>
    cases v with
    | bool x =>
      simp only
      by_cases hx : x = b
      · subst hx; simp only [beq_self_eq_true, if_true, fset_get hg]
      · have hb : (!b) = x := by revert hx; cases x <;> cases b <;> simp
        have : (x == b) = false := by simpa using hx
        simp only [this, hx, if_false, hb, fset_get hg]
    | _ => simp

theorem wpdraw_eff {d : Option Nat} {op : AOp} {p : Bool} {l : List Nat} {lo hi : Nat} {r : List AOper} {hs : List Heap} {tcs : List (List Nat)} {pend : List (Nat × Nat × Nat)} {Q : Frame → Heap → Prop} :
    WpDraw env base bar (⟨d, op, none, true, p, l, lo, hi⟩ :: r) fr hs tcs pend Q ↔ match hs.getLast? with
      | some H => WpOp env p base bar op (fkeep l fr) H (fun v H' tc => WpDraw env base bar r (fput d v fr) (hs ++ [H']) (tcs ++ [tc]) pend Q)
      | none => False := wpdraw_cons

theorem wpdraw_read {d : Option Nat} {op : AOp} {p : Bool} {l : List Nat} {lo hi : Nat} {r : List AOper} {hs : List Heap} {tcs : List (List Nat)} {pend : List (Nat × Nat × Nat)} {Q : Frame → Heap → Prop} :
    WpDraw env base bar (⟨d, op, none, false, p, l, lo, hi⟩ :: r) fr hs tcs pend Q ↔ match hs[lo]? with
      | some H => WpOp env true base bar op (fkeep l fr) H (fun v H' tc => (tc.isEmpty = true ∧ H'.length = H.length) ∧ readWp env base bar op lo hi (fkeep l fr) r (fput d v fr) hs tcs pend Q)
      | none => False := wpdraw_cons

theorem wpdraw_geff {d : Option Nat} {op : AOp} {t : Nat} {b p : Bool} {l : List Nat} {lo hi : Nat} {r : List AOper} {hs : List Heap} {tcs : List (List Nat)} {pend : List (Nat × Nat × Nat)} {Q : Frame → Heap → Prop} :
    WpDraw env base bar (⟨d, op, some (t, b), true, p, l, lo, hi⟩ :: r) fr hs tcs pend Q ↔ match hs.getLast? with
      | some H => guardWp (fget t (fkeep l fr)) b
        (WpOp env p base bar op (fkeep l (fset t (.bool b) fr)) H (fun v H' tc => WpDraw env base bar r (fput d v (fset t (.bool b) fr)) (hs ++ [H']) (tcs ++ [tc]) pend Q))
        (WpDraw env base bar r (fput d (.tup []) (fset t (.bool (!b)) fr)) (hs ++ [H]) (tcs ++ [[]]) pend Q)
        (WpDraw env base bar r (fput d (.tup []) fr) (hs ++ [H]) (tcs ++ [[]]) pend Q)
      | none => False := by
  rw [wpdraw_cons]
  simp only [wantA, guardWp]
  cases hg : fget t (fkeep l fr) with
  | none => cases hs.getLast? <;> simp
  | some v =>
    cases v with
    | bool x =>
      simp only
      by_cases hx : x = b
      · subst hx; simp only [beq_self_eq_true, if_true, fset_get (fkeep_get hg)]; cases hs.getLast? <;> exact Iff.rfl
      · have hb : (!b) = x := by revert hx; cases x <;> cases b <;> simp
        have : (x == b) = false := by simpa using hx
        simp only [this, hx, if_false, hb, fset_get (fkeep_get hg)]; cases hs.getLast? <;> exact Iff.rfl
    | _ => cases hs.getLast? <;> simp

theorem wpdraw_gread {d : Option Nat} {op : AOp} {t : Nat} {b p : Bool} {l : List Nat} {lo hi : Nat} {r : List AOper} {hs : List Heap} {tcs : List (List Nat)} {pend : List (Nat × Nat × Nat)} {Q : Frame → Heap → Prop} :
    WpDraw env base bar (⟨d, op, some (t, b), false, p, l, lo, hi⟩ :: r) fr hs tcs pend Q ↔ match hs[lo]?, hs.getLast? with
      | some H, some _ => guardWp (fget t (fkeep l fr)) b
        (WpOp env true base bar op (fkeep l (fset t (.bool b) fr)) H (fun v H' tc => (tc.isEmpty = true ∧ H'.length = H.length) ∧
          readWp env base bar op lo hi (fkeep l (fset t (.bool b) fr)) r (fput d v (fset t (.bool b) fr)) hs tcs pend Q))
        (WpDraw env base bar r (fput d (.tup []) (fset t (.bool (!b)) fr)) hs tcs pend Q)
        (WpDraw env base bar r (fput d (.tup []) fr) hs tcs pend Q)
      | none, some _ => guardWp (fget t (fkeep l fr)) b False
        (WpDraw env base bar r (fput d (.tup []) (fset t (.bool (!b)) fr)) hs tcs pend Q)
        (WpDraw env base bar r (fput d (.tup []) fr) hs tcs pend Q)
      | _, none => False := by
  rw [wpdraw_cons]
  simp only [wantA, guardWp]
  have hnone : hs.getLast? = none → hs[lo]? = none := fun h => by
    have : hs = [] := List.getLast?_eq_none_iff.1 h
    subst this; rfl
  cases hg : fget t (fkeep l fr) with
  | none => cases h1 : hs.getLast? <;> cases h2 : hs[lo]? <;> simp
  | some v =>
    cases v with
    | bool x =>
      simp only
      by_cases hx : x = b
      · subst hx
        cases h1 : hs.getLast? with
        | none => simp [hnone h1]
        | some H => cases h2 : hs[lo]? <;> simp [fset_get (fkeep_get hg)]
      · have hb : (!b) = x := by revert hx; cases x <;> cases b <;> simp
        have : (x == b) = false := by simpa using hx
        cases h1 : hs.getLast? with
        | none => simp [this]
        | some H => cases h2 : hs[lo]? <;> simp [this, hx, hb, fset_get (fkeep_get hg)]
    | _ =>
      cases h1 : hs.getLast? with
      | none => simp
      | some H => cases h2 : hs[lo]? <;> simp

/-- a value, if there is one -/
def valWp (v : Option AV) (H : Heap) (Q : AV → Heap → List Nat → Prop) : Prop :=
  match v with
  | some v => Q v H []
  | none => False

theorem valWp_some {v : AV} : valWp (some v) H Q = Q v H [] := (rfl)
theorem valWp_none : valWp none H Q = False := (rfl)

theorem val_iff {v : Option AV} : (match (match v with | some v => some (v, H, ([] : List Nat)) | none => none) with
    | some (v, H', tc) => Q v H' tc
    | none => False) ↔ valWp v H Q := by
  cases v <;> exact Iff.rfl

theorem wpop_mv {x : Opd} : WpOp env pure base bar (.mv x) fr H Q ↔ valWp (x.ev fr) H Q :=
  (wpop_still rfl).trans val_iff

def pickWp (c : Option AV) (a b : Option AV) (H : Heap) (Q : AV → Heap → List Nat → Prop) : Prop :=
  match c with
  | some (.bool true) => valWp a H Q
  | some (.bool false) => valWp b H Q
  | _ => False

theorem wpop_pick {c a b : Opd} : WpOp env pure base bar (.pick c a b) fr H Q ↔ pickWp (c.ev fr) (a.ev fr) (b.ev fr) H Q := by
  rw [wpop_still rfl]
  simp only [aop, pickWp]
  cases hc : c.ev fr with
  | none => simp
  | some v =>
    cases v with
    | bool x => cases x <;> exact val_iff
    | _ => simp

theorem wpop_alloc {z : AV} : WpOp env pure base bar (.alloc z) fr H Q ↔ z.isTup = false ∧ Q (.ptr H.length 0 0) (H ++ [.row 0 z.cells 0 true]) [] := by
  rw [wpop_still rfl]
  simp only [aop]
  cases z.isTup <;> simp

def boxWp (v : Option AV) (H : Heap) (Q : AV → Heap → List Nat → Prop) : Prop :=
  match v with
  | some v => v.isTup = false ∧ Q (.ptr H.length 0 0) (H ++ [.row 0 v.cells 0 true]) []
  | none => False

theorem wpop_box {x : Opd} : WpOp env pure base bar (.box x) fr H Q ↔ boxWp (x.ev fr) H Q := by
  rw [wpop_still rfl]
  simp only [aop, boxWp]
  cases x.ev fr with
  | none => simp
  | some v => simp only; cases v.isTup <;> simp

def evsWp (vs : Option (List AV)) (K : List AV → Prop) : Prop :=
  match vs with
  | some vs => K vs
  | none => False

theorem wpop_build {zero : List AV} {parts : List (Nat × Nat × Opd)} : WpOp env pure base bar (.build zero parts) fr H Q ↔
    evsWp (evs fr (parts.map (·.2.2))) (fun vs => vs.any AV.isTup = false ∧ valWp ((fillA zero ((parts.zip vs).map fun (p, v) => (p.1, p.2.1, v))).map .agg) H Q) := by
  rw [wpop_still rfl]
  simp only [aop, evsWp]
  cases evs fr (parts.map (·.2.2)) with
  | none => simp
  | some vs =>
    simp only
    cases vs.any AV.isTup
    · simp only [Bool.false_eq_true, if_false, true_and]; exact val_iff
    · simp

theorem wpop_load {ti : TI} {a : Opd} : WpOp env pure base bar (.load ti a) fr H Q ↔ evsWp ((a.ev fr).map fun x => [x]) (fun vs => match vs with
    | [p] => valWp (aload H ti p) H Q
    | _ => False) := by
  rw [wpop_still rfl]
  simp only [aop, evsWp]
  cases a.ev fr with
  | none => simp
  | some vs => simp only [Option.map]; exact val_iff

def storeWp (base bar : Nat) (size : Nat) (p v : AV) (H : Heap) (Q : AV → Heap → List Nat → Prop) : Prop :=
  v.isTup = false ∧ match astore base bar H size p v with
    | some (H', id) => Q (.tup []) H' [id]
    | none => False

theorem wpop_store {size : Nat} {a v : Opd} : WpOp env pure base bar (.store size a v) fr H Q ↔ evsWp (evs fr [a, v]) (fun vs => match vs with
    | [p, v] => storeWp base bar size p v H Q
    | _ => False) := by
  rw [wpop_still rfl]
  simp only [aop, evsWp, evs]
  cases a.ev fr with
  | none => simp
  | some p => cases v.ev fr with
    | none => simp
    | some v =>
      simp only [storeWp]
      cases v.isTup
      · simp only [Bool.false_eq_true, if_false, true_and]
        cases astore base bar H size p v with
        | none => simp
        | some r => simp
      · simp

def nilckWp (v : Option AV) (H : Heap) (Q : AV → Heap → List Nat → Prop) : Prop :=
  match v with
  | some (.ptr id ver off) => Q (.ptr id ver off) H []
  | some (.fp v) => Q (.fp v) H []
  | some (.fn f a b) => Q (.fn f a b) H []
  | _ => False

theorem wpop_nilck {x : Opd} : WpOp env pure base bar (.nilck x) fr H Q ↔ nilckWp (x.ev fr) H Q := by
  rw [wpop_still rfl]
  simp only [aop, nilckWp]
  cases x.ev fr with
  | none => simp
  | some v => cases v <;> simp

def binWp (op : BinOp) (x y : Option AV) (H : Heap) (Q : AV → Heap → List Nat → Prop) : Prop :=
  match x, y with
  | some a, some b => valWp (abin op a b) H Q
  | _, _ => False

theorem wpop_bin {op : BinOp} {x y : Opd} : WpOp env pure base bar (.bin op x y) fr H Q ↔ binWp op (x.ev fr) (y.ev fr) H Q := by
  rw [wpop_still rfl]
  simp only [aop, binWp]
  cases x.ev fr with
  | none => simp
  | some p => cases y.ev fr with
    | none => simp
    | some v => exact val_iff

def eqWp (neg : Bool) (k : EK) (x y : Option AV) (H : Heap) (Q : AV → Heap → List Nat → Prop) : Prop :=
  match x, y with
  | some a, some b => match aeq k a b with
    | some r => Q (.bool (if neg then !r else r)) H []
    | none => False
  | _, _ => False

theorem wpop_eq {neg : Bool} {k : EK} {x y : Opd} : WpOp env pure base bar (.eq neg k x y) fr H Q ↔ eqWp neg k (x.ev fr) (y.ev fr) H Q := by
  rw [wpop_still rfl]
  simp only [aop, eqWp]
  cases x.ev fr with
  | none => simp
  | some p => cases y.ev fr with
    | none => simp
    | some v =>
      simp only
      cases aeq k p v with
      | none => simp
      | some r => simp

def unWp (op : UnOp) (x : Option AV) (H : Heap) (Q : AV → Heap → List Nat → Prop) : Prop :=
  match x with
  | some a => valWp (aun op a) H Q
  | _ => False

theorem wpop_un {op : UnOp} {x : Opd} : WpOp env pure base bar (.un op x) fr H Q ↔ unWp op (x.ev fr) H Q := by
  rw [wpop_still rfl]
  simp only [aop, unWp]
  cases x.ev fr with
  | none => simp
  | some p => exact val_iff

def convWp (k : IntKind) (x : Option AV) (H : Heap) (Q : AV → Heap → List Nat → Prop) : Prop :=
  match x with
  | some (.int _ n) => Q (.int k (k.wrap n)) H []
  | _ => False

theorem wpop_conv {k : IntKind} {x : Opd} : WpOp env pure base bar (.conv k x) fr H Q ↔ convWp k (x.ev fr) H Q := by
  rw [wpop_still rfl]
  simp only [aop, convWp]
  cases x.ev fr with
  | none => simp
  | some p => cases p <;> simp

theorem wpop_mkfn {f : FuncId} {a b : List Opd} : WpOp env pure base bar (.mkfn f a b) fr H Q ↔ evsWp (evs fr a) (fun a => evsWp (evs fr b) (fun b => Q (.fn f a b) H [])) := by
  rw [wpop_still rfl]
  simp only [aop, evsWp]
  cases evs fr a with
  | none => simp
  | some p => cases evs fr b with
    | none => simp
    | some v => simp

theorem wpop_extract {x : Opd} {i : Nat} : WpOp env pure base bar (.extract x i) fr H Q ↔ match x.ev fr with
    | some (.tup vs) => valWp (vs[i]?) H Q
    | _ => False := by
  rw [wpop_still rfl]
  simp only [aop]
  cases x.ev fr with
  | none => simp
  | some p => cases p <;> first | exact val_iff | simp

def lenWp (x : Option AV) (H : Heap) (Q : AV → Heap → List Nat → Prop) : Prop :=
  match x with
  | some .nils => Q (.int .i64 0) H []
  | some (.lst _ _ xs) => Q (.int .i64 xs.length) H []
  | some (.vec _ _ _ n _) => Q (.int .i64 n) H []
  | _ => False

theorem wpop_len {x : Opd} : WpOp env pure base bar (.len x) fr H Q ↔ lenWp (x.ev fr) H Q := by
  rw [wpop_still rfl]
  simp only [aop, lenWp]
  cases x.ev fr with
  | none => simp
  | some p => cases p <;> simp

/-- any other operation that calls nothing -/
def opWp (r : Option (AV × Heap × List Nat)) (Q : AV → Heap → List Nat → Prop) : Prop :=
  match r with
  | some (v, H', tc) => Q v H' tc
  | none => False

theorem opWp_some {v : AV} {H' : Heap} {tc : List Nat} : opWp (some (v, H', tc)) Q = Q v H' tc := (rfl)

theorem wpop_fld {off : Nat} {ti : TI} {x : Opd} : WpOp env pure base bar (.fld off ti x) fr H Q ↔ match x.ev fr with
    | some (.agg cs) => valWp (part ti cs off) H Q
    | _ => False := by
  rw [wpop_still rfl]
  simp only [aop]
  cases x.ev fr with
  | none => simp
  | some p => cases p <;> first | exact val_iff | simp

theorem wpop_foff {off : Nat} {ti : TI} {x : Opd} : WpOp env pure base bar (.foff off ti x) fr H Q ↔ match x.ev fr with
    | some (.ptr id ver o) => Q (.ptr id ver (o + off)) H []
    | some (.fp (.agg cs)) => valWp ((part ti cs off).map .fp) H Q
    | _ => False := by
  rw [wpop_still rfl]
  simp only [aop]
  cases x.ev fr with
  | none => simp
  | some p =>
    cases p with
    | fp v => cases v <;> first | exact val_iff | simp
    | _ => simp

def ixaSWp (sz : Nat) (x i : Option AV) (H : Heap) (Q : AV → Heap → List Nat → Prop) : Prop :=
  match x, i with
  | some (.lst sz' _ xs), some (.int _ i) => 0 ≤ i ∧ sz' = sz ∧ valWp ((xs[i.toNat]?).map .fp) H Q
  | some (.vec id ver off len sz'), some (.int _ i) => 0 ≤ i ∧ sz' = sz ∧ i.toNat < len ∧ Q (.ptr id ver (off + i.toNat * sz)) H []
  | _, _ => False

theorem wpop_ixaS {sz : Nat} {x i : Opd} : WpOp env pure base bar (.ixaS sz x i) fr H Q ↔ ixaSWp sz (x.ev fr) (i.ev fr) H Q := by
  rw [wpop_still rfl]
  simp only [aop, ixaSWp]
  cases x.ev fr with
  | none => simp
  | some p => cases i.ev fr with
    | none => cases p <;> simp
    | some v =>
      cases v with
      | int k i =>
        by_cases hi : 0 ≤ i
        · cases p with
          | lst sz' ex xs =>
            by_cases hs : sz' = sz
            · simp only [AV.asNat, hi, hs, if_true, true_and]; exact val_iff
            · simp [AV.asNat, hi, hs]
          | vec id ver off len sz' =>
            by_cases hs : sz' = sz
            · by_cases hl : i.toNat < len
              · simp [AV.asNat, hi, hs, hl]
              · simp [AV.asNat, hi, hs, hl]
            · simp [AV.asNat, hi, hs]
          | _ => simp [AV.asNat, hi]
        · cases p <;> simp [AV.asNat, hi]
      | _ => cases p <;> simp [AV.asNat]

def ixaAWp (n : Nat) (ti : TI) (x i : Option AV) (H : Heap) (Q : AV → Heap → List Nat → Prop) : Prop :=
  match x, i with
  | some (.ptr id ver o), some (.int _ i) => 0 ≤ i ∧ i.toNat < n ∧ Q (.ptr id ver (o + i.toNat * ti.size)) H []
  | some (.fp (.agg cs)), some (.int _ i) => 0 ≤ i ∧ i.toNat < n ∧ valWp ((part ti cs (i.toNat * ti.size)).map .fp) H Q
  | _, _ => False

theorem wpop_ixaA {n : Nat} {ti : TI} {x i : Opd} : WpOp env pure base bar (.ixaA n ti x i) fr H Q ↔ ixaAWp n ti (x.ev fr) (i.ev fr) H Q := by
  rw [wpop_still rfl]
  simp only [aop, ixaAWp]
  cases x.ev fr with
  | none => simp
  | some p => cases i.ev fr with
    | none => cases p <;> try simp
    | some v =>
      cases v with
      | int k i =>
        by_cases hi : 0 ≤ i
        · by_cases hn : i.toNat < n
          · cases p with
            | fp v =>
              cases v with
              | agg cs => simp only [AV.asNat, hi, hn, if_true, true_and]; exact val_iff
              | _ => simp [AV.asNat, hi, hn]
            | _ => simp [AV.asNat, hi, hn]
          · cases p with
            | fp v => cases v <;> simp [AV.asNat, hi, hn]
            | _ => simp [AV.asNat, hi, hn]
        · cases p with
          | fp v => cases v <;> simp [AV.asNat, hi]
          | _ => simp [AV.asNat, hi]
      | _ =>
        cases p with
        | fp v => cases v <;> simp [AV.asNat]
        | _ => simp [AV.asNat]

def ixWp (n : Nat) (ti : TI) (x i : Option AV) (H : Heap) (Q : AV → Heap → List Nat → Prop) : Prop :=
  match x, i with
  | some (.agg cs), some (.int _ i) => 0 ≤ i ∧ i.toNat < n ∧ valWp (part ti cs (i.toNat * ti.size)) H Q
  | _, _ => False

theorem wpop_ix {n : Nat} {ti : TI} {x i : Opd} : WpOp env pure base bar (.ix n ti x i) fr H Q ↔ ixWp n ti (x.ev fr) (i.ev fr) H Q := by
  rw [wpop_still rfl]
  simp only [aop, ixWp]
  cases x.ev fr with
  | none => simp
  | some p => cases i.ev fr with
    | none => cases p <;> simp
    | some v =>
      cases v with
      | int k i =>
        cases p with
        | agg cs =>
          simp only [AV.asNat]
          by_cases hi : 0 ≤ i
          · simp only [hi, if_true, true_and]
            by_cases hn : i.toNat < n
            · simp only [hn, if_true, true_and]; exact val_iff
            · simp only [hn, if_false, false_and]
          · simp only [hi, if_false, false_and]
        | _ => simp
      | _ => cases p <;> simp [AV.asNat]

theorem wpop_bslice {sz : Nat} {cells : List AV} {parts : List (Nat × Opd)} : WpOp env pure base bar (.bslice sz cells parts) fr H Q ↔ opWp (aop base bar (.bslice sz cells parts) fr H) Q :=
  wpop_still rfl
theorem wpop_mkslice {zero : List AV} {bytes : Nat} {l c : Opd} : WpOp env pure base bar (.mkslice zero bytes l c) fr H Q ↔ opWp (aop base bar (.mkslice zero bytes l c) fr H) Q :=
  wpop_still rfl
theorem wpop_slice {k : SK} {x : Opd} {lo hi mx : Option Opd} : WpOp env pure base bar (.slice k x lo hi mx) fr H Q ↔ opWp (aop base bar (.slice k x lo hi mx) fr H) Q :=
  wpop_still rfl
theorem wpop_ixStr {x i : Opd} : WpOp env pure base bar (.ixStr x i) fr H Q ↔ opWp (aop base bar (.ixStr x i) fr H) Q :=
  wpop_still rfl
theorem wpop_append {sz bytes : Nat} {x y : Opd} : WpOp env pure base bar (.append sz bytes x y) fr H Q ↔ opWp (aop base bar (.append sz bytes x y) fr H) Q :=
  wpop_still rfl
theorem wpop_lenStr {x : Opd} : WpOp env pure base bar (.lenStr x) fr H Q ↔ opWp (aop base bar (.lenStr x) fr H) Q :=
  wpop_still rfl
theorem wpop_clr {z : List AV} {x : Opd} : WpOp env pure base bar (.clr z x) fr H Q ↔ opWp (aop base bar (.clr z x) fr H) Q :=
  wpop_still rfl
theorem wpop_mkmap : WpOp env pure base bar .mkmap fr H Q ↔ Q (.mp H.length) (H ++ [.map []]) [] :=
  wpop_still rfl
theorem wpop_mlook {z : AV} {ok : Bool} {m k : Opd} : WpOp env pure base bar (.mlook z ok m k) fr H Q ↔ opWp (aop base bar (.mlook z ok m k) fr H) Q :=
  wpop_still rfl
theorem wpop_mupd {m k v : Opd} : WpOp env pure base bar (.mupd m k v) fr H Q ↔ opWp (aop base bar (.mupd m k v) fr H) Q :=
  wpop_still rfl
theorem wpop_mlookA {ks : List Bool} {z : AV} {ok : Bool} {m k : Opd} : WpOp env pure base bar (.mlookA ks z ok m k) fr H Q ↔ opWp (aop base bar (.mlookA ks z ok m k) fr H) Q :=
  wpop_still rfl
theorem wpop_mupdA {ks : List Bool} {m k v : Opd} : WpOp env pure base bar (.mupdA ks m k v) fr H Q ↔ opWp (aop base bar (.mupdA ks m k v) fr H) Q :=
  wpop_still rfl
theorem wpop_mlen {x : Opd} : WpOp env pure base bar (.mlen x) fr H Q ↔ opWp (aop base bar (.mlen x) fr H) Q :=
  wpop_still rfl
theorem wpop_mkifc {t : TypeId} {x : Opd} : WpOp env pure base bar (.mkifc t x) fr H Q ↔ opWp (aop base bar (.mkifc t x) fr H) Q :=
  wpop_still rfl
theorem wpop_s2a {n : Nat} {x : Opd} : WpOp env pure base bar (.s2a n x) fr H Q ↔ opWp (aop base bar (.s2a n x) fr H) Q :=
  wpop_still rfl
theorem wpop_tass {z : AV} {t : TypeId} {ok : Bool} {x : Opd} : WpOp env pure base bar (.tass z t ok x) fr H Q ↔ opWp (aop base bar (.tass z t ok x) fr H) Q :=
  wpop_still rfl
theorem wpop_mxmn {mx : Bool} {xs : List Opd} : WpOp env pure base bar (.mxmn mx xs) fr H Q ↔ opWp (aop base bar (.mxmn mx xs) fr H) Q :=
  wpop_still rfl
end Go.Ab
namespace Go.Ab
variable {env : Env} {base bar : Nat} {fr : Frame} {H : Heap} {pure : Bool}

/-- the arguments, frozen -/
def frzWp (env : Env) (pure : Bool) (base bar : Nat) (af : AFun) (Q : AV → Heap → Prop) (r : Option (List AV × Heap)) : Prop :=
  match r with
  | some (args, H) => WpFun env pure base bar af args H Q
  | none => False

theorem wpcall_of {f : FuncId} {af : AFun} {args : List AV} {Q : AV → Heap → Prop} (hf : env.funs f = some af) (hr : af.raw = false) (hk : ∀ args H, env.known f args H = none) :
    WpCall env pure base bar f args H Q ↔ frzWp env pure base bar af Q (frzAll bar H args) := by
  rw [wpcall' hk]
  simp only [hf, hr, Bool.false_eq_true, if_false, frzWp]
  cases frzAll bar H args with
  | none => simp
  | some p => simp

theorem wpcall_raw {f : FuncId} {af : AFun} {args : List AV} {Q : AV → Heap → Prop} (hf : env.funs f = some af) (hr : af.raw = true) (hk : ∀ args H, env.known f args H = none) :
    WpCall env pure base bar f args H Q ↔ WpFun env pure base bar af args H Q := by
  rw [wpcall' hk]
  simp only [hf, hr, if_true]

/-- a call of which the answer is kept -/
theorem wpcall_known {f : FuncId} {af : AFun} {args : List AV} {v : AV} {Q : AV → Heap → Prop} (hf : env.funs f = some af) (hz : (if af.raw then some (args, H) else frzAll bar H args) = some (args, H))
    (hk : env.known f args H = some { v := v }) : WpCall env pure base bar f args H Q ↔ Q v H := by
  unfold WpCall callWith
  simp only [hf, hz, hk, List.all_nil, List.isEmpty_nil, Bool.or_true, Bool.and_self, if_true, applyUps, List.append_nil, Option.some.injEq, Prod.mk.injEq]
  constructor
  · rintro ⟨_, _, _, ⟨rfl, rfl⟩, h⟩; exact h
  · exact fun h => ⟨0, _, _, ⟨rfl, rfl⟩, h⟩
end Go.Ab
