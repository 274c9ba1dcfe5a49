/-
  Part of the proved evaluator, or answers that it computed.
-/
import Derived.Test.YtihdlpeghlhnoaaGreatDoorAbEval
set_option linter.all false
namespace Go.Ab

def wantA (g : Option (Nat × Bool)) (fr : Frame) : Option Bool :=
  match g with
  | none => some true
  | some (t, b) => match fget t fr with
    | some (.bool x) => some (x == b)
    | some _ => some false
    | none => none

def applyUps : List (Nat × Blk) → Heap → Heap
  | [], H => H
  | (i, b) :: r, H => applyUps r (H.set i b)

/-- the results of a function -/
def resOf (fr : Frame) (H : Heap) : List ARes → Option (List AV)
  | [] => some []
  | .tmp t :: r => match fget t fr, resOf fr H r with
    | some v, some vs => some (v :: vs)
    | _, _ => none
  | .cell t ti :: r => match fget t fr with
    | some p => match aload H ti p, resOf fr H r with
      | some v, some vs => some (v :: vs)
      | _, _ => none
    | none => none

def tupled : List AV → AV
  | [v] => v
  | vs => .tup vs

/-- a pointer to a block that the call made is the same to the block where it lies later -/
def moveP (id base : Nat) : AV → AV
  | .ptr i ver off => if i = id then .ptr base ver off else .ptr i ver off
  | v => v

def movable (id base : Nat) : AV → Bool
  | .ptr i _ _ => i == id || Nat.blt i base
  | v => Nat.ble v.top base

def firstOwn (base : Nat) : List AV → Option Nat
  | [] => none
  | .ptr i _ _ :: r => if base ≤ i then some i else firstOwn base r
  | _ :: r => firstOwn base r

/-- what leaves a call: its results, frozen, and its heap, less the blocks of its own -/
def leave (mode : Nat) (base bar : Nat) (vs : List AV) (H : Heap) : Option (AV × Heap) :=
  if mode = 3 ∨ mode = 4 then some (tupled vs, H) else
  match frzAll bar H vs with
  | none => none
  | some (vs, H) =>
    if mode = 2 then some (tupled vs, H) else
    match (if mode = 1 then firstOwn base vs else none) with
    | none => if AV.top.tops vs ≤ base then some (tupled vs, H.take base) else none
    | some id => match H[id]? with
      | some (.row _ cs0 _ _) => match frzAll bar H cs0 with
        | some (cs, H) => match H[id]? with
          | some (.row ver cs2 fz ex) =>
            if cs.length = cs2.length ∧ AV.top.tops cs ≤ base ∧ vs.all (movable id base) = true ∧ base ≤ id then some (tupled (vs.map (moveP id base)), H.take base ++ [.row ver cs fz ex]) else none
          | _ => none
        | none => none
      | _ => none

def frame0 : Nat → List AV → Frame
  | _, [] => []
  | i, v :: r => (i, v) :: frame0 (i + 1) r

abbrev Ex := Nat → Nat → ACode → St → Option (AExit × St)

def barOf (pure : Bool) (n bar : Nat) : Nat := if pure then n else bar
def baseOf (mode base n : Nat) : Nat := if mode = 2 ∨ mode = 3 then base else n

/-- a call: by its contract, if one is known, else by its body; 'pure': it may change no block -/
def callWith (env : Env) (ex : Ex) (pure : Bool) (base bar : Nat) (f : FuncId) (args : List AV) (H : Heap) : Option (AV × Heap) :=
  match env.funs f with
  | none => none
  | some af =>
    match (if af.raw then some (args, H) else frzAll bar H args) with
    | none => none
    | some (args, H) =>
      match env.known f args H with
      | some k => if (k.ups.all (fun u => barOf pure H.length bar ≤ u.1) && (!pure || k.news.isEmpty)) = true then some (k.v, applyUps k.ups H ++ k.news) else none
      | none =>
        if af.nt < args.length then none else
        if (pure && (af.mode != 0 && af.mode != 4)) = true then none else
        match ex (baseOf af.mode base H.length) (barOf pure H.length bar) af.body ⟨frame0 0 args, H⟩ with
        | some (.normal, st) => match resOf st.fr st.H af.res with
          | some vs => leave af.mode (baseOf af.mode base H.length) (barOf pure H.length bar) vs st.H
          | none => none
        | some (.ret, st) => match resOf st.fr st.H af.res with
          | some vs => leave af.mode (baseOf af.mode base H.length) (barOf pure H.length bar) vs st.H
          | none => none
        | _ => none

/-- does freezing this argument touch its own block alone, if any -/
def flatV (H : Heap) (v : AV) : Bool := match v with
  | .vec id _ _ _ _ => match H[id]? with
    | some (.row _ cs _ _) => AV.noVec.noVecs cs
    | _ => false
  | v => v.noVec
def idsV : List AV → List Nat
  | [] => []
  | .vec id _ _ _ _ :: r => id :: idsV r
  | _ :: r => idsV r
/-- the blocks that freezing the arguments touches -/
def touchA (H : Heap) (vs : List AV) : List Nat := if AV.noVec.noVecs vs = true then [] else if vs.all (flatV H) = true then idsV vs else List.range H.length
/-- the blocks that a call touches -/
def touchC (pure : Bool) (H : Heap) (vs : List AV) : List Nat := if pure = true then touchA H vs else List.range H.length

/-- does a function leave alone what it is given -/
def rawOf (env : Env) (f : FuncId) : Bool := match env.funs f with
  | some af => af.raw
  | none => false
/-- the blocks that a call touches: none, if it changes none and freezes none -/
def touchQ (env : Env) (pure : Bool) (f : FuncId) (H : Heap) (vs : List AV) : List Nat := if pure = true then (if rawOf env f = true then [] else touchA H vs) else List.range H.length

/-- an operation, calls too -/
def aopC (env : Env) (ex : Ex) (pure : Bool) (base bar : Nat) (op : AOp) (fr : Frame) (H : Heap) : Option (AV × Heap × List Nat) :=
  match op with
  | .callF f args => match evs fr args with
    | some vs => match callWith env ex pure base bar f vs H with
      | some (v, H') => some (v, H', touchQ env pure f H vs)
      | none => none
    | none => none
  | .callV x args => match x.ev fr, evs fr args with
    | some (.fn f first caps), some vs => match callWith env ex pure base bar f (first ++ vs ++ caps) H with
      | some (v, H') => some (v, H', touchQ env pure f H (first ++ vs ++ caps))
      | none => none
    | _, _ => none
  | .callI tbl x args => match x.ev fr, evs fr args with
    | some (.ifc t u), some vs => match tlook tbl t with
      | some f => match callWith env ex pure base bar f (u :: vs) H with
        | some (v, H') => some (v, H', touchQ env pure f H (u :: vs))
        | none => none
      | none => none
    | _, _ => none
  | op => aop base bar op fr H

def runOps (env : Env) (ex : Ex) (base bar : Nat) : List AOper → St → Option St
  | [], st => some st
  | o :: r, st => match wantA o.guard st.fr with
    | some true => match aopC env ex false base bar o.op st.fr st.H with
      | some (v, H, _) => runOps env ex base bar r ⟨fput o.dst v st.fr, H⟩
      | none => none
    | some false => runOps env ex base bar r ⟨fput o.dst (.tup []) st.fr, st.H⟩
    | none => none

/-- effects from number lo to hi leave alone the block that a load reads -/
def clearOf (id : Nat) : List (List Nat) → Bool
  | [] => true
  | tc :: r => !tc.contains id && clearOf id r

/-- operations that do not look at the heap -/
def heapFree : AOp → Bool
  | .mv _ | .pick _ _ _ | .build _ _ | .nilck _ | .bin _ _ _ | .eq _ _ _ _ | .un _ _ | .conv _ _ | .mkfn _ _ _ | .foff _ _ _ | .fld _ _ _ | .ixaS _ _ _ | .ixaA _ _ _ _ | .ix _ _ _ _ | .ixStr _ _
  | .extract _ _ | .len _ | .lenStr _ | .mxmn _ _ | .tass _ _ _ _ | .s2a _ _ => true
  | _ => false

/-- a read that may run at several heaps: nothing to look after, or a block's number -/
def readOf (op : AOp) (fr : Frame) : Option (Option Nat) :=
  if heapFree op then some none else
  match op with
  | .load _ a => match a.ev fr with
    | some (.ptr id _ _) => some (some id)
    | some (.fp _) => some none
    | _ => none
  | .bslice _ _ parts => match evs fr (parts.map (·.2)) with
    | some vs => if AV.noVec.noVecs vs then some none else none
    | none => none
  | .slice _ x _ _ _ => match x.ev fr with
    | some (.vec id _ _ _ _) => some (some id)
    | some (.lst _ _ _) => some none
    | some (.fp _) => some none
    | some .nils => some none
    | _ => none
  | .mlook _ _ m _ => match m.ev fr with
    | some (.mp id) => some (some id)
    | some .nilm => some none
    | _ => none
  | .mlookA _ _ _ m _ => match m.ev fr with
    | some (.mp id) => some (some id)
    | some .nilm => some none
    | _ => none
  | _ => none

/-- a region that draws: reads run at the earliest heap at which they may run -/
def runDraw (env : Env) (ex : Ex) (base bar : Nat) : List AOper → Frame → List Heap → List (List Nat) → List (Nat × Nat × Nat) → Option St
  | [], fr, hs, tcs, pend => if pend.all (fun p => clearOf p.1 ((tcs.take p.2.2).drop p.2.1)) = true then
      match hs.getLast? with
      | some H => some ⟨fr, H⟩
      | none => none
    else none
  | o :: r, fr, hs, tcs, pend => match wantA o.guard (fkeep o.looks fr) with
    | none => none
    | some false => match hs.getLast? with
      | some H => if o.eff then runDraw env ex base bar r (fput o.dst (.tup []) fr) (hs ++ [H]) (tcs ++ [[]]) pend else runDraw env ex base bar r (fput o.dst (.tup []) fr) hs tcs pend
      | none => none
    | some true =>
      if o.eff then
        match hs.getLast? with
        | some H => match aopC env ex o.pure base bar o.op (fkeep o.looks fr) H with
          | some (v, H', tc) => runDraw env ex base bar r (fput o.dst v fr) (hs ++ [H']) (tcs ++ [tc]) pend
          | none => none
        | none => none
      else
        match hs[o.lo]? with
        | some H => match aopC env ex true base bar o.op (fkeep o.looks fr) H with
          | some (v, H', tc) => if tc.isEmpty ∧ H'.length = H.length then
              if o.lo = o.hi then runDraw env ex base bar r (fput o.dst v fr) hs tcs pend
              else match readOf o.op (fkeep o.looks fr) with
                | some none => runDraw env ex base bar r (fput o.dst v fr) hs tcs pend
                | some (some id) => runDraw env ex base bar r (fput o.dst v fr) hs tcs ((id, o.lo, o.hi) :: pend)
                | none => none
            else none
          | none => none
        | none => none

/-- how long a slice of the call's own is -/
def AV.vlen : AV → Nat
  | .vec _ _ _ n _ => n
  | _ => 0

/-- a region in which two like blocks are made in either order: what is marked 0 does not see them, and changes nothing; what is marked 3 comes behind both, and changes nothing that was there -/
def runTwin (env : Env) (ex : Ex) (base bar : Nat) (H0 : Heap) : List (Nat × AOper) → Frame → Heap → Option St
  | [], fr, H => some ⟨fr, H⟩
  | (k, o) :: r, fr, H => match aopC env ex true base bar o.op (fkeep o.looks fr) (if k = 0 then H0 else H) with
    | some (v, H', tc) => if (k = 0 ∧ ¬ (v.top ≤ H0.length ∧ tc.isEmpty = true ∧ H'.length = H0.length)) ∨ (k = 3 ∧ ¬ tc.all (fun i => Nat.ble H0.length i) = true) then none else
      runTwin env ex base bar H0 r (fput o.dst v fr) (if k = 0 then H else H')
    | none => none

def findL : ACode → Nat → Option ACode
  | .seq a b, l => match findL a l with
    | some rest => some (.seq rest b)
    | none => findL b l
  | .label l', l => if l' = l then some .skip else none
  | _, _ => none

def frzSlots (bar : Nat) : List Nat → St → Option St
  | [], st => some st
  | t :: r, st => match fget t st.fr with
    | some v => match frz 8 bar st.H v with
      | some (v', H') => frzSlots bar r ⟨fset t v' st.fr, H'⟩
      | none => none
    | none => none

def execC (env : Env) (ex : Ex) : ACode → Nat → Nat → St → Option (AExit × St)
  | .skip, _, _, st => some (.normal, st)
  | .reg ops keep, base, bar, st => match runOps env ex base bar ops st with
    | some st => some (.normal, ⟨fkeep keep st.fr, st.H⟩)
    | none => none
  | .dreg ops keep, base, bar, st => match runDraw env ex base bar ops st.fr [st.H] [] [] with
    | some st => some (.normal, ⟨fkeep keep st.fr, st.H⟩)
    | none => none
  | .twin ops keep, base, bar, st => match runTwin env ex base bar st.H ops st.fr st.H with
    | some st => some (.normal, ⟨fkeep keep st.fr, st.H⟩)
    | none => none
  | .seq a b, base, bar, st => match execC env ex a base bar st with
    | some (.normal, st) => execC env ex b base bar st
    | r => r
  | .cond c a b, base, bar, st => match c.ev st.fr with
    | some (.bool true) => execC env ex a base bar st
    | some (.bool false) => execC env ex b base bar st
    | _ => none
  | .block id c, base, bar, st => match execC env ex c base bar st with
    | some (.exit i, st) => if i = id then some (.normal, st) else some (.exit i, st)
    | r => r
  | .loop c, base, bar, st => match execC env ex c base bar st with
    | some (.normal, st) => ex base bar (.loop c) st
    | r => r
  | .fresh keep c, _, bar, st => match execC env ex c st.H.length bar st with
    | some (.ret, st') => some (.ret, st')
    | some (e, st') =>
      let fr := fkeep keep st'.fr
      if ftop fr ≤ st.H.length then some (e, ⟨fr, st'.H.take st.H.length⟩) else none
    | none => none
  | .frz ts c, base, bar, st => match frzSlots bar ts st with
    | some st => execC env ex c base bar st
    | none => none
  | .exit id, _, _, st => some (.exit id, st)
  | .scope body cur, base, bar, st => match execC env ex cur base bar st with
    | some (.goto l, st) => match findL body l with
      | some rest => ex base bar (.scope body rest) st
      | none => some (.goto l, st)
    | r => r
  | .label _, _, _, st => some (.normal, st)
  | .goto l, _, _, st => some (.goto l, st)
  | .ret, _, _, st => some (.ret, st)

def exec (env : Env) : Nat → Ex
  | 0 => fun _ _ _ _ => none
  | n + 1 => fun base bar c st => execC env (exec env n) c base bar st

def acall (env : Env) (fuel : Nat) (f : FuncId) (args : List AV) (H : Heap) : Option (AV × Heap) := callWith env (exec env fuel) false H.length 0 f args H

end Go.Ab
