/-
  A small evaluator over compiled Go code, with values read by content: definitions. Nothing is proved here.
-/
import GoSem.Dispatch
import GoSem.Core.View
import GoSem.Machine.Frame
import GoSem.Machine.Return
set_option linter.all false
namespace Go.Ab
open Go

/-- values of the evaluator -/
inductive AV where
  | int (k : IntKind) (n : Int)
  | bool (b : Bool)
  | str (s : ByteArray)
  | nilp | nils | nilm | nilf | nili
  | agg (cs : List AV)
  | tup (vs : List AV)
  | lst (sz : Nat) (ex : Bool) (xs : List AV)
  | fp (x : AV)
  | ptr (id ver off : Nat)
  | vec (id ver off len sz : Nat)
  | fn (f : FuncId) (first caps : List AV)
  | ifc (t : TypeId) (v : AV)
  | mp (id : Nat)
  | dead                   -- a value of one cell that is not looked at
  deriving Inhabited

def AV.cells : AV → List AV
  | .agg cs => cs
  | v => [v]

def AV.isTup : AV → Bool
  | .tup _ => true
  | _ => false

/-- one above the greatest block that a value names -/
def AV.top : AV → Nat
  | .agg cs | .tup cs | .lst _ _ cs => tops cs
  | .fp x | .ifc _ x => x.top
  | .ptr id _ _ | .vec id _ _ _ _ | .mp id => id + 1
  | .fn _ a b => max (tops a) (tops b)
  | .int _ _ | .bool _ | .str _ | .nilp | .nils | .nilm | .nilf | .nili | .dead => 0
where
  tops : List AV → Nat
    | [] => 0
    | x :: r => max x.top (tops r)

/-- a block: cells (version, cells, how many are frozen, exact size), or a map's entries -/
inductive Blk where
  | row (ver : Nat) (cs : List AV) (fz : Nat) (ex : Bool)
  | map (es : List (AV × AV))
  deriving Inhabited

abbrev Heap := List Blk
abbrev Frame := List (Nat × AV)

def fget (t : Nat) : Frame → Option AV
  | [] => none
  | (u, v) :: r => match Nat.beq t u with
    | true => some v
    | false => fget t r

def fset (t : Nat) (v : AV) : Frame → Frame
  | [] => [(t, v)]
  | (u, x) :: r => match Nat.beq t u with
    | true => (t, v) :: r
    | false => (u, x) :: fset t v r

def memB (u : Nat) : List Nat → Bool
  | [] => false
  | x :: r => match Nat.beq u x with
    | true => true
    | false => memB u r

def fkeep (ts : List Nat) : Frame → Frame
  | [] => []
  | (u, x) :: r => match memB u ts with
    | true => (u, x) :: fkeep ts r
    | false => fkeep ts r

theorem fgetN {t : Nat} : fget t [] = none := rfl
theorem fgetC {t u : Nat} {v : AV} {r : Frame} : fget t ((u, v) :: r) = if t = u then some v else fget t r := by
  rw [fget]
  cases h : Nat.beq t u with
  | true => rw [if_pos (Nat.eq_of_beq_eq_true h)]
  | false => rw [if_neg (Nat.ne_of_beq_eq_false h)]
theorem fsetN {t : Nat} {v : AV} : fset t v [] = [(t, v)] := rfl
theorem fsetC {t u : Nat} {v x : AV} {r : Frame} : fset t v ((u, x) :: r) = if t = u then (t, v) :: r else (u, x) :: fset t v r := by
  rw [fset]
  cases h : Nat.beq t u with
  | true => rw [if_pos (Nat.eq_of_beq_eq_true h)]
  | false => rw [if_neg (Nat.ne_of_beq_eq_false h)]
theorem memB_contains {u : Nat} : ∀ {l : List Nat}, memB u l = l.contains u
  | [] => rfl
  | x :: r => by
    rw [memB, List.contains_cons, memB_contains (l := r)]
    cases h : Nat.beq u x with
    | true => obtain rfl := Nat.eq_of_beq_eq_true h; simp
    | false => have := Nat.ne_of_beq_eq_false h; simp [this]
theorem fkeepN {ts : List Nat} : fkeep ts [] = [] := rfl
theorem fkeepC {ts : List Nat} {u : Nat} {x : AV} {r : Frame} : fkeep ts ((u, x) :: r) = if ts.contains u then (u, x) :: fkeep ts r else fkeep ts r := by
  rw [fkeep, memB_contains]
  cases ts.contains u <;> simp

def ftop : Frame → Nat
  | [] => 0
  | (_, x) :: r => max x.top (ftop r)

inductive Opd where
  | t (n : Nat)
  | c (v : AV)
  deriving Inhabited

def Opd.ev (fr : Frame) : Opd → Option AV
  | .t n => fget n fr
  | .c v => some v

def evs (fr : Frame) : List Opd → Option (List AV)
  | [] => some []
  | x :: r => match x.ev fr with
    | some v => match evs fr r with
      | some vs => some (v :: vs)
      | none => none
    | none => none

/-- a type, as far as memory goes: is it a struct or array; how many cells -/
structure TI where
  agg : Bool
  size : Nat
  deriving Inhabited

inductive SK where
  | str
  | slc (sz : Nat)
  | arr (len sz : Nat)
  deriving Inhabited

/-- what '==' does at a type -/
inductive EK where
  | int | bool | str
  | nilS | nilM | nilF | nilI   -- a slice, a map, a function, an interface against nil
  | ptr
  | flat (ks : List Bool)       -- an array or a struct of cells: bools (true) and integers (false)
  deriving Inhabited

inductive AOp where
  | mv (x : Opd)
  | pick (c a b : Opd)
  | alloc (zero : AV)
  | box (x : Opd)
  | build (zero : List AV) (parts : List (Nat × Nat × Opd))
  | bslice (sz : Nat) (cells : List AV) (parts : List (Nat × Opd))
  | load (ti : TI) (a : Opd)
  | store (size : Nat) (a v : Opd)
  | nilck (x : Opd)
  | bin (op : BinOp) (x y : Opd)
  | eq (neg : Bool) (k : EK) (x y : Opd)
  | un (op : UnOp) (x : Opd)
  | conv (k : IntKind) (x : Opd)
  | mkfn (f : FuncId) (first caps : List Opd)
  | mkslice (zero : List AV) (bytes : Nat) (l c : Opd)
  | slice (k : SK) (x : Opd) (lo hi mx : Option Opd)
  | foff (off : Nat) (ti : TI) (x : Opd)
  | fld (off : Nat) (ti : TI) (x : Opd)
  | ixaS (sz : Nat) (x i : Opd)
  | ixaA (len : Nat) (ti : TI) (x i : Opd)
  | ix (len : Nat) (ti : TI) (x i : Opd)
  | ixStr (x i : Opd)
  | extract (x : Opd) (i : Nat)
  | callF (f : FuncId) (args : List Opd)
  | callV (x : Opd) (args : List Opd)
  | callI (tbl : List (TypeId × FuncId)) (x : Opd) (args : List Opd)
  | append (sz bytes : Nat) (x y : Opd)
  | len (x : Opd)
  | lenStr (x : Opd)
  | mxmn (mx : Bool) (xs : List Opd)
  | clr (zero : List AV) (x : Opd)
  | mkmap
  | mlook (zero : AV) (ok : Bool) (m k : Opd)
  | mupd (m k v : Opd)
  | mlen (x : Opd)
  | mlookA (ks : List Bool) (zero : AV) (ok : Bool) (m k : Opd)
  | mupdA (ks : List Bool) (m k v : Opd)
  | mkifc (t : TypeId) (x : Opd)
  | s2a (n : Nat) (x : Opd)
  | tass (zero : AV) (t : TypeId) (ok : Bool) (x : Opd)
  | bad
  deriving Inhabited

/-- a type's method -/
def tlook : List (TypeId × FuncId) → TypeId → Option FuncId
  | [], _ => none
  | (t, f) :: r, u => if t = u then some f else tlook r u

structure AOper where
  dst : Option Nat
  op : AOp
  guard : Option (Nat × Bool)
  eff : Bool := true       -- in a region that draws: is it one of the chain of effects
  pure : Bool := false     -- a call that changes no block
  looks : List Nat := []   -- the slots that it reads
  lo : Nat := 0            -- how many effects come surely before it
  hi : Nat := 0            -- and how many do not surely come behind it
  deriving Inhabited

inductive ACode where
  | skip
  | reg (ops : List AOper) (keep : List Nat)
  | dreg (ops : List AOper) (keep : List Nat)
  | twin (ops : List (Nat × AOper)) (keep : List Nat)
  | seq (a b : ACode)
  | cond (c : Opd) (a b : ACode)
  | block (id : Nat) (c : ACode)
  | loop (c : ACode)
  | fresh (keep : List Nat) (c : ACode)
  | frz (ts : List Nat) (c : ACode)
  | exit (id : Nat)
  | scope (body cur : ACode)
  | label (l : Nat)
  | goto (l : Nat)
  | ret
  deriving Inhabited

inductive ARes where
  | tmp (t : Nat)
  | cell (t : Nat) (ti : TI)
  deriving Inhabited

structure AFun where
  nt : Nat
  res : List ARes
  mode : Nat               -- 0: what the call made is dropped; 1: one block is handed out; 2: it runs among its caller's blocks
  raw : Bool               -- arguments are not frozen
  body : ACode
  deriving Inhabited

/-! ## values -/

def part (ti : TI) (cs : List AV) (off : Nat) : Option AV :=
  if ti.agg then (if off + ti.size ≤ cs.length then some (.agg ((cs.drop off).take ti.size)) else none)
  else cs[off]?

def setCells (cs : List AV) (off : Nat) : List AV → List AV
  | [] => cs
  | v :: r => setCells (cs.set off v) (off + 1) r

def aload (H : Heap) (ti : TI) : AV → Option AV
  | .ptr id ver off => match H[id]? with
    | some (.row ver' cs _ _) => if ver' = ver then part ti cs off else none
    | _ => none
  | .fp x => match ti.agg, x with
    | true, .agg cs => if cs.length = ti.size then some x else none
    | true, _ => none
    | false, .agg _ => none
    | false, _ => some x
  | _ => none

def astore (base bar : Nat) (H : Heap) (size : Nat) (p v : AV) : Option (Heap × Nat) :=
  match p with
  | .ptr id ver off => match H[id]? with
    | some (.row ver' cs fz ex) =>
      let vs := v.cells
      if ver' = ver ∧ vs.length = size ∧ fz ≤ off ∧ off + size ≤ cs.length ∧ bar ≤ id ∧ (base ≤ id ∨ AV.top.tops vs ≤ id + 1)
      then some (H.set id (.row ver' (setCells cs off vs) fz ex), id) else none
    | _ => none
  | _ => none

/-- cells cut into elements of a size -/
def chunks (sz : Nat) : Nat → List AV → List AV
  | 0, _ => []
  | n + 1, cs => (if sz = 1 then cs.headD default else .agg (cs.take sz)) :: chunks sz n (cs.drop sz)

/-- no slice of the call's own in it -/
def AV.noVec : AV → Bool
  | .vec _ _ _ _ _ => false
  | .agg cs => noVecs cs
  | _ => true
where
  noVecs : List AV → Bool
    | [] => true
    | x :: r => x.noVec && noVecs r

/-- a list of values, one behind the other, over a heap that may change -/
def frzsW (f : Heap → AV → Option (AV × Heap)) : Heap → List AV → Option (List AV × Heap)
  | H, [] => some ([], H)
  | H, x :: r => match f H x with
    | some (y, H1) => match frzsW f H1 r with
      | some (ys, H2) => some (y :: ys, H2)
      | none => none
    | none => none

/-- freeze: a slice of the call's own becomes a list -/
def frz : Nat → Nat → Heap → AV → Option (AV × Heap)
  | 0, _, _, _ => none
  | d + 1, bar, H, v => match v with
    | .vec id ver off len sz => match H[id]? with
      | some (.row ver' cs fz ex) =>
        if ver' = ver ∧ off + len * sz ≤ cs.length ∧ bar ≤ id then
          match frzsW (frz d bar) (H.set id (.row ver' cs (max fz (off + len * sz)) ex)) ((cs.drop off).take (len * sz)) with
          | some (xs, H') => some (.lst sz false (chunks sz len xs), H')
          | none => none
        else none
      | _ => none
    | .agg cs => match frzsW (frz d bar) H cs with
      | some (xs, H') => some (.agg xs, H')
      | none => none
    | v => some (v, H)

abbrev frz.frzs (d bar : Nat) : Heap → List AV → Option (List AV × Heap) := frzsW (frz d bar)
end Go.Ab
