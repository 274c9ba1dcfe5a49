/-
  Part of the proved evaluator, or answers that it computed.
-/
import Derived.Test.YtihdlpeghlhnoaaGreatDoorAbExec
import Derived.Orders
set_option linter.all false
namespace Go.Ab

/-- a constant of the program -/
def ofV : Value → Option AV
  | .int k n => some (.int k n)
  | .bool b => some (.bool b)
  | .string s => some (.str s)
  | .pointer none => some .nilp
  | .slice none 0 0 => some .nils
  | .map none => some .nilm
  | .nilFunc => some .nilf
  | .nilIface => some .nili
  | .agg cs => (flats cs.toList).map .agg
  | .tuple vs => if vs.size = 0 then some (.tup []) else none
  | _ => none
where
  flat1 : Value → Option AV
    | .int k n => some (.int k n)
    | .bool b => some (.bool b)
    | .string s => some (.str s)
    | .pointer none => some .nilp
    | .slice none 0 0 => some .nils
    | .map none => some .nilm
    | .nilFunc => some .nilf
    | .nilIface => some .nili
    | _ => none
  flats : List Value → Option (List AV)
    | [] => some []
    | v :: r => match flat1 v, flats r with
      | some x, some xs => some (x :: xs)
      | _, _ => none

def cOpd : Operand → Option Opd
  | .tmp t => some (.t t)
  | .const v => (ofV v).map .c
  | .func f => some (.c (.fn f [] []))
  | .global g => (globs g).map fun x => .c (.fp x)

def cOpds : List Operand → Option (List Opd)
  | [] => some []
  | x :: r => match cOpd x, cOpds r with
    | some y, some ys => some (y :: ys)
    | _, _ => none

def cOpt : Option Operand → Option (Option Opd)
  | none => some none
  | some x => (cOpd x).map some

def tiOf (P : Program) (t : TypeId) : Option TI :=
  match P.underlying t, P.info? t with
  | some (.struct _), some i => some ⟨true, i.size⟩
  | some (.array _ _), some i => some ⟨true, i.size⟩
  | some _, some i => if i.size = 1 then some ⟨false, 1⟩ else none
  | _, _ => none

/-- a type of one cell: bool (true), an integer (false) -/
def cellT (P : Program) (t : TypeId) : Option Bool :=
  match P.underlying t with
  | some .bool => some true
  | some (.int _) => some false
  | _ => none

def cellTs (P : Program) : Nat → List Field → Option (List Bool)
  | _, [] => some []
  | i, f :: r => match cellT P f.type, cellTs P (i + 1) r with
    | some b, some l => if f.name ≠ "_" ∧ f.offset = i then some (b :: l) else none
    | _, _ => none

def ekOf (P : Program) (t : TypeId) : Option EK :=
  match P.underlying t with
  | some .bool => some .bool
  | some (.int _) => some .int
  | some .string => some .str
  | some (.slice _) => some .nilS
  | some (.map _ _) => some .nilM
  | some (.func _ _ _) => some .nilF
  | some (.interface ms) => if ms.isEmpty = true then some .nilI else none
  | some (.pointer _) => some .ptr
  | some (.array n e) => match cellT P e, P.info? e with
    | some b, some i => if i.size = 1 ∧ P.eqGuardType P.depth t = false then some (.flat (List.replicate n b)) else none
    | _, _ => none
  | some (.struct fs) => if P.eqGuardType P.depth t = false ∧ P.stoodInHeld t = false then (cellTs P 0 fs.toList).map .flat else none
  | _ => none

def zeroOf (P : Program) (t : TypeId) : Option AV :=
  match P.info? t with
  | some i => match i.zero with
    | some z => match ofV z with
      | some x => if x.isTup then none else some x
      | none => none
    | none => none
  | none => none

def sizeT (P : Program) (t : TypeId) : Option Nat := (P.info? t).map (·.size)

def cParts (pl : Nat → Option (Nat × Nat)) : List (Nat × Operand) → Option (List (Nat × Nat × Opd))
  | [] => some []
  | (i, x) :: r => match pl i, cOpd x, cParts pl r with
    | some (o, s), some y, some ys => some ((o, s, y) :: ys)
    | _, _, _ => none

def cParts2 : List (Nat × Operand) → Option (List (Nat × Opd))
  | [] => some []
  | (i, x) :: r => match cOpd x, cParts2 r with
    | some y, some ys => some ((i, y) :: ys)
    | _, _ => none

/-- a method that is called on a value of a type as it stands -/
def iOf (P : Program) (name : String) (t : TypeId) : Option FuncId :=
  match P.info? t, P.underlying t with
  | some i, some d => match d with
    | .pointer _ => none
    | _ => match i.methods.find? (·.name == name) with
      | some m => if m.path.isEmpty = true then match m.func with
          | some (f, false) => some f
          | _ => none
        else none
      | none => none
  | _, _ => none

def iTable (P : Program) (name : String) : List (TypeId × FuncId) := (List.range P.types.size).filterMap fun t => (iOf P name t).map fun f => (t, f)

def cCall (P : Program) (c : Call) : Option AOp :=
  match c.callee, cOpds c.args.toList with
  | .value (.func f), some as => some (.callF f as)
  | .value (.tmp t), some as => some (.callV (.t t) as)
  | .invoke r name, some as => match cOpd r with
    | some x => some (.callI (iTable P name) x as)
    | none => none
  | .builtin .len, some [x] => match c.argTypes[0]? with
    | some t => match P.underlying t with
      | some (.slice _) => some (.len x)
      | some .string => some (.lenStr x)
      | some (.map _ _) => some (.mlen x)
      | _ => none
    | none => none
  | .builtin .clear, some [x] => match c.argTypes[0]? with
    | some t => match P.underlying t with
      | some (.slice e) => match zeroOf P e, P.info? e with
        | some z, some i => if z.cells.length = i.size ∧ i.size ≠ 0 then some (.clr z.cells x) else none
        | _, _ => none
      | _ => none
    | none => none
  | .builtin .max, some as => some (.mxmn true as)
  | .builtin .min, some as => some (.mxmn false as)
  | .builtin .append, some [x, y] => match c.argTypes[0]?, c.argTypes[1]? with
    | some t, some u => if t ≠ u then none else match P.underlying t, P.underlying u with
      | some (.slice e), some (.slice _) => match P.info? e with
        | some i => match i.zero with
          | some z => if z.cells.size = i.size ∧ i.bytes ≠ 0 then some (.append i.size i.bytes x y) else none
          | none => none
        | none => none
      | _, _ => none
    | _, _ => none
  | _, _ => none

def cOp (P : Program) (op : Op) : Option AOp :=
  match op with
  | .move x | .assign x => (cOpd x).map .mv
  | .pick c a b => match cOpd c, cOpd a, cOpd b with
    | some c, some a, some b => some (.pick c a b)
    | _, _, _ => none
  | .alloc e => (zeroOf P e).map .alloc
  | .box _ x => (cOpd x).map .box
  | .build t parts => match zeroOf P t with
    | some z => match P.underlying t with
      | some (.struct fs) => match cParts (fun i => match fs[i]? with
            | some f => match sizeT P f.type with
              | some s => some (f.offset, s)
              | none => none
            | none => none) parts.toList with
        | some ps => if fs.toList.all (fun f => (sizeT P f.type).isSome) then some (.build z.cells ps) else none
        | none => none
      | some (.array _ e) => match sizeT P e with
        | some s => (cParts (fun i => some (i * s, s)) parts.toList).map (.build z.cells)
        | none => none
      | _ => none
    | none => none
  | .buildSlice t len parts => match P.underlying t with
    | some (.slice e) => match P.info? e with
      | some i => match zeroOf P e, cParts2 parts.toList with
        | some z, some ps => if len * i.size ≤ 16777216 ∧ z.cells.length = i.size ∧ i.size ≠ 0 then some (.bslice i.size (List.flatten (List.replicate len z.cells)) ps) else none
        | _, _ => none
      | none => none
    | _ => none
  | .load t a => match tiOf P t, cOpd a with
    | some ti, some a => some (.load ti a)
    | _, _ => none
  | .store t a v => match sizeT P t, cOpd a, cOpd v with
    | some s, some a, some v => some (.store s a v)
    | _, _, _ => none
  | .nilCheck x => (cOpd x).map .nilck
  | .binOp op t x y _ => match cOpd x, cOpd y with
    | some x, some y => match op with
      | .eql => match ekOf P t with
        | some k => some (.eq false k x y)
        | none => none
      | .neq => match ekOf P t with
        | some k => some (.eq true k x y)
        | none => none
      | op => some (.bin op x y)
    | _, _ => none
  | .unOp op _ x => (cOpd x).map (.un op)
  | .convert s d x => match P.underlying s, P.underlying d, cOpd x with
    | some (.int _), some (.int k), some x => some (.conv k x)
    | _, _, _ => none
  | .makeFunc (.func f) a b => match cOpds a.toList, cOpds b.toList with
    | some a, some b => some (.mkfn f a b)
    | _, _ => none
  | .makeSlice t l c => match P.underlying t with
    | some (.slice e) => match P.info? e, zeroOf P e, cOpd l, cOpd c with
      | some i, some z, some l, some c => if z.cells.length = i.size ∧ i.bytes ≠ 0 then some (.mkslice z.cells i.bytes l c) else none
      | _, _, _, _ => none
    | _ => none
  | .slice t x lo hi mx => match cOpd x, cOpt lo, cOpt hi, cOpt mx with
    | some x, some lo, some hi, some mx => if mx.isSome && hi.isNone then none else match P.underlying t with
      | some .string => some (.slice .str x lo hi mx)
      | some (.slice e) => (sizeT P e).map fun s => .slice (.slc s) x lo hi mx
      | some (.array n e) => (sizeT P e).map fun s => .slice (.arr n s) x lo hi mx
      | _ => none
    | _, _, _, _ => none
  | .fieldAddr s x f => match P.underlying s with
    | some (.struct fs) => match fs[f]? with
      | some g => match tiOf P g.type, cOpd x with
        | some ti, some x => if ti.size = 0 then none else some (.foff g.offset ti x)
        | _, _ => none
      | none => none
    | _ => none
  | .field s x f => match P.underlying s with
    | some (.struct fs) => match fs[f]? with
      | some g => match tiOf P g.type, cOpd x with
        | some ti, some x => some (.fld g.offset ti x)
        | _, _ => none
      | none => none
    | _ => none
  | .indexAddr t x i => match cOpd x, cOpd i with
    | some x, some i => match P.underlying t with
      | some (.slice e) => (sizeT P e).map fun s => .ixaS s x i
      | some (.array n e) => (tiOf P e).map fun ti => .ixaA n ti x i
      | _ => none
    | _, _ => none
  | .index t x i => match cOpd x, cOpd i with
    | some x, some i => match P.underlying t with
      | some (.array n e) => (tiOf P e).map fun ti => .ix n ti x i
      | some .string => some (.ixStr x i)
      | _ => none
    | _, _ => none
  | .extract x i => (cOpd x).map fun x => .extract x i
  | .call c => cCall P c
  | .makeMap _ none => some .mkmap
  | .lookup t m k ok => match P.underlying t with
    | some (.map kt et) => match P.underlying kt, zeroOf P et, cOpd m, cOpd k with
      | some (.int _), some z, some m, some k => some (.mlook z ok m k)
      | some _, some z, some m, some k => match ekOf P kt with
        | some (.flat ks) => some (.mlookA ks z ok m k)
        | _ => none
      | _, _, _, _ => none
    | _ => none
  | .mapUpdate t m k v => match P.underlying t with
    | some (.map kt _) => match P.underlying kt, cOpd m, cOpd k, cOpd v with
      | some (.int _), some m, some k, some v => some (.mupd m k v)
      | some _, some m, some k, some v => match ekOf P kt with
        | some (.flat ks) => some (.mupdA ks m k v)
        | _ => none
      | _, _, _, _ => none
    | _ => none
  | .makeInterface t x => match P.underlying t with
    | some (.interface _) => none
    | some _ => (cOpd x).map (.mkifc t)
    | none => none
  | .sliceToArrayPointer t x => match P.underlying t with
    | some (.array n _) => (cOpd x).map (.s2a n)
    | _ => none
  | .typeAssert x _ t ok => match P.underlying t with
    | some (.interface _) => none
    | some _ => match zeroOf P t, cOpd x with
      | some z, some x => some (.tass z t ok x)
      | _, _ => none
    | none => none
  | _ => none

/-- remarks on a function's code that change nothing of what it says: which slots are still read behind a region, what is pure, where blocks are dropped -/
structure Ann where
  keep : Nat → List Nat
  pureF : FuncId → Bool
  pureV : Nat → Bool
  fresh : Nat → Option (List Nat)
  frz : Nat → List Nat

def effOp : AOp → Bool
  | .alloc _ | .box _ | .store _ _ _ | .mkslice _ _ _ _ | .append _ _ _ _ | .clr _ _ | .mkmap | .mupd _ _ _ | .mupdA _ _ _ _ => true
  | _ => false

/-- a call: is it pure? -/
def callOp (A : Ann) (id : Nat) : AOp → Option Bool
  | .callF f _ => some (A.pureF f)
  | .callV _ _ => some (A.pureV id)
  | .callI _ _ _ => some (A.pureV id)
  | _ => none

def cGuard (ops : Array Oper) : Option (Nat × Bool) → Option (Option (Nat × Bool))
  | none => some none
  | some (j, b) => match (ops[j]?).bind (·.dst) with
    | some t => some (some (t, b))
    | none => none

def cOpers (P : Program) (nt : Nat) (ops : Array Oper) : List Oper → Option (List AOper)
  | [] => some []
  | o :: r => match cGuard ops o.guard, cOpers P nt ops r with
    | some g, some l => if o.dst.all (fun d => Nat.blt d nt) then some ({ dst := o.dst, op := (cOp P o.op).getD .bad, guard := g } :: l) else none
    | _, _ => none

/-- which operations are surely before each one, a bit each -/
def maskOf (acc : List Nat) : List Edge → Nat → Nat
  | [], s => s
  | e :: r, s => maskOf acc r (if Region.binds .any e then s ||| 2 ^ e.on ||| acc.getD e.on 0 else s)

def befs : List Oper → List Nat → List Nat
  | [], acc => acc
  | o :: r, acc => befs r (acc ++ [maskOf acc o.after.toList 0])

def isBef (b : List Nat) (j i : Nat) : Bool := (b.getD i 0).testBit j

def isEff0 (A : Ann) (id : Nat) (l : List AOper) (i : Nat) : Bool := ((l[i]?).any fun o => effOp o.op) || (l[i]?).bind (fun o => callOp A id o.op) == some false

def isEff (A : Ann) (id : Nat) (b : List Nat) (l : List AOper) (i : Nat) : Bool :=
  isEff0 A id l i || ((l[i]?).bind (fun o => callOp A id o.op) == some true &&
    (List.range l.length).all fun j => j == i || isBef b i j || isBef b j i || !(isEff0 A id l j || ((l[j]?).bind (fun o => callOp A id o.op)).isSome))

def drawFine (ops : Array Oper) (b : List Nat) (eff : Nat → Bool) (n : Nat) : Bool :=
  (List.range n).all fun i =>
    ((ops.getD i default).after.toList.all fun e => !Region.binds .any e || Nat.blt e.on i) &&
    (List.range i).all fun j => isBef b j i || (!(eff i && eff j) && Oper.apart ops (ops.getD j default) (ops.getD i default))

def drawOper (A : Ann) (id : Nat) (ops : Array Oper) (l : List AOper) (b : List Nat) (eff : Nat → Bool) (effs : List Nat) (o : AOper) (i : Nat) : AOper :=
  { o with eff := eff i, pure := (l[i]?).bind (fun o => callOp A id o.op) == some true, lo := (effs.filter fun j => isBef b j i).length, hi := (effs.filter fun j => !isBef b i j).length, looks := Oper.looksAt ops (ops.getD i default) }

/-- lo and hi: how many effects are surely before, and how many are not surely behind -/
def cDraw (A : Ann) (id : Nat) (ops : Array Oper) (l : List AOper) : Option (List AOper) :=
  let b := befs ops.toList []
  let effL := (List.range l.length).map (isEff A id b l)
  let eff (i : Nat) : Bool := effL.getD i false
  let effs := (List.range l.length).filter eff
  if drawFine ops b eff l.length = true then some (l.zipIdx.map fun (o, i) => drawOper A id ops l b eff effs o i) else none

def maskR (racc : List Nat) (len : Nat) : List Edge → Nat → Nat
  | [], s => s
  | e :: r, s => maskR racc len r (if Region.binds .any e then s ||| 2 ^ e.on ||| (if Nat.blt e.on len then racc.getD (len - 1 - e.on) 0 else 0) else s)

def befsK {α : Type} (k : List Nat → α) : List Oper → List Nat → Nat → α
  | [], racc, _ => k racc.reverse
  | o :: r, racc, len => match maskR racc len o.after.toList 0 with
    | 0 => befsK k r (0 :: racc) (len + 1)
    | m + 1 => befsK k r ((m + 1) :: racc) (len + 1)

def allI {α : Type} (p : Nat → α → Bool) : List α → Nat → Bool
  | [], _ => true
  | a :: r, j => p j a && allI p r (j + 1)

def allT {α : Type} (p : Nat → α → Bool) : List α → Nat → Nat → Bool
  | [], _, _ => true
  | _ :: _, 0, _ => true
  | a :: r, k + 1, j => p j a && allT p r k (j + 1)

abbrev Row := AOper × Oper × Nat

def eff0 (A : Ann) (id : Nat) (o : AOper) : Bool := effOp o.op || callOp A id o.op == some false

def effF (A : Ann) (id : Nat) (zs : List Row) (o : AOper) (m i : Nat) : Bool :=
  eff0 A id o || (callOp A id o.op == some true &&
    allI (fun j (z : Row) => Nat.beq j i || z.2.2.testBit i || m.testBit j || !(eff0 A id z.1 || (callOp A id z.1.op).isSome)) zs 0)

def effsK {α : Type} (A : Ann) (id : Nat) (zs : List Row) (k : List Bool → α) : List Row → Nat → List Bool → α
  | [], _, r => k r.reverse
  | z :: t, i, r => match effF A id zs z.1 z.2.2 i with
    | true => effsK A id zs k t (i + 1) (true :: r)
    | false => effsK A id zs k t (i + 1) (false :: r)

def fineF (ops : Array Oper) (ws : List (Row × Bool)) : Bool :=
  allI (fun i (w : Row × Bool) => (w.1.2.1.after.toList.all fun e => !Region.binds .any e || Nat.blt e.on i) &&
    allT (fun j (v : Row × Bool) => w.1.2.2.testBit j || (!(w.2 && v.2) && Oper.apart ops v.1.2.1 w.1.2.1)) ws i 0) ws 0

def drawF (A : Ann) (id : Nat) (ops : Array Oper) (es : List (Nat × Nat)) (w : Row × Bool) (i : Nat) : AOper :=
  { w.1.1 with eff := w.2, pure := callOp A id w.1.1.op == some true, lo := (es.filter fun e => w.1.2.2.testBit e.1).length, hi := (es.filter fun e => !e.2.testBit i).length, looks := Oper.looksAt ops w.1.2.1 }

def mapI {α β : Type} (f : α → Nat → β) : List α → Nat → List β
  | [], _ => []
  | a :: r, j => f a j :: mapI f r (j + 1)

def effIdx : List (Row × Bool) → Nat → List (Nat × Nat)
  | [], _ => []
  | w :: r, i => if w.2 then (i, w.1.2.2) :: effIdx r (i + 1) else effIdx r (i + 1)

def cDrawF (A : Ann) (id : Nat) (ops : Array Oper) (l : List AOper) : Option (List AOper) :=
  if Nat.beq l.length ops.size then
    befsK (fun b =>
      let zs : List Row := List.zip l (List.zip ops.toList b)
      effsK A id zs (fun es =>
        let ws := List.zip zs es
        if fineF ops ws = true then some (mapI (drawF A id ops (effIdx ws 0)) ws 0) else none) zs 0 []) ops.toList [] 0
  else none
/-- a cell or a struct is made -/
def allocOf : Op → Option TypeId
  | .alloc t => some t
  | _ => none
/-- the last operations: k are made, k are stored -/
def twinTag (n k i : Nat) : Nat := if Nat.blt i (n - 2 * k) then 0 else if Nat.blt i (n - k) then 1 else 3
def twinFits : Nat → AOp → Bool
  | 0, .load _ _ => true
  | 0, .callF _ _ => true
  | 0, op => heapFree op
  | 3, .store _ _ _ => true
  | 1, .alloc _ => true
  | _, _ => false
def blindTo (ops : Array Oper) (i j : Nat) : Bool := match (ops.getD j default).dst with
  | some d => !(Oper.looksAt ops (ops.getD i default)).contains d
  | none => true
def twinOK (ops : Array Oper) (l : List AOper) (b : List Nat) (k : Nat) (t : TypeId) : Bool :=
  Nat.blt 0 k && Nat.ble (2 * k) ops.size && drawFine ops b (fun _ => false) l.length &&
  ((List.range k).all fun j => allocOf (ops.getD (ops.size - 2 * k + j) default).op == some t && ((List.range k).all fun j' => isBef b (ops.size - 2 * k + j) (ops.size - k + j'))) &&
  ((List.range k).all fun j => (List.range j).all fun j' => isBef b (ops.size - k + j') (ops.size - k + j)) &&
  (List.range l.length).all fun i => match l[i]? with
    | some o => twinFits (twinTag ops.size k i) o.op && o.guard.isNone && (twinTag ops.size k i == 3 || (List.range k).all fun j => blindTo ops i (ops.size - 2 * k + j)) && (twinTag ops.size k i != 3 || (ops.getD i default).dst.isNone)
    | none => false
/-- how many stores there are at the end -/
def storesAt : List Oper → Nat
  | [] => 0
  | o :: r => match o.op with
    | .store _ _ _ => storesAt r + 1
    | _ => 0

/-- a region in which like blocks are made in any order -/
def cTwin (ops : Array Oper) (l : List AOper) : Option (List (Nat × AOper)) :=
  let k := storesAt ops.toList.reverse
  match allocOf (ops.getD (ops.size - 2 * k) default).op with
  | some t => if twinOK ops l (befs ops.toList []) k t = true then some (l.zipIdx.map fun (o, i) => (twinTag ops.size k i, { o with looks := Oper.looksAt ops (ops.getD i default) })) else none
  | none => none

/-- code that is not followed: a function that has it may still be known by its answers -/
def badCode : ACode := .reg [{ dst := none, op := .bad, guard := none }] []

def ccode (P : Program) (A : Ann) (nt : Nat) : Code → Option ACode
  | .skip => some .skip
  | .region id ops draw => match cOpers P nt ops ops.toList with
    | some l =>
      let wrap (c : ACode) : ACode := if (A.frz id).isEmpty then c else .frz (A.frz id) c
      if draw then match cDrawF A id ops l with
        | some l => some (wrap (.dreg l (A.keep id)))
        | none => (cTwin ops l).map fun l => wrap (.twin l (A.keep id))
      else some (wrap (.reg l (A.keep id)))
    | none => none
  | .seq a b => match ccode P A nt a, ccode P A nt b with
    | some a, some b => some (.seq a b)
    | _, _ => none
  | .cond c a b => match cOpd c, ccode P A nt a, ccode P A nt b with
    | some c, some a, some b => some (.cond c a b)
    | _, _, _ => none
  | .block id c => match ccode P A nt c with
    | some c => some (.block id (match A.fresh id with
      | some ks => .fresh ks c
      | none => c))
    | none => none
  | .loop c => (ccode P A nt c).map .loop
  | .exit id => some (.exit id)
  | .scope c => (ccode P A nt c).map fun c => .scope c c
  | .label l => some (.label l)
  | .goto l => some (.goto l)
  | .ret => some .ret
  | .rangeFunc _ _ _ _ => some badCode
  | .refuse _ => none

def cRes (P : Program) : List ResultVar → Option (List ARes)
  | [] => some []
  | .tmp t :: r => (cRes P r).map (.tmp t :: ·)
  | .cell t ty :: r => match tiOf P ty, cRes P r with
    | some ti, some l => some (.cell t ti :: l)
    | _, _ => none

def cfun (P : Program) (A : Ann) (mode : Nat) (raw : Bool) (fn : Func) : Option AFun :=
  match fn.body with
  | some c => match ccode P A fn.ntmps c, cRes P fn.results.toList with
    | some c, some rs => some { nt := fn.ntmps, res := rs, mode := mode, raw := raw, body := c }
    | _, _ => none
  | none => none
end Go.Ab
