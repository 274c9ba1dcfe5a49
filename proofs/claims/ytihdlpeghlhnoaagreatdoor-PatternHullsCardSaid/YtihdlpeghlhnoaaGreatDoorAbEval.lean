/-
  Part of the proved evaluator, or answers that it computed.
-/
import Derived.Test.YtihdlpeghlhnoaaGreatDoorAbGlob
set_option linter.all false
namespace Go.Ab

def binInt (op : BinOp) (k : IntKind) (a b : Int) : Option AV :=
  match op with
  | .add => some (.int k (k.wrap (a + b)))
  | .sub => some (.int k (k.wrap (a - b)))
  | .mul => some (.int k (k.wrap (a * b)))
  | .quo => if b = 0 then none else some (.int k (k.wrap (a.tdiv b)))
  | .rem => if b = 0 then none else some (.int k (a.tmod b))
  | .and => some (.int k (k.wrap (BitVec.ofInt k.bits a &&& BitVec.ofInt k.bits b).toNat))
  | .or => some (.int k (k.wrap (BitVec.ofInt k.bits a ||| BitVec.ofInt k.bits b).toNat))
  | .xor => some (.int k (k.wrap (BitVec.ofInt k.bits a ^^^ BitVec.ofInt k.bits b).toNat))
  | .andNot => some (.int k (k.wrap (BitVec.ofInt k.bits a &&& ~~~ BitVec.ofInt k.bits b).toNat))
  | .eql => some (.bool (a == b))
  | .neq => some (.bool (a != b))
  | .lss => some (.bool (decide (a < b)))
  | .leq => some (.bool (decide (a ≤ b)))
  | .gtr => some (.bool (decide (a > b)))
  | .geq => some (.bool (decide (a ≥ b)))
  | .shl | .shr => none

def abin (op : BinOp) (x y : AV) : Option AV :=
  match x, y with
  | .int k a, .int k' b =>
    match op with
    | .shl => if b < 0 then none else some (.int k (k.wrap (a * 2 ^ (min b.toNat k.bits))))
    | .shr => if b < 0 then none else some (.int k (a.fdiv (2 ^ (min b.toNat k.bits))))
    | op => if k = k' then binInt op k a b else none
  | .str a, .str b => match op with
    | .lss => some (.bool (Op.bytesLess a.toList b.toList))
    | .leq => some (.bool (Op.bytesLess a.toList b.toList || a.toList == b.toList))
    | .gtr => some (.bool !(Op.bytesLess a.toList b.toList || a.toList == b.toList))
    | .geq => some (.bool !Op.bytesLess a.toList b.toList)
    | .add => if ((a.size + b.size : Nat) : Int) > IntKind.i64.max then none else some (.str (a ++ b))
    | _ => none
  | _, _ => none

/-- cells are compared: bools (true), integers (false) -/
def eqCell (b : Bool) (x y : AV) : Option Bool :=
  match b, x, y with
  | false, .int k a, .int k' c => if k = k' then some (a == c) else none
  | true, .bool a, .bool c => some (a == c)
  | _, _, _ => none

def eqCells : List Bool → List AV → List AV → Option Bool
  | [], [], [] => some true
  | b :: ks, x :: r, y :: s => match eqCell b x y with
    | some true => eqCells ks r s
    | some false => some false
    | none => none
  | _, _, _ => none

def aeq (k : EK) (x y : AV) : Option Bool :=
  match k, x, y with
  | .int, x, y => eqCell false x y
  | .bool, x, y => eqCell true x y
  | .str, .str a, .str b => some (a.toList == b.toList)
  | .nilS, .nils, .nils | .nilM, .nilm, .nilm | .nilF, .nilf, .nilf => some true
  | .nilS, .nils, .lst _ _ _ | .nilS, .nils, .vec _ _ _ _ _ | .nilS, .lst _ _ _, .nils | .nilS, .vec _ _ _ _ _, .nils => some false
  | .nilI, .nili, .nili => some true
  | .nilI, .nili, .ifc _ _ | .nilI, .ifc _ _, .nili => some false
  | .nilM, .mp _, .nilm | .nilM, .nilm, .mp _ | .nilF, .fn _ _ _, .nilf | .nilF, .nilf, .fn _ _ _ => some false
  | .ptr, .nilp, .nilp => some true
  | .ptr, .nilp, .ptr _ _ _ | .ptr, .ptr _ _ _, .nilp | .ptr, .nilp, .fp _ | .ptr, .fp _, .nilp => some false
  | .flat ks, .agg xs, .agg ys => eqCells ks xs ys
  | _, _, _ => none

def aun (op : UnOp) (x : AV) : Option AV :=
  match op, x with
  | .neg, .int k n => some (.int k (k.wrap (0 - n)))
  | .xor, .int k n => some (.int k (k.wrap (BitVec.ofInt k.bits (if k.signed then -1 else k.max) ^^^ BitVec.ofInt k.bits n).toNat))
  | .not, .bool b => some (.bool !b)
  | _, _ => none

def AV.asNat : AV → Option Nat
  | .int _ n => if 0 ≤ n then some n.toNat else none
  | _ => none

def fillA (cells : List AV) : List (Nat × Nat × AV) → Option (List AV)
  | [] => some cells
  | (off, size, v) :: r => if v.cells.length = size ∧ off + size ≤ cells.length then fillA (setCells cells off v.cells) r else none

/-- the bounds of a slice expression: low, high, and the new capacity if it is told -/
def bound1 (x : AV) (y : Nat) : Option Nat :=
  match x.asNat with
  | some i => if i ≤ y then some i else none
  | none => none

def optBound (x : Option AV) (y dflt : Nat) : Option Nat :=
  match x with
  | none => some dflt
  | some v => bound1 v y

/-- an operand that may be absent -/
def Opd.evo (fr : Frame) : Option Opd → Option (Option AV)
  | none => some none
  | some x => match x.ev fr with
    | some v => some (some v)
    | none => none

def aslice (H : Heap) (k : SK) (x : AV) (lo hi mx : Option AV) : Option AV :=
  match k, x with
  | .str, .str s => match mx with
    | some _ => none
    | none => match optBound hi s.size s.size with
      | some h => match optBound lo h 0 with
        | some l => some (.str (s.extract l h))
        | none => none
      | none => none
  | .slc _, .nils => match optBound mx 0 0 with
    | some m => match optBound hi m 0 with
      | some h => match optBound lo h 0 with
        | some _ => some .nils
        | none => none
      | none => none
    | none => none
  | .slc sz, .lst sz' ex xs => if sz ≠ sz' then none else
    match optBound mx xs.length xs.length with
    | some m => match optBound hi m xs.length with
      | some h => match optBound lo h 0 with
        | some l => some (.lst sz (mx.isSome && m == h || mx.isNone && ex && h == xs.length) ((xs.take h).drop l))
        | none => none
      | none => none
    | none => none
  | .slc sz, .vec id ver off len sz' => if sz ≠ sz' ∨ sz = 0 then none else
    match mx with
    | some mv => match H[id]? with
      | some (.row ver' cs _ _) => if ver' ≠ ver then none else
        match optBound (some mv) ((cs.length - off) / sz) 0 with
        | some m => match optBound hi m len with
          | some h => match optBound lo h 0 with
            | some _ => some .dead
            | none => none
          | none => none
        | none => none
      | _ => none
    | none => match H[id]? with
      | some (.row ver' cs _ _) => if ver' ≠ ver then none else
        match optBound hi ((cs.length - off) / sz) len with
        | some h => match optBound lo h 0 with
          | some l => if off + h * sz < cs.length ∨ l = 0 ∨ l < h then some (.vec id ver (off + l * sz) (h - l) sz) else some (.lst sz false [])
          | none => none
        | none => none
      | _ => none
  | .arr n sz, .ptr id ver off => if mx.isSome ∨ sz = 0 then none else
    match H[id]? with
    | some (.row ver' cs _ ex) => if ver' ≠ ver ∨ cs.length ≠ off + n * sz ∨ ex = false then none else
      match optBound hi n n with
      | some h => match optBound lo h 0 with
        | some l => if l < n then some (.vec id ver (off + l * sz) (h - l) sz) else none
        | none => none
      | none => none
    | _ => none
  | .arr n sz, .fp (.agg cs) => if mx.isSome ∨ cs.length ≠ n * sz then none else
    match optBound hi n n with
    | some h => match optBound lo h 0 with
      | some l => if l < n then some (.lst sz false (((chunks sz n cs).take h).drop l)) else none
      | none => none
    | none => none
  | _, _ => none

/-- what is appended, as cells -/
def asrc (H : Heap) (sz : Nat) : AV → Option (List AV)
  | .nils => some []
  | .lst sz' _ xs => if sz' = sz then some (xs.flatMap AV.cells) else none
  | .vec id ver off len sz' => if sz' = sz then match H[id]? with
      | some (.row ver' cs _ _) => if ver' = ver ∧ off + len * sz ≤ cs.length then some ((cs.drop off).take (len * sz)) else none
      | _ => none
    else none
  | _ => none

def aappend (base bar : Nat) (H : Heap) (sz bytes : Nat) (x : AV) (news : List AV) : Option (AV × Heap × List Nat) :=
  let m := news.length / sz
  match x with
  | .nils => if news.isEmpty then some (.nils, H, []) else
    if m * bytes ≤ 140737488355328 then some (.vec H.length 0 0 m sz, H ++ [.row 0 news 0 false], []) else none
  | .lst sz' ex xs => if sz' ≠ sz then none else if news.isEmpty then some (.lst sz' ex xs, H, []) else
    if ex = true ∧ (xs.length + m) * bytes ≤ 140737488355328 then some (.vec H.length 0 0 (xs.length + m) sz, H ++ [.row 0 (xs.flatMap AV.cells ++ news) 0 false], []) else none
  | .vec id ver off len sz' => if sz' ≠ sz then none else
    match H[id]? with
    | some (.row ver' cs fz ex) =>
      if ver' ≠ ver ∨ cs.length < off + len * sz ∨ 140737488355328 < (len + m) * bytes then none
      else if news.isEmpty then some (.vec id ver off len sz, H, [])
      else if off + (len + m) * sz ≤ cs.length then
        if off = 0 ∧ fz ≤ off + len * sz ∧ bar ≤ id ∧ (base ≤ id ∨ AV.top.tops news ≤ id + 1)
        then some (.vec id ver off (len + m) sz, H.set id (.row ver (setCells cs (off + len * sz) news) fz ex), [id])
        else if 0 < off ∧ fz ≤ off + len * sz ∧ bar ≤ id ∧ (base ≤ id ∨ AV.top.tops news ≤ id + 1)
        then some (.vec id ver off (len + m) sz, H.set id (.row ver (setCells cs (off + len * sz) news) fz ex), [id]) else none
      else if ex then
        some (.vec H.length 0 0 (len + m) sz, H ++ [.row 0 ((cs.drop off).take (len * sz) ++ news) 0 false], [])
      else
        if off = 0 ∧ fz ≤ len * sz ∧ bar ≤ id ∧ (base ≤ id ∨ AV.top.tops (cs.take (len * sz) ++ news) ≤ id + 1)
        then some (.vec id (ver + 1) 0 (len + m) sz, H.set id (.row (ver + 1) (cs.take (len * sz) ++ news) fz false), [id])
        else if 0 < off ∧ fz ≤ off + len * sz ∧ bar ≤ id ∧ (base ≤ id ∨ AV.top.tops ((cs.drop off).take (len * sz) ++ news) ≤ id + 1)
        then some (.vec id (ver + 1) 0 (len + m) sz, H.set id (.row (ver + 1) ((cs.drop off).take (len * sz) ++ news) (fz - off) false), [id]) else none
    | _ => none
  | _ => none

/-- a key is looked for among a map's entries -/
def mfind (k : IntKind) (n : Int) : List (AV × AV) → Nat → Option (Option (Nat × AV))
  | [], _ => some none
  | (.int k' m, v) :: r, i => if k = k' then (if n = m then some (some (i, v)) else mfind k n r (i + 1)) else none
  | _, _ => none

/-- a key that is a struct, or an array, of cells -/
def mfindA (ks : List Bool) (cs : List AV) : List (AV × AV) → Nat → Option (Option (Nat × AV))
  | [], _ => some none
  | (.agg xs, v) :: r, i => match eqCells ks cs xs with
    | some true => some (some (i, v))
    | some false => mfindA ks cs r (i + 1)
    | none => none
  | _, _ => none

/-- the greater, or the smaller, of two strings -/
def mxStr (mx : Bool) (x y : AV) : Option AV :=
  match x, y with
  | .str a, .str b => some (.str (if mx then (if Op.bytesLess a.toList b.toList then b else a) else (if Op.bytesLess a.toList b.toList || a.toList == b.toList then a else b)))
  | _, _ => none

def mres (ok : Bool) (v : AV) (is : Bool) : AV := if ok then .tup [v, .bool is] else v

inductive AExit where
  | normal
  | exit (id : Nat)
  | goto (l : Nat)
  | ret
  deriving Inhabited

structure St where
  fr : Frame
  H : Heap
  deriving Inhabited

/-- what a call whose contract is known does: its value, blocks that it changes, blocks that it hands out -/
structure KRes where
  v : AV
  ups : List (Nat × Blk) := []
  news : List Blk := []
  deriving Inhabited

structure Env where
  funs : FuncId → Option AFun
  known : FuncId → List AV → Heap → Option KRes

def frzAll (bar : Nat) : Heap → List AV → Option (List AV × Heap) := frz.frzs 8 bar

def fput (d : Option Nat) (v : AV) (fr : Frame) : Frame :=
  match d with
  | some t => fset t v fr
  | none => fr

/-- operations that call no function: the value (none: no value), the heap, the blocks that it touches -/
def aop (base bar : Nat) (op : AOp) (fr : Frame) (H : Heap) : Option (AV × Heap × List Nat) :=
  let pure1 (v : Option AV) : Option (AV × Heap × List Nat) := match v with
    | some v => some (v, H, [])
    | none => none
  match op with
  | .mv x => pure1 (x.ev fr)
  | .pick c a b => match c.ev fr with
    | some (.bool true) => pure1 (a.ev fr)
    | some (.bool false) => pure1 (b.ev fr)
    | _ => none
  | .alloc z => if z.isTup then none else some (.ptr H.length 0 0, H ++ [.row 0 z.cells 0 true], [])
  | .box x => match x.ev fr with
    | some v => if v.isTup then none else some (.ptr H.length 0 0, H ++ [.row 0 v.cells 0 true], [])
    | none => none
  | .build zero parts => match evs fr (parts.map (·.2.2)) with
    | some vs => if vs.any AV.isTup then none else pure1 ((fillA zero ((parts.zip vs).map fun (p, v) => (p.1, p.2.1, v))).map .agg)
    | none => none
  | .bslice sz cells parts => match evs fr (parts.map (·.2)) with
    | some vs => if vs.any AV.isTup then none else match frzAll bar H vs with
      | some (vs', H') => match fillA cells ((parts.zip vs').map fun (p, v) => (p.1 * sz, sz, v)) with
        | some cs => if sz = 0 then none else some (.lst sz true (chunks sz (cs.length / sz) cs), H', if AV.noVec.noVecs vs then [] else List.range H.length)
        | none => none
      | none => none
    | none => none
  | .load ti a => match a.ev fr with
    | some p => pure1 (aload H ti p)
    | none => none
  | .store size a v => match a.ev fr, v.ev fr with
    | some p, some v => if v.isTup then none else match astore base bar H size p v with
      | some (H', id) => some (.tup [], H', [id])
      | none => none
    | _, _ => none
  | .nilck x => match x.ev fr with
    | some (.ptr id ver off) => some (.ptr id ver off, H, [])
    | some (.fp v) => some (.fp v, H, [])
    | some (.fn f a b) => some (.fn f a b, H, [])
    | _ => none
  | .bin op x y => match x.ev fr, y.ev fr with
    | some a, some b => pure1 (abin op a b)
    | _, _ => none
  | .eq neg k x y => match x.ev fr, y.ev fr with
    | some a, some b => pure1 ((aeq k a b).map fun r => .bool (if neg then !r else r))
    | _, _ => none
  | .un op x => match x.ev fr with
    | some a => pure1 (aun op a)
    | none => none
  | .conv k x => match x.ev fr with
    | some (.int _ n) => some (.int k (k.wrap n), H, [])
    | _ => none
  | .mkfn f a b => match evs fr a, evs fr b with
    | some a, some b => some (.fn f a b, H, [])
    | _, _ => none
  | .mkslice zero bytes l c => match l.ev fr, c.ev fr with
    | some l, some c => match l.asNat, c.asNat with
      | some l, some c => if l ≤ c ∧ c * bytes ≤ 140737488355328 ∧ zero.length ≠ 0 then
          some (.vec H.length 0 0 l zero.length, H ++ [.row 0 (List.flatten (List.replicate c zero)) 0 true], []) else none
      | _, _ => none
    | _, _ => none
  | .slice k x lo hi mx => match x.ev fr, Opd.evo fr lo, Opd.evo fr hi, Opd.evo fr mx with
    | some x, some lo, some hi, some mx => pure1 (aslice H k x lo hi mx)
    | _, _, _, _ => none
  | .foff off ti x => match x.ev fr with
    | some (.ptr id ver o) => some (.ptr id ver (o + off), H, [])
    | some (.fp (.agg cs)) => pure1 ((part ti cs off).map .fp)
    | _ => none
  | .fld off ti x => match x.ev fr with
    | some (.agg cs) => pure1 (part ti cs off)
    | _ => none
  | .ixaS sz x i => match x.ev fr, i.ev fr with
    | some x, some i => match i.asNat with
      | some i => match x with
        | .lst sz' _ xs => if sz' = sz then pure1 ((xs[i]?).map .fp) else none
        | .vec id ver off len sz' => if sz' = sz ∧ i < len then some (.ptr id ver (off + i * sz), H, []) else none
        | _ => none
      | none => none
    | _, _ => none
  | .ixaA n ti x i => match x.ev fr, i.ev fr with
    | some x, some i => match i.asNat with
      | some i => if i < n then match x with
          | .ptr id ver o => some (.ptr id ver (o + i * ti.size), H, [])
          | .fp (.agg cs) => pure1 ((part ti cs (i * ti.size)).map .fp)
          | _ => none
        else none
      | none => none
    | _, _ => none
  | .ix n ti x i => match x.ev fr, i.ev fr with
    | some (.agg cs), some i => match i.asNat with
      | some i => if i < n then pure1 (part ti cs (i * ti.size)) else none
      | none => none
    | _, _ => none
  | .ixStr x i => match x.ev fr, i.ev fr with
    | some (.str s), some i => match i.asNat with
      | some i => match s[i]? with
        | some b => some (.int .u8 b.toNat, H, [])
        | none => none
      | none => none
    | _, _ => none
  | .extract x i => match x.ev fr with
    | some (.tup vs) => pure1 (vs[i]?)
    | _ => none
  | .append sz bytes x y => match x.ev fr, y.ev fr with
    | some x, some y => match asrc H sz y with
      | some news => match frzAll bar H news with
        | some (news', H') => if sz = 0 ∨ ¬ sz ∣ news.length then none else match aappend base bar H' sz bytes x news' with
          | some (v, H'', tc) => some (v, H'', if AV.noVec.noVecs news then tc else List.range H.length)
          | none => none
        | none => none
      | none => none
    | _, _ => none
  | .len x => match x.ev fr with
    | some .nils => some (.int .i64 0, H, [])
    | some (.lst _ _ xs) => some (.int .i64 xs.length, H, [])
    | some (.vec _ _ _ n _) => some (.int .i64 n, H, [])
    | _ => none
  | .lenStr x => match x.ev fr with
    | some (.str s) => some (.int .i64 s.size, H, [])
    | _ => none
  | .mxmn mx xs => match evs fr xs with
    | some (.int k a :: r) => pure1 (r.foldlM (fun acc v => match acc, v with
        | .int k x, .int k' y => if k = k' then some (.int k (if mx then (if y > x then y else x) else (if y < x then y else x))) else none
        | _, _ => none) (.int k a))
    | some (.str a :: r) => pure1 (r.foldlM (mxStr mx) (.str a))
    | _ => none
  | .clr z x => match x.ev fr with
    | some .nils => some (.tup [], H, [])
    | some (.vec id ver off len sz) => if len = 0 then some (.tup [], H, []) else match H[id]? with
      | some (.row ver' cs fz ex) =>
        if ver' = ver ∧ sz = z.length ∧ fz ≤ off ∧ off + len * sz ≤ cs.length ∧ bar ≤ id ∧ AV.top.tops z = 0
        then some (.tup [], H.set id (.row ver' (setCells cs off (List.flatten (List.replicate len z))) fz ex), [id]) else none
      | _ => none
    | _ => none
  | .mkmap => some (.mp H.length, H ++ [.map []], [])
  | .mlook z ok m k => match m.ev fr, k.ev fr with
    | some .nilm, some (.int _ _) => some (mres ok z false, H, [])
    | some (.mp id), some (.int k n) => match H[id]? with
      | some (.map es) => match mfind k n es 0 with
        | some (some (_, v)) => some (mres ok v true, H, [])
        | some none => some (mres ok z false, H, [])
        | none => none
      | _ => none
    | _, _ => none
  | .mupd m k v => match m.ev fr, k.ev fr, v.ev fr with
    | some (.mp id), some (.int k n), some v => if ¬ (v.top = 0 ∧ v.isTup = false ∧ bar ≤ id) then none else match H[id]? with
      | some (.map es) => match mfind k n es 0 with
        | some (some (i, _)) => some (.tup [], H.set id (.map (es.set i (.int k n, v))), [id])
        | some none => some (.tup [], H.set id (.map (es ++ [(.int k n, v)])), [id])
        | none => none
      | _ => none
    | _, _, _ => none
  | .mlen x => match x.ev fr with
    | some .nilm => some (.int .i64 0, H, [])
    | some (.mp id) => match H[id]? with
      | some (.map es) => some (.int .i64 es.length, H, [])
      | _ => none
    | _ => none
  | .mlookA ks z ok m k => match m.ev fr, k.ev fr with
    | some .nilm, some (.agg cs) => match eqCells ks cs cs with
      | some true => some (mres ok z false, H, [])
      | _ => none
    | some (.mp id), some (.agg cs) => match eqCells ks cs cs with
      | some true => match H[id]? with
        | some (.map es) => match mfindA ks cs es 0 with
          | some (some (_, v)) => some (mres ok v true, H, [])
          | some none => some (mres ok z false, H, [])
          | none => none
        | _ => none
      | _ => none
    | _, _ => none
  | .mupdA ks m k v => match m.ev fr, k.ev fr, v.ev fr with
    | some (.mp id), some (.agg cs), some v => if ¬ (v.top = 0 ∧ v.isTup = false ∧ bar ≤ id) then none else match eqCells ks cs cs with
      | some true => match H[id]? with
        | some (.map es) => match mfindA ks cs es 0 with
          | some (some (i, _)) => some (.tup [], H.set id (.map (es.set i (.agg cs, v))), [id])
          | some none => some (.tup [], H.set id (.map (es ++ [(.agg cs, v)])), [id])
          | none => none
        | _ => none
      | _ => none
    | _, _, _ => none
  | .mkifc t x => match x.ev fr with
    | some v => if v.isTup then none else match frzAll bar H [v] with
      | some ([v'], H') => some (.ifc t v', H', if v.noVec then [] else List.range H.length)
      | _ => none
    | none => none
  | .s2a n x => match x.ev fr with
    | some (.lst _ _ xs) => if n ≤ xs.length ∧ n ≠ 0 then some (.fp (.agg ((xs.take n).flatMap AV.cells)), H, []) else none
    | some (.vec id ver off len _) => if n ≤ len ∧ n ≠ 0 then some (.ptr id ver off, H, []) else none
    | _ => none
  | .tass z t ok x => match x.ev fr with
    | some (.ifc t' v) => if t' = t then some (mres ok v true, H, []) else if ok then some (mres true z false, H, []) else none
    | some .nili => if ok then some (mres true z false, H, []) else none
    | _ => none
  | .callF _ _ | .callV _ _ | .callI _ _ _ | .bad => none

end Go.Ab
