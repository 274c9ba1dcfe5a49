/-
  The evaluator cut into small pieces, so that the kernel runs it faster; and that it is the same. Written by a program of ours (mkquick.py).
-/
import Derived.Test.YtihdlpeghlhnoaaGreatDoorAbSame
set_option linter.all false
namespace Go.Ab
/-! frames and lists by plain recursors -/
noncomputable def getQ {β : Type} (l : List β) : Nat → Option β := List.rec (motive := fun _ => Nat → Option β) (fun _ => none) (fun x _ ih i => Bool.rec (motive := fun _ => Option β) (ih (Nat.sub i 1)) (some x) (Nat.beq i 0)) l
theorem getQ_eq {β : Type} : ∀ {l : List β} {i : Nat}, getQ l i = l[i]?
  | [], i => by simp [getQ]
  | x :: r, 0 => rfl
  | x :: r, i + 1 => by
    show getQ r i = _
    rw [getQ_eq]; rfl
noncomputable def fgetQ (t : Nat) (fr : Frame) : Option AV := List.rec (motive := fun _ => Option AV) none (fun p _ ih => Prod.rec (motive := fun _ => Option AV) (fun u v => Bool.rec (motive := fun _ => Option AV) ih (some v) (Nat.beq t u)) p) fr
theorem fgetQ_eq {t : Nat} : ∀ {fr : Frame}, fgetQ t fr = fget t fr
  | [] => rfl
  | (u, v) :: r => by
    show Bool.rec (motive := fun _ => Option AV) (fgetQ t r) (some v) (Nat.beq t u) = _
    rw [fgetQ_eq, fget]
    cases Nat.beq t u <;> rfl
noncomputable def fsetQ (t : Nat) (v : AV) (fr : Frame) : Frame := List.rec (motive := fun _ => Frame) [(t, v)] (fun p r ih => Prod.rec (motive := fun _ => Frame) (fun u x => Bool.rec (motive := fun _ => Frame) (List.cons (Prod.mk u x) ih) (List.cons (Prod.mk t v) r) (Nat.beq t u)) p) fr
theorem fsetQ_eq {t : Nat} {v : AV} : ∀ {fr : Frame}, fsetQ t v fr = fset t v fr
  | [] => rfl
  | (u, x) :: r => by
    show Bool.rec (motive := fun _ => Frame) ((u, x) :: fsetQ t v r) ((t, v) :: r) (Nat.beq t u) = _
    rw [fsetQ_eq, fset]
    cases Nat.beq t u <;> rfl
noncomputable def memQ (u : Nat) (l : List Nat) : Bool := List.rec (motive := fun _ => Bool) false (fun x _ ih => Bool.rec (motive := fun _ => Bool) ih true (Nat.beq u x)) l
theorem memQ_eq {u : Nat} : ∀ {l : List Nat}, memQ u l = memB u l
  | [] => rfl
  | x :: r => by
    show Bool.rec (motive := fun _ => Bool) (memQ u r) true (Nat.beq u x) = _
    rw [memQ_eq, memB]
    cases Nat.beq u x <;> rfl
noncomputable def fkeepQ (ts : List Nat) (fr : Frame) : Frame := List.rec (motive := fun _ => Frame) [] (fun p _ ih => Prod.rec (motive := fun _ => Frame) (fun u x => Bool.rec (motive := fun _ => Frame) ih (List.cons (Prod.mk u x) ih) (memQ u ts)) p) fr
theorem fkeepQ_eq {ts : List Nat} : ∀ {fr : Frame}, fkeepQ ts fr = fkeep ts fr
  | [] => rfl
  | (u, x) :: r => by
    show Bool.rec (motive := fun _ => Frame) (fkeepQ ts r) ((u, x) :: fkeepQ ts r) (memQ u ts) = _
    rw [fkeepQ_eq, memQ_eq, fkeep]
    cases memB u ts <;> rfl
noncomputable def evQ (fr : Frame) (x : Opd) : Option AV := Opd.rec (motive := fun _ => Option AV) (fun n => fgetQ n fr) some x
theorem evQ_eq {fr : Frame} {x : Opd} : evQ fr x = x.ev fr := by
  cases x with
  | t n => exact fgetQ_eq
  | c v => rfl
noncomputable def evsC (o : Option AV) (os : Option (List AV)) : Option (List AV) := Option.rec (motive := fun _ => Option (List AV)) none (fun v => Option.rec (motive := fun _ => Option (List AV)) none (fun vs => some (v :: vs)) os) o
noncomputable def evsQ (fr : Frame) (l : List Opd) : Option (List AV) := List.rec (motive := fun _ => Option (List AV)) (some []) (fun x _ ih => evsC (evQ fr x) ih) l
theorem evsQ_eq {fr : Frame} : ∀ {l : List Opd}, evsQ fr l = evs fr l
  | [] => rfl
  | x :: r => by
    show evsC (evQ fr x) (evsQ fr r) = _
    rw [evsQ_eq, evQ_eq, evs]
    cases x.ev fr with
    | none => rfl
    | some v => cases evs fr r <;> rfl
noncomputable def fputQ (d : Option Nat) (v : AV) (fr : Frame) : Frame := Option.rec (motive := fun _ => Frame) fr (fun t => fsetQ t v fr) d
theorem fputQ_eq {d : Option Nat} {v : AV} {fr : Frame} : fputQ d v fr = fput d v fr := by
  cases d with
  | none => rfl
  | some t => exact fsetQ_eq
noncomputable def wantQ (g : Option (Nat × Bool)) (fr : Frame) : Option Bool :=
  Option.rec (motive := fun _ => Option Bool) (some true) (fun p => Prod.rec (motive := fun _ => Option Bool) (fun t b => match fgetQ t fr with
    | some (.bool x) => some (Bool.rec (motive := fun _ => Bool) (Bool.rec (motive := fun _ => Bool) true false b) b x)
    | some _ => some false
    | none => none) p) g
theorem wantQ_eq {g : Option (Nat × Bool)} {fr : Frame} : wantQ g fr = wantA g fr := by
  cases g with
  | none => rfl
  | some p =>
    obtain ⟨t, b⟩ := p
    unfold wantQ wantA
    simp only [fgetQ_eq]
    cases fget t fr with
    | none => rfl
    | some v => cases v <;> first | rfl | (rename_i x; cases x <;> cases b <;> rfl)
noncomputable def partQ (ti : TI) (cs : List AV) (off : Nat) : Option AV := Bool.rec (motive := fun _ => Option AV) (getQ cs off) (part ti cs off) ti.agg
theorem partQ_eq {ti : TI} {cs : List AV} {off : Nat} : partQ ti cs off = part ti cs off := by
  unfold partQ
  rw [getQ_eq]
  cases h : ti.agg
  · simp [part, h]
  · rfl
noncomputable def aloadQ (H : Heap) (ti : TI) (p : AV) : Option AV := match p with
  | .ptr id ver off => match getQ H id with
    | some (.row ver' cs _ _) => Bool.rec (motive := fun _ => Option AV) none (partQ ti cs off) (Nat.beq ver' ver)
    | _ => none
  | p => aload H ti p
theorem aloadQ_eq {H : Heap} {ti : TI} {p : AV} : aloadQ H ti p = aload H ti p := by
  cases p with
  | ptr id ver off =>
    simp only [aloadQ, aload, getQ_eq, partQ_eq]
    cases H[id]? with
    | none => rfl
    | some b =>
      cases b with
      | map es => rfl
      | row ver' cs fz ex =>
        dsimp only
        cases h : Nat.beq ver' ver with
        | true => rw [if_pos (Nat.eq_of_beq_eq_true h)]
        | false => rw [if_neg (Nat.ne_of_beq_eq_false h)]
  | _ => rfl
abbrev OpR := Option (AV × Heap × List Nat)
def pr1 (H : Heap) (v : Option AV) : OpR := match v with
  | some v => some (v, H, [])
  | none => none
noncomputable def q_mv (x : Opd) (fr : Frame) (H : Heap) : OpR := pr1 H (evQ fr x)
noncomputable def q_pick (c : Opd) (a : Opd) (b : Opd) (fr : Frame) (H : Heap) : OpR := match evQ fr c with
    | some (.bool true) => pr1 H (evQ fr a)
    | some (.bool false) => pr1 H (evQ fr b)
    | _ => none
noncomputable def q_alloc (z : AV) (fr : Frame) (H : Heap) : OpR := if z.isTup then none else some (.ptr H.length 0 0, H ++ [.row 0 z.cells 0 true], [])
noncomputable def q_box (x : Opd) (fr : Frame) (H : Heap) : OpR := match evQ fr x with
    | some v => if v.isTup then none else some (.ptr H.length 0 0, H ++ [.row 0 v.cells 0 true], [])
    | none => none
noncomputable def q_build (zero : List AV) (parts : List (Nat × Nat × Opd)) (fr : Frame) (H : Heap) : OpR := match evsQ fr (parts.map (·.2.2)) with
    | some vs => if vs.any AV.isTup then none else pr1 H ((fillA zero ((parts.zip vs).map fun (p, v) => (p.1, p.2.1, v))).map .agg)
    | none => none
noncomputable def q_bslice (base bar : Nat) (sz : Nat) (cells : List AV) (parts : List (Nat × Opd)) (fr : Frame) (H : Heap) : OpR := match evsQ fr (parts.map (·.2)) with
    | some vs => if vs.any AV.isTup then none else match frzAll bar H vs with
      | some (vs', H') => match fillA cells ((parts.zip vs').map fun (p, v) => (p.1 * sz, sz, v)) with
        | some cs => if sz = 0 then none else some (.lst sz true (chunks sz (cs.length / sz) cs), H', if AV.noVec.noVecs vs then [] else List.range H.length)
        | none => none
      | none => none
    | none => none
noncomputable def q_load (ti : TI) (a : Opd) (fr : Frame) (H : Heap) : OpR := match evQ fr a with
    | some p => pr1 H (aloadQ H ti p)
    | none => none
noncomputable def q_store (base bar : Nat) (size : Nat) (a : Opd) (v : Opd) (fr : Frame) (H : Heap) : OpR := match evQ fr a, evQ fr v with
    | some p, some v => if v.isTup then none else match astore base bar H size p v with
      | some (H', id) => some (.tup [], H', [id])
      | none => none
    | _, _ => none
noncomputable def q_nilck (x : Opd) (fr : Frame) (H : Heap) : OpR := match evQ fr x with
    | some (.ptr id ver off) => some (.ptr id ver off, H, [])
    | some (.fp v) => some (.fp v, H, [])
    | some (.fn f a b) => some (.fn f a b, H, [])
    | _ => none
noncomputable def q_bin (op : BinOp) (x : Opd) (y : Opd) (fr : Frame) (H : Heap) : OpR := match evQ fr x, evQ fr y with
    | some a, some b => pr1 H (abin op a b)
    | _, _ => none
noncomputable def q_eq (neg : Bool) (k : EK) (x : Opd) (y : Opd) (fr : Frame) (H : Heap) : OpR := match evQ fr x, evQ fr y with
    | some a, some b => pr1 H ((aeq k a b).map fun r => .bool (if neg then !r else r))
    | _, _ => none
noncomputable def q_un (op : UnOp) (x : Opd) (fr : Frame) (H : Heap) : OpR := match evQ fr x with
    | some a => pr1 H (aun op a)
    | none => none
noncomputable def q_conv (k : IntKind) (x : Opd) (fr : Frame) (H : Heap) : OpR := match evQ fr x with
    | some (.int _ n) => some (.int k (k.wrap n), H, [])
    | _ => none
noncomputable def q_mkfn (f : FuncId) (a : List Opd) (b : List Opd) (fr : Frame) (H : Heap) : OpR := match evsQ fr a, evsQ fr b with
    | some a, some b => some (.fn f a b, H, [])
    | _, _ => none
noncomputable def q_mkslice (zero : List AV) (bytes : Nat) (l : Opd) (c : Opd) (fr : Frame) (H : Heap) : OpR := match evQ fr l, evQ fr c with
    | some l, some c => match l.asNat, c.asNat with
      | some l, some c => if l ≤ c ∧ c * bytes ≤ 140737488355328 ∧ zero.length ≠ 0 then
          some (.vec H.length 0 0 l zero.length, H ++ [.row 0 (List.flatten (List.replicate c zero)) 0 true], []) else none
      | _, _ => none
    | _, _ => none
noncomputable def q_slice (k : SK) (x : Opd) (lo : Option Opd) (hi : Option Opd) (mx : Option Opd) (fr : Frame) (H : Heap) : OpR := match evQ fr x, Opd.evo fr lo, Opd.evo fr hi, Opd.evo fr mx with
    | some x, some lo, some hi, some mx => pr1 H (aslice H k x lo hi mx)
    | _, _, _, _ => none
noncomputable def q_foff (off : Nat) (ti : TI) (x : Opd) (fr : Frame) (H : Heap) : OpR := match evQ fr x with
    | some (.ptr id ver o) => some (.ptr id ver (o + off), H, [])
    | some (.fp (.agg cs)) => pr1 H ((part ti cs off).map .fp)
    | _ => none
noncomputable def q_fld (off : Nat) (ti : TI) (x : Opd) (fr : Frame) (H : Heap) : OpR := match evQ fr x with
    | some (.agg cs) => pr1 H (part ti cs off)
    | _ => none
noncomputable def q_ixaS (sz : Nat) (x : Opd) (i : Opd) (fr : Frame) (H : Heap) : OpR := match evQ fr x, evQ fr i with
    | some x, some i => match i.asNat with
      | some i => match x with
        | .lst sz' _ xs => if sz' = sz then pr1 H ((getQ xs i).map .fp) else none
        | .vec id ver off len sz' => if sz' = sz ∧ i < len then some (.ptr id ver (off + i * sz), H, []) else none
        | _ => none
      | none => none
    | _, _ => none
noncomputable def q_ixaA (n : Nat) (ti : TI) (x : Opd) (i : Opd) (fr : Frame) (H : Heap) : OpR := match evQ fr x, evQ fr i with
    | some x, some i => match i.asNat with
      | some i => if i < n then match x with
          | .ptr id ver o => some (.ptr id ver (o + i * ti.size), H, [])
          | .fp (.agg cs) => pr1 H ((part ti cs (i * ti.size)).map .fp)
          | _ => none
        else none
      | none => none
    | _, _ => none
noncomputable def q_ix (n : Nat) (ti : TI) (x : Opd) (i : Opd) (fr : Frame) (H : Heap) : OpR := match evQ fr x, evQ fr i with
    | some (.agg cs), some i => match i.asNat with
      | some i => if i < n then pr1 H (part ti cs (i * ti.size)) else none
      | none => none
    | _, _ => none
noncomputable def q_ixStr (x : Opd) (i : Opd) (fr : Frame) (H : Heap) : OpR := match evQ fr x, evQ fr i with
    | some (.str s), some i => match i.asNat with
      | some i => match s[i]? with
        | some b => some (.int .u8 b.toNat, H, [])
        | none => none
      | none => none
    | _, _ => none
noncomputable def q_extract (x : Opd) (i : Nat) (fr : Frame) (H : Heap) : OpR := match evQ fr x with
    | some (.tup vs) => pr1 H (getQ vs i)
    | _ => none
noncomputable def q_append (base bar : Nat) (sz : Nat) (bytes : Nat) (x : Opd) (y : Opd) (fr : Frame) (H : Heap) : OpR := match evQ fr x, evQ fr y with
    | some x, some y => match asrc H sz y with
      | some news => match frzAll bar H news with
        | some (news', H') => if sz = 0 ∨ ¬ sz ∣ news.length then none else match aappend base bar H' sz bytes x news' with
          | some (v, H'', tc) => some (v, H'', if AV.noVec.noVecs news then tc else List.range H.length)
          | none => none
        | none => none
      | none => none
    | _, _ => none
noncomputable def q_len (x : Opd) (fr : Frame) (H : Heap) : OpR := match evQ fr x with
    | some .nils => some (.int .i64 0, H, [])
    | some (.lst _ _ xs) => some (.int .i64 xs.length, H, [])
    | some (.vec _ _ _ n _) => some (.int .i64 n, H, [])
    | _ => none
noncomputable def q_lenStr (x : Opd) (fr : Frame) (H : Heap) : OpR := match evQ fr x with
    | some (.str s) => some (.int .i64 s.size, H, [])
    | _ => none
noncomputable def q_mxmn (mx : Bool) (xs : List Opd) (fr : Frame) (H : Heap) : OpR := match evsQ fr xs with
    | some (.int k a :: r) => pr1 H (r.foldlM (fun acc v => match acc, v with
        | .int k x, .int k' y => if k = k' then some (.int k (if mx then (if y > x then y else x) else (if y < x then y else x))) else none
        | _, _ => none) (.int k a))
    | some (.str a :: r) => pr1 H (r.foldlM (mxStr mx) (.str a))
    | _ => none
noncomputable def q_clr (base bar : Nat) (z : List AV) (x : Opd) (fr : Frame) (H : Heap) : OpR := match evQ fr x with
    | some .nils => some (.tup [], H, [])
    | some (.vec id ver off len sz) => if len = 0 then some (.tup [], H, []) else match getQ H id with
      | some (.row ver' cs fz ex) =>
        if ver' = ver ∧ sz = z.length ∧ fz ≤ off ∧ off + len * sz ≤ cs.length ∧ bar ≤ id ∧ AV.top.tops z = 0
        then some (.tup [], H.set id (.row ver' (setCells cs off (List.flatten (List.replicate len z))) fz ex), [id]) else none
      | _ => none
    | _ => none
noncomputable def q_mkmap (fr : Frame) (H : Heap) : OpR := some (.mp H.length, H ++ [.map []], [])
noncomputable def q_mlook (z : AV) (ok : Bool) (m : Opd) (k : Opd) (fr : Frame) (H : Heap) : OpR := match evQ fr m, evQ fr k with
    | some .nilm, some (.int _ _) => some (mres ok z false, H, [])
    | some (.mp id), some (.int k n) => match getQ H id with
      | some (.map es) => match mfind k n es 0 with
        | some (some (_, v)) => some (mres ok v true, H, [])
        | some none => some (mres ok z false, H, [])
        | none => none
      | _ => none
    | _, _ => none
noncomputable def q_mupd (base bar : Nat) (m : Opd) (k : Opd) (v : Opd) (fr : Frame) (H : Heap) : OpR := match evQ fr m, evQ fr k, evQ fr v with
    | some (.mp id), some (.int k n), some v => if ¬ (v.top = 0 ∧ v.isTup = false ∧ bar ≤ id) then none else match getQ H id with
      | some (.map es) => match mfind k n es 0 with
        | some (some (i, _)) => some (.tup [], H.set id (.map (es.set i (.int k n, v))), [id])
        | some none => some (.tup [], H.set id (.map (es ++ [(.int k n, v)])), [id])
        | none => none
      | _ => none
    | _, _, _ => none
noncomputable def q_mlen (x : Opd) (fr : Frame) (H : Heap) : OpR := match evQ fr x with
    | some .nilm => some (.int .i64 0, H, [])
    | some (.mp id) => match getQ H id with
      | some (.map es) => some (.int .i64 es.length, H, [])
      | _ => none
    | _ => none
noncomputable def q_mlookA (ks : List Bool) (z : AV) (ok : Bool) (m : Opd) (k : Opd) (fr : Frame) (H : Heap) : OpR := match evQ fr m, evQ fr k with
    | some .nilm, some (.agg cs) => match eqCells ks cs cs with
      | some true => some (mres ok z false, H, [])
      | _ => none
    | some (.mp id), some (.agg cs) => match eqCells ks cs cs with
      | some true => match getQ H id with
        | some (.map es) => match mfindA ks cs es 0 with
          | some (some (_, v)) => some (mres ok v true, H, [])
          | some none => some (mres ok z false, H, [])
          | none => none
        | _ => none
      | _ => none
    | _, _ => none
noncomputable def q_mupdA (base bar : Nat) (ks : List Bool) (m : Opd) (k : Opd) (v : Opd) (fr : Frame) (H : Heap) : OpR := match evQ fr m, evQ fr k, evQ fr v with
    | some (.mp id), some (.agg cs), some v => if ¬ (v.top = 0 ∧ v.isTup = false ∧ bar ≤ id) then none else match eqCells ks cs cs with
      | some true => match getQ H id with
        | some (.map es) => match mfindA ks cs es 0 with
          | some (some (i, _)) => some (.tup [], H.set id (.map (es.set i (.agg cs, v))), [id])
          | some none => some (.tup [], H.set id (.map (es ++ [(.agg cs, v)])), [id])
          | none => none
        | _ => none
      | _ => none
    | _, _, _ => none
noncomputable def q_mkifc (base bar : Nat) (t : TypeId) (x : Opd) (fr : Frame) (H : Heap) : OpR := match evQ fr x with
    | some v => if v.isTup then none else match frzAll bar H [v] with
      | some ([v'], H') => some (.ifc t v', H', if v.noVec then [] else List.range H.length)
      | _ => none
    | none => none
noncomputable def q_s2a (n : Nat) (x : Opd) (fr : Frame) (H : Heap) : OpR := match evQ fr x with
    | some (.lst _ _ xs) => if n ≤ xs.length ∧ n ≠ 0 then some (.fp (.agg ((xs.take n).flatMap AV.cells)), H, []) else none
    | some (.vec id ver off len _) => if n ≤ len ∧ n ≠ 0 then some (.ptr id ver off, H, []) else none
    | _ => none
noncomputable def q_tass (z : AV) (t : TypeId) (ok : Bool) (x : Opd) (fr : Frame) (H : Heap) : OpR := match evQ fr x with
    | some (.ifc t' v) => if t' = t then some (mres ok v true, H, []) else if ok then some (mres true z false, H, []) else none
    | some .nili => if ok then some (mres true z false, H, []) else none
    | _ => none
def q_bad (_ : Frame) (_ : Heap) : OpR := none
noncomputable def q_callF (env : Env) (ex : Ex) (pure : Bool) (base bar : Nat) (f : FuncId) (args : List Opd) (fr : Frame) (H : Heap) : OpR := match evsQ fr args with
    | some vs => match callWith env ex pure base bar f vs H with
      | some (v, H') => some (v, H', touchQ env pure f H vs)
      | none => none
    | none => none
noncomputable def q_callV (env : Env) (ex : Ex) (pure : Bool) (base bar : Nat) (x : Opd) (args : List Opd) (fr : Frame) (H : Heap) : OpR := match evQ fr x, evsQ fr args with
    | some (.fn f first caps), some vs => match callWith env ex pure base bar f (first ++ vs ++ caps) H with
      | some (v, H') => some (v, H', touchQ env pure f H (first ++ vs ++ caps))
      | none => none
    | _, _ => none
noncomputable def q_callI (env : Env) (ex : Ex) (pure : Bool) (base bar : Nat) (tbl : List (TypeId × FuncId)) (x : Opd) (args : List Opd) (fr : Frame) (H : Heap) : OpR := match evQ fr x, evsQ fr args with
    | some (.ifc t u), some vs => match tlook tbl t with
      | some f => match callWith env ex pure base bar f (u :: vs) H with
        | some (v, H') => some (v, H', touchQ env pure f H (u :: vs))
        | none => none
      | none => none
    | _, _ => none
noncomputable def aopQ (env : Env) (ex : Ex) (pure : Bool) (base bar : Nat) (op : AOp) : Frame → Heap → OpR :=
  AOp.rec (motive := fun _ => Frame → Heap → OpR) q_mv q_pick q_alloc q_box q_build (q_bslice base bar) q_load (q_store base bar) q_nilck q_bin q_eq q_un q_conv q_mkfn q_mkslice q_slice q_foff q_fld q_ixaS q_ixaA q_ix q_ixStr q_extract (q_callF env ex pure base bar) (q_callV env ex pure base bar) (q_callI env ex pure base bar) (q_append base bar) q_len q_lenStr q_mxmn (q_clr base bar) q_mkmap q_mlook (q_mupd base bar) q_mlen q_mlookA (q_mupdA base bar) (q_mkifc base bar) q_s2a q_tass q_bad op
theorem q_mv_eq (env : Env) (ex : Ex) (pure : Bool) (base bar : Nat) {x_ : Opd} (fr : Frame) (H : Heap) : q_mv x_ fr H = aopC env ex pure base bar (.mv x_) fr H := by
  simp only [q_mv, evQ_eq, evsQ_eq, getQ_eq, aloadQ_eq]; rfl
theorem q_pick_eq (env : Env) (ex : Ex) (pure : Bool) (base bar : Nat) {c_ : Opd} {a_ : Opd} {b_ : Opd} (fr : Frame) (H : Heap) : q_pick c_ a_ b_ fr H = aopC env ex pure base bar (.pick c_ a_ b_) fr H := by
  simp only [q_pick, evQ_eq, evsQ_eq, getQ_eq, aloadQ_eq]; rfl
theorem q_alloc_eq (env : Env) (ex : Ex) (pure : Bool) (base bar : Nat) {zero_ : AV} (fr : Frame) (H : Heap) : q_alloc zero_ fr H = aopC env ex pure base bar (.alloc zero_) fr H := by
  simp only [q_alloc, evQ_eq, evsQ_eq, getQ_eq, aloadQ_eq]; rfl
theorem q_box_eq (env : Env) (ex : Ex) (pure : Bool) (base bar : Nat) {x_ : Opd} (fr : Frame) (H : Heap) : q_box x_ fr H = aopC env ex pure base bar (.box x_) fr H := by
  simp only [q_box, evQ_eq, evsQ_eq, getQ_eq, aloadQ_eq]; rfl
theorem q_build_eq (env : Env) (ex : Ex) (pure : Bool) (base bar : Nat) {zero_ : List AV} {parts_ : List (Nat × Nat × Opd)} (fr : Frame) (H : Heap) : q_build zero_ parts_ fr H = aopC env ex pure base bar (.build zero_ parts_) fr H := by
  simp only [q_build, evQ_eq, evsQ_eq, getQ_eq, aloadQ_eq]; rfl
theorem q_bslice_eq (env : Env) (ex : Ex) (pure : Bool) (base bar : Nat) {sz_ : Nat} {cells_ : List AV} {parts_ : List (Nat × Opd)} (fr : Frame) (H : Heap) : q_bslice base bar sz_ cells_ parts_ fr H = aopC env ex pure base bar (.bslice sz_ cells_ parts_) fr H := by
  simp only [q_bslice, evQ_eq, evsQ_eq, getQ_eq, aloadQ_eq]; rfl
theorem q_load_eq (env : Env) (ex : Ex) (pure : Bool) (base bar : Nat) {ti_ : TI} {a_ : Opd} (fr : Frame) (H : Heap) : q_load ti_ a_ fr H = aopC env ex pure base bar (.load ti_ a_) fr H := by
  simp only [q_load, evQ_eq, evsQ_eq, getQ_eq, aloadQ_eq]; rfl
theorem q_store_eq (env : Env) (ex : Ex) (pure : Bool) (base bar : Nat) {size_ : Nat} {a_ : Opd} {v_ : Opd} (fr : Frame) (H : Heap) : q_store base bar size_ a_ v_ fr H = aopC env ex pure base bar (.store size_ a_ v_) fr H := by
  simp only [q_store, evQ_eq, evsQ_eq, getQ_eq, aloadQ_eq]; rfl
theorem q_nilck_eq (env : Env) (ex : Ex) (pure : Bool) (base bar : Nat) {x_ : Opd} (fr : Frame) (H : Heap) : q_nilck x_ fr H = aopC env ex pure base bar (.nilck x_) fr H := by
  simp only [q_nilck, evQ_eq, evsQ_eq, getQ_eq, aloadQ_eq]; rfl
theorem q_bin_eq (env : Env) (ex : Ex) (pure : Bool) (base bar : Nat) {op_ : BinOp} {x_ : Opd} {y_ : Opd} (fr : Frame) (H : Heap) : q_bin op_ x_ y_ fr H = aopC env ex pure base bar (.bin op_ x_ y_) fr H := by
  simp only [q_bin, evQ_eq, evsQ_eq, getQ_eq, aloadQ_eq]; rfl
theorem q_eq_eq (env : Env) (ex : Ex) (pure : Bool) (base bar : Nat) {neg_ : Bool} {k_ : EK} {x_ : Opd} {y_ : Opd} (fr : Frame) (H : Heap) : q_eq neg_ k_ x_ y_ fr H = aopC env ex pure base bar (.eq neg_ k_ x_ y_) fr H := by
  simp only [q_eq, evQ_eq, evsQ_eq, getQ_eq, aloadQ_eq]; rfl
theorem q_un_eq (env : Env) (ex : Ex) (pure : Bool) (base bar : Nat) {op_ : UnOp} {x_ : Opd} (fr : Frame) (H : Heap) : q_un op_ x_ fr H = aopC env ex pure base bar (.un op_ x_) fr H := by
  simp only [q_un, evQ_eq, evsQ_eq, getQ_eq, aloadQ_eq]; rfl
theorem q_conv_eq (env : Env) (ex : Ex) (pure : Bool) (base bar : Nat) {k_ : IntKind} {x_ : Opd} (fr : Frame) (H : Heap) : q_conv k_ x_ fr H = aopC env ex pure base bar (.conv k_ x_) fr H := by
  simp only [q_conv, evQ_eq, evsQ_eq, getQ_eq, aloadQ_eq]; rfl
theorem q_mkfn_eq (env : Env) (ex : Ex) (pure : Bool) (base bar : Nat) {f_ : FuncId} {first_ : List Opd} {caps_ : List Opd} (fr : Frame) (H : Heap) : q_mkfn f_ first_ caps_ fr H = aopC env ex pure base bar (.mkfn f_ first_ caps_) fr H := by
  simp only [q_mkfn, evQ_eq, evsQ_eq, getQ_eq, aloadQ_eq]; rfl
theorem q_mkslice_eq (env : Env) (ex : Ex) (pure : Bool) (base bar : Nat) {zero_ : List AV} {bytes_ : Nat} {l_ : Opd} {c_ : Opd} (fr : Frame) (H : Heap) : q_mkslice zero_ bytes_ l_ c_ fr H = aopC env ex pure base bar (.mkslice zero_ bytes_ l_ c_) fr H := by
  simp only [q_mkslice, evQ_eq, evsQ_eq, getQ_eq, aloadQ_eq]; rfl
theorem q_slice_eq (env : Env) (ex : Ex) (pure : Bool) (base bar : Nat) {k_ : SK} {x_ : Opd} {lo_ : Option Opd} {hi_ : Option Opd} {mx_ : Option Opd} (fr : Frame) (H : Heap) : q_slice k_ x_ lo_ hi_ mx_ fr H = aopC env ex pure base bar (.slice k_ x_ lo_ hi_ mx_) fr H := by
  simp only [q_slice, evQ_eq, evsQ_eq, getQ_eq, aloadQ_eq]; rfl
theorem q_foff_eq (env : Env) (ex : Ex) (pure : Bool) (base bar : Nat) {off_ : Nat} {ti_ : TI} {x_ : Opd} (fr : Frame) (H : Heap) : q_foff off_ ti_ x_ fr H = aopC env ex pure base bar (.foff off_ ti_ x_) fr H := by
  simp only [q_foff, evQ_eq, evsQ_eq, getQ_eq, aloadQ_eq]; rfl
theorem q_fld_eq (env : Env) (ex : Ex) (pure : Bool) (base bar : Nat) {off_ : Nat} {ti_ : TI} {x_ : Opd} (fr : Frame) (H : Heap) : q_fld off_ ti_ x_ fr H = aopC env ex pure base bar (.fld off_ ti_ x_) fr H := by
  simp only [q_fld, evQ_eq, evsQ_eq, getQ_eq, aloadQ_eq]; rfl
theorem q_ixaS_eq (env : Env) (ex : Ex) (pure : Bool) (base bar : Nat) {sz_ : Nat} {x_ : Opd} {i_ : Opd} (fr : Frame) (H : Heap) : q_ixaS sz_ x_ i_ fr H = aopC env ex pure base bar (.ixaS sz_ x_ i_) fr H := by
  simp only [q_ixaS, evQ_eq, evsQ_eq, getQ_eq, aloadQ_eq]; rfl
theorem q_ixaA_eq (env : Env) (ex : Ex) (pure : Bool) (base bar : Nat) {len_ : Nat} {ti_ : TI} {x_ : Opd} {i_ : Opd} (fr : Frame) (H : Heap) : q_ixaA len_ ti_ x_ i_ fr H = aopC env ex pure base bar (.ixaA len_ ti_ x_ i_) fr H := by
  simp only [q_ixaA, evQ_eq, evsQ_eq, getQ_eq, aloadQ_eq]; rfl
theorem q_ix_eq (env : Env) (ex : Ex) (pure : Bool) (base bar : Nat) {len_ : Nat} {ti_ : TI} {x_ : Opd} {i_ : Opd} (fr : Frame) (H : Heap) : q_ix len_ ti_ x_ i_ fr H = aopC env ex pure base bar (.ix len_ ti_ x_ i_) fr H := by
  simp only [q_ix, evQ_eq, evsQ_eq, getQ_eq, aloadQ_eq]; rfl
theorem q_ixStr_eq (env : Env) (ex : Ex) (pure : Bool) (base bar : Nat) {x_ : Opd} {i_ : Opd} (fr : Frame) (H : Heap) : q_ixStr x_ i_ fr H = aopC env ex pure base bar (.ixStr x_ i_) fr H := by
  simp only [q_ixStr, evQ_eq, evsQ_eq, getQ_eq, aloadQ_eq]; rfl
theorem q_extract_eq (env : Env) (ex : Ex) (pure : Bool) (base bar : Nat) {x_ : Opd} {i_ : Nat} (fr : Frame) (H : Heap) : q_extract x_ i_ fr H = aopC env ex pure base bar (.extract x_ i_) fr H := by
  simp only [q_extract, evQ_eq, evsQ_eq, getQ_eq, aloadQ_eq]; rfl
theorem q_callF_eq (env : Env) (ex : Ex) (pure : Bool) (base bar : Nat) {f_ : FuncId} {args_ : List Opd} (fr : Frame) (H : Heap) : q_callF env ex pure base bar f_ args_ fr H = aopC env ex pure base bar (.callF f_ args_) fr H := by
  simp only [q_callF, evQ_eq, evsQ_eq, getQ_eq, aloadQ_eq]; rfl
theorem q_callV_eq (env : Env) (ex : Ex) (pure : Bool) (base bar : Nat) {x_ : Opd} {args_ : List Opd} (fr : Frame) (H : Heap) : q_callV env ex pure base bar x_ args_ fr H = aopC env ex pure base bar (.callV x_ args_) fr H := by
  simp only [q_callV, evQ_eq, evsQ_eq, getQ_eq, aloadQ_eq]; rfl
theorem q_callI_eq (env : Env) (ex : Ex) (pure : Bool) (base bar : Nat) {tbl_ : List (TypeId × FuncId)} {x_ : Opd} {args_ : List Opd} (fr : Frame) (H : Heap) : q_callI env ex pure base bar tbl_ x_ args_ fr H = aopC env ex pure base bar (.callI tbl_ x_ args_) fr H := by
  simp only [q_callI, evQ_eq, evsQ_eq, getQ_eq, aloadQ_eq]; rfl
theorem q_append_eq (env : Env) (ex : Ex) (pure : Bool) (base bar : Nat) {sz_ : Nat} {bytes_ : Nat} {x_ : Opd} {y_ : Opd} (fr : Frame) (H : Heap) : q_append base bar sz_ bytes_ x_ y_ fr H = aopC env ex pure base bar (.append sz_ bytes_ x_ y_) fr H := by
  simp only [q_append, evQ_eq, evsQ_eq, getQ_eq, aloadQ_eq]; rfl
theorem q_len_eq (env : Env) (ex : Ex) (pure : Bool) (base bar : Nat) {x_ : Opd} (fr : Frame) (H : Heap) : q_len x_ fr H = aopC env ex pure base bar (.len x_) fr H := by
  simp only [q_len, evQ_eq, evsQ_eq, getQ_eq, aloadQ_eq]; rfl
theorem q_lenStr_eq (env : Env) (ex : Ex) (pure : Bool) (base bar : Nat) {x_ : Opd} (fr : Frame) (H : Heap) : q_lenStr x_ fr H = aopC env ex pure base bar (.lenStr x_) fr H := by
  simp only [q_lenStr, evQ_eq, evsQ_eq, getQ_eq, aloadQ_eq]; rfl
theorem q_mxmn_eq (env : Env) (ex : Ex) (pure : Bool) (base bar : Nat) {mx_ : Bool} {xs_ : List Opd} (fr : Frame) (H : Heap) : q_mxmn mx_ xs_ fr H = aopC env ex pure base bar (.mxmn mx_ xs_) fr H := by
  simp only [q_mxmn, evQ_eq, evsQ_eq, getQ_eq, aloadQ_eq]; rfl
theorem q_clr_eq (env : Env) (ex : Ex) (pure : Bool) (base bar : Nat) {zero_ : List AV} {x_ : Opd} (fr : Frame) (H : Heap) : q_clr base bar zero_ x_ fr H = aopC env ex pure base bar (.clr zero_ x_) fr H := by
  simp only [q_clr, evQ_eq, evsQ_eq, getQ_eq, aloadQ_eq]; rfl
theorem q_mkmap_eq (env : Env) (ex : Ex) (pure : Bool) (base bar : Nat) (fr : Frame) (H : Heap) : q_mkmap  fr H = aopC env ex pure base bar (.mkmap ) fr H := by
  simp only [q_mkmap, evQ_eq, evsQ_eq, getQ_eq, aloadQ_eq]; rfl
theorem q_mlook_eq (env : Env) (ex : Ex) (pure : Bool) (base bar : Nat) {zero_ : AV} {ok_ : Bool} {m_ : Opd} {k_ : Opd} (fr : Frame) (H : Heap) : q_mlook zero_ ok_ m_ k_ fr H = aopC env ex pure base bar (.mlook zero_ ok_ m_ k_) fr H := by
  simp only [q_mlook, evQ_eq, evsQ_eq, getQ_eq, aloadQ_eq]; rfl
theorem q_mupd_eq (env : Env) (ex : Ex) (pure : Bool) (base bar : Nat) {m_ : Opd} {k_ : Opd} {v_ : Opd} (fr : Frame) (H : Heap) : q_mupd base bar m_ k_ v_ fr H = aopC env ex pure base bar (.mupd m_ k_ v_) fr H := by
  simp only [q_mupd, evQ_eq, evsQ_eq, getQ_eq, aloadQ_eq]; rfl
theorem q_mlen_eq (env : Env) (ex : Ex) (pure : Bool) (base bar : Nat) {x_ : Opd} (fr : Frame) (H : Heap) : q_mlen x_ fr H = aopC env ex pure base bar (.mlen x_) fr H := by
  simp only [q_mlen, evQ_eq, evsQ_eq, getQ_eq, aloadQ_eq]; rfl
theorem q_mlookA_eq (env : Env) (ex : Ex) (pure : Bool) (base bar : Nat) {ks_ : List Bool} {zero_ : AV} {ok_ : Bool} {m_ : Opd} {k_ : Opd} (fr : Frame) (H : Heap) : q_mlookA ks_ zero_ ok_ m_ k_ fr H = aopC env ex pure base bar (.mlookA ks_ zero_ ok_ m_ k_) fr H := by
  simp only [q_mlookA, evQ_eq, evsQ_eq, getQ_eq, aloadQ_eq]; rfl
theorem q_mupdA_eq (env : Env) (ex : Ex) (pure : Bool) (base bar : Nat) {ks_ : List Bool} {m_ : Opd} {k_ : Opd} {v_ : Opd} (fr : Frame) (H : Heap) : q_mupdA base bar ks_ m_ k_ v_ fr H = aopC env ex pure base bar (.mupdA ks_ m_ k_ v_) fr H := by
  simp only [q_mupdA, evQ_eq, evsQ_eq, getQ_eq, aloadQ_eq]; rfl
theorem q_mkifc_eq (env : Env) (ex : Ex) (pure : Bool) (base bar : Nat) {t_ : TypeId} {x_ : Opd} (fr : Frame) (H : Heap) : q_mkifc base bar t_ x_ fr H = aopC env ex pure base bar (.mkifc t_ x_) fr H := by
  simp only [q_mkifc, evQ_eq, evsQ_eq, getQ_eq, aloadQ_eq]; rfl
theorem q_s2a_eq (env : Env) (ex : Ex) (pure : Bool) (base bar : Nat) {n_ : Nat} {x_ : Opd} (fr : Frame) (H : Heap) : q_s2a n_ x_ fr H = aopC env ex pure base bar (.s2a n_ x_) fr H := by
  simp only [q_s2a, evQ_eq, evsQ_eq, getQ_eq, aloadQ_eq]; rfl
theorem q_tass_eq (env : Env) (ex : Ex) (pure : Bool) (base bar : Nat) {zero_ : AV} {t_ : TypeId} {ok_ : Bool} {x_ : Opd} (fr : Frame) (H : Heap) : q_tass zero_ t_ ok_ x_ fr H = aopC env ex pure base bar (.tass zero_ t_ ok_ x_) fr H := by
  simp only [q_tass, evQ_eq, evsQ_eq, getQ_eq, aloadQ_eq]; rfl
theorem aopQ_eq (env : Env) (ex : Ex) (pure : Bool) (base bar : Nat) (op : AOp) (fr : Frame) (H : Heap) : aopQ env ex pure base bar op fr H = aopC env ex pure base bar op fr H := by
  cases op with
  | mv x => exact q_mv_eq env ex pure base bar fr H
  | pick c a b => exact q_pick_eq env ex pure base bar fr H
  | alloc zero => exact q_alloc_eq env ex pure base bar fr H
  | box x => exact q_box_eq env ex pure base bar fr H
  | build zero parts => exact q_build_eq env ex pure base bar fr H
  | bslice sz cells parts => exact q_bslice_eq env ex pure base bar fr H
  | load ti a => exact q_load_eq env ex pure base bar fr H
  | store size a v => exact q_store_eq env ex pure base bar fr H
  | nilck x => exact q_nilck_eq env ex pure base bar fr H
  | bin op x y => exact q_bin_eq env ex pure base bar fr H
  | eq neg k x y => exact q_eq_eq env ex pure base bar fr H
  | un op x => exact q_un_eq env ex pure base bar fr H
  | conv k x => exact q_conv_eq env ex pure base bar fr H
  | mkfn f first caps => exact q_mkfn_eq env ex pure base bar fr H
  | mkslice zero bytes l c => exact q_mkslice_eq env ex pure base bar fr H
  | slice k x lo hi mx => exact q_slice_eq env ex pure base bar fr H
  | foff off ti x => exact q_foff_eq env ex pure base bar fr H
  | fld off ti x => exact q_fld_eq env ex pure base bar fr H
  | ixaS sz x i => exact q_ixaS_eq env ex pure base bar fr H
  | ixaA len ti x i => exact q_ixaA_eq env ex pure base bar fr H
  | ix len ti x i => exact q_ix_eq env ex pure base bar fr H
  | ixStr x i => exact q_ixStr_eq env ex pure base bar fr H
  | extract x i => exact q_extract_eq env ex pure base bar fr H
  | callF f args => exact q_callF_eq env ex pure base bar fr H
  | callV x args => exact q_callV_eq env ex pure base bar fr H
  | callI tbl x args => exact q_callI_eq env ex pure base bar fr H
  | append sz bytes x y => exact q_append_eq env ex pure base bar fr H
  | len x => exact q_len_eq env ex pure base bar fr H
  | lenStr x => exact q_lenStr_eq env ex pure base bar fr H
  | mxmn mx xs => exact q_mxmn_eq env ex pure base bar fr H
  | clr zero x => exact q_clr_eq env ex pure base bar fr H
  | mkmap  => exact q_mkmap_eq env ex pure base bar fr H
  | mlook zero ok m k => exact q_mlook_eq env ex pure base bar fr H
  | mupd m k v => exact q_mupd_eq env ex pure base bar fr H
  | mlen x => exact q_mlen_eq env ex pure base bar fr H
  | mlookA ks zero ok m k => exact q_mlookA_eq env ex pure base bar fr H
  | mupdA ks m k v => exact q_mupdA_eq env ex pure base bar fr H
  | mkifc t x => exact q_mkifc_eq env ex pure base bar fr H
  | s2a n x => exact q_s2a_eq env ex pure base bar fr H
  | tass zero t ok x => exact q_tass_eq env ex pure base bar fr H
  | bad => rfl
/-! one operation behind the other -/
noncomputable def stepO (env : Env) (ex : Ex) (base bar : Nat) (d : Option Nat) (k : St → Option St) : OpR → Frame → Option St
  | some (v, H, _), fr => k ⟨fputQ d v fr, H⟩
  | none, _ => none
noncomputable def stepQ (env : Env) (ex : Ex) (base bar : Nat) (o : AOper) (k : St → Option St) (st : St) : Option St := match wantQ o.guard st.fr with
    | some true => stepO env ex base bar o.dst k (aopQ env ex false base bar o.op st.fr st.H) st.fr
    | some false => k ⟨fputQ o.dst (.tup []) st.fr, st.H⟩
    | none => none
noncomputable def runOpsQ (env : Env) (ex : Ex) (base bar : Nat) (l : List AOper) : St → Option St :=
  List.rec (motive := fun _ => St → Option St) some (fun o _ ih => stepQ env ex base bar o ih) l
theorem runOpsQ_eq (env : Env) (ex : Ex) (base bar : Nat) : ∀ (l : List AOper) (st : St), runOpsQ env ex base bar l st = runOps env ex base bar l st
  | [], st => rfl
  | o :: r, st => by
    have ih : runOpsQ env ex base bar r = runOps env ex base bar r := funext (runOpsQ_eq env ex base bar r)
    show stepQ env ex base bar o (runOpsQ env ex base bar r) st = _
    rw [ih]
    unfold stepQ
    rw [runOps]
    simp only [aopQ_eq, wantQ_eq, fputQ_eq]
    cases wantA o.guard st.fr with
    | none => rfl
    | some b => cases b with
      | false => rfl
      | true =>
        cases h : aopC env ex false base bar o.op st.fr st.H with
        | none => simp only [stepO]
        | some p => obtain ⟨v, H, tc⟩ := p; simp only [stepO, fputQ_eq]
abbrev DrR := Frame → List Heap → List (List Nat) → List (Nat × Nat × Nat) → Option St
def drawEnd : DrR := fun fr hs tcs pend => if pend.all (fun p => clearOf p.1 ((tcs.take p.2.2).drop p.2.1)) = true then
      match hs.getLast? with
      | some H => some ⟨fr, H⟩
      | none => none
    else none
noncomputable def drawSkip (o : AOper) (k : DrR) : DrR := fun fr hs tcs pend => match hs.getLast? with
      | some H => if o.eff then k (fputQ o.dst (.tup []) fr) (hs ++ [H]) (tcs ++ [[]]) pend else k (fputQ o.dst (.tup []) fr) hs tcs pend
      | none => none
noncomputable def drawEff (env : Env) (ex : Ex) (base bar : Nat) (o : AOper) (k : DrR) : DrR := fun fr hs tcs pend => match hs.getLast? with
        | some H => match aopQ env ex o.pure base bar o.op (fkeepQ o.looks fr) H with
          | some (v, H', tc) => k (fputQ o.dst v fr) (hs ++ [H']) (tcs ++ [tc]) pend
          | none => none
        | none => none
noncomputable def drawRead (env : Env) (o : AOper) (k : DrR) (v : AV) : DrR := fun fr hs tcs pend => if o.lo = o.hi then k (fputQ o.dst v fr) hs tcs pend
              else match readOf o.op (fkeepQ o.looks fr) with
                | some none => k (fputQ o.dst v fr) hs tcs pend
                | some (some id) => k (fputQ o.dst v fr) hs tcs ((id, o.lo, o.hi) :: pend)
                | none => none
noncomputable def drawPure (env : Env) (ex : Ex) (base bar : Nat) (o : AOper) (k : DrR) : DrR := fun fr hs tcs pend => match hs[o.lo]? with
        | some H => match aopQ env ex true base bar o.op (fkeepQ o.looks fr) H with
          | some (v, H', tc) => if tc.isEmpty ∧ H'.length = H.length then drawRead env o k v fr hs tcs pend
            else none
          | none => none
        | none => none
noncomputable def drawStep (env : Env) (ex : Ex) (base bar : Nat) (o : AOper) (k : DrR) : DrR := fun fr hs tcs pend => match wantQ o.guard (fkeepQ o.looks fr) with
    | none => none
    | some false => drawSkip o k fr hs tcs pend
    | some true => if o.eff then drawEff env ex base bar o k fr hs tcs pend else drawPure env ex base bar o k fr hs tcs pend
noncomputable def runDrawQ (env : Env) (ex : Ex) (base bar : Nat) (l : List AOper) : DrR :=
  List.rec (motive := fun _ => DrR) drawEnd (fun o _ ih => drawStep env ex base bar o ih) l
theorem runDrawQ_eq (env : Env) (ex : Ex) (base bar : Nat) : ∀ (l : List AOper) (fr : Frame) (hs : List Heap) (tcs : List (List Nat)) (pend : List (Nat × Nat × Nat)), runDrawQ env ex base bar l fr hs tcs pend = runDraw env ex base bar l fr hs tcs pend
  | [], fr, hs, tcs, pend => rfl
  | o :: r, fr, hs, tcs, pend => by
    have ih : runDrawQ env ex base bar r = runDraw env ex base bar r := by funext a b c d; exact runDrawQ_eq env ex base bar r a b c d
    show drawStep env ex base bar o (runDrawQ env ex base bar r) fr hs tcs pend = _
    rw [ih, runDraw]
    unfold drawStep drawSkip drawEff drawPure drawRead
    simp only [aopQ_eq, wantQ_eq, fputQ_eq, fkeepQ_eq]
    rfl
abbrev XR := Nat → Nat → St → Option (AExit × St)
noncomputable def xNorm (keep : List Nat) : Option St → Option (AExit × St)
  | some st => some (.normal, ⟨fkeepQ keep st.fr, st.H⟩)
  | none => none
def xSkip : XR := fun _ _ st => some (.normal, st)
noncomputable def xReg (env : Env) (ex : Ex) (ops : List AOper) (keep : List Nat) : XR := fun base bar st => xNorm keep (runOpsQ env ex base bar ops st)
noncomputable def xDreg (env : Env) (ex : Ex) (ops : List AOper) (keep : List Nat) : XR := fun base bar st => xNorm keep (runDrawQ env ex base bar ops st.fr [st.H] [] [])
noncomputable def xTwin (env : Env) (ex : Ex) (ops : List (Nat × AOper)) (keep : List Nat) : XR := fun base bar st => xNorm keep (runTwin env ex base bar st.H ops st.fr st.H)
def xSeq (_ _ : ACode) (iha ihb : XR) : XR := fun base bar st => match iha base bar st with
    | some (.normal, st) => ihb base bar st
    | r => r
def xCond (c : Opd) (_ _ : ACode) (iha ihb : XR) : XR := fun base bar st => match c.ev st.fr with
    | some (.bool true) => iha base bar st
    | some (.bool false) => ihb base bar st
    | _ => none
def xBlock (id : Nat) (_ : ACode) (ih : XR) : XR := fun base bar st => match ih base bar st with
    | some (.exit i, st) => if i = id then some (.normal, st) else some (.exit i, st)
    | r => r
def xLoop (ex : Ex) (c : ACode) (ih : XR) : XR := fun base bar st => match ih base bar st with
    | some (.normal, st) => ex base bar (.loop c) st
    | r => r
noncomputable def xFresh (keep : List Nat) (_ : ACode) (ih : XR) : XR := fun _ bar st => match ih st.H.length bar st with
    | some (.ret, st') => some (.ret, st')
    | some (e, st') =>
      let fr := fkeepQ keep st'.fr
      if ftop fr ≤ st.H.length then some (e, ⟨fr, st'.H.take st.H.length⟩) else none
    | none => none
def xFrz (ts : List Nat) (_ : ACode) (ih : XR) : XR := fun base bar st => match frzSlots bar ts st with
    | some st => ih base bar st
    | none => none
def xExit (id : Nat) : XR := fun _ _ st => some (.exit id, st)
def xScope (ex : Ex) (body _ : ACode) (_ ih : XR) : XR := fun base bar st => match ih base bar st with
    | some (.goto l, st) => match findL body l with
      | some rest => ex base bar (.scope body rest) st
      | none => some (.goto l, st)
    | r => r
def xLabel (_ : Nat) : XR := fun _ _ st => some (.normal, st)
def xGoto (l : Nat) : XR := fun _ _ st => some (.goto l, st)
def xRet : XR := fun _ _ st => some (.ret, st)
noncomputable def execCQ (env : Env) (ex : Ex) (c : ACode) : XR :=
  ACode.rec (motive := fun _ => XR) xSkip (xReg env ex) (xDreg env ex) (xTwin env ex) xSeq xCond xBlock (xLoop ex) xFresh xFrz xExit (xScope ex) xLabel xGoto xRet c
theorem execCQ_eq (env : Env) (ex : Ex) (c : ACode) : ∀ (base bar : Nat) (st : St), execCQ env ex c base bar st = execC env ex c base bar st := by
  induction c with
  | skip => intro base bar st; rfl
  | reg ops keep =>
    intro base bar st
    show xNorm keep (runOpsQ env ex base bar ops st) = _
    rw [runOpsQ_eq, execC]; unfold xNorm; simp only [fkeepQ_eq]; rfl
  | dreg ops keep =>
    intro base bar st
    show xNorm keep (runDrawQ env ex base bar ops st.fr [st.H] [] []) = _
    rw [runDrawQ_eq, execC]; unfold xNorm; simp only [fkeepQ_eq]; rfl
  | twin ops keep =>
    intro base bar st
    show xNorm keep (runTwin env ex base bar st.H ops st.fr st.H) = _
    rw [execC]; unfold xNorm; simp only [fkeepQ_eq]; rfl
  | seq a b iha ihb =>
    intro base bar st
    show xSeq a b (execCQ env ex a) (execCQ env ex b) base bar st = _
    unfold xSeq
    rw [iha, execC]
    cases execC env ex a base bar st with
    | none => rfl
    | some p => obtain ⟨e, s⟩ := p; cases e <;> first | rfl | exact ihb _ _ _
  | cond x a b iha ihb =>
    intro base bar st
    show xCond x a b (execCQ env ex a) (execCQ env ex b) base bar st = _
    unfold xCond
    rw [iha, ihb, execC]
    rfl
  | block id c ih =>
    intro base bar st
    show xBlock id c (execCQ env ex c) base bar st = _
    unfold xBlock
    rw [ih, execC]
    rfl
  | loop c ih =>
    intro base bar st
    show xLoop ex c (execCQ env ex c) base bar st = _
    unfold xLoop
    rw [ih, execC]
    rfl
  | fresh keep c ih =>
    intro base bar st
    show xFresh keep c (execCQ env ex c) base bar st = _
    unfold xFresh
    rw [ih, execC]
    simp only [fkeepQ_eq]
    rfl
  | frz ts c ih =>
    intro base bar st
    show xFrz ts c (execCQ env ex c) base bar st = _
    unfold xFrz
    rw [execC]
    cases frzSlots bar ts st with
    | none => rfl
    | some s => exact ih _ _ _
  | exit id => intro base bar st; rfl
  | scope body cur ihb ih =>
    intro base bar st
    show xScope ex body cur (execCQ env ex body) (execCQ env ex cur) base bar st = _
    unfold xScope
    rw [ih, execC]
    rfl
  | label l => intro base bar st; rfl
  | goto l => intro base bar st; rfl
  | ret => intro base bar st; rfl
def runQ0 : Ex := fun _ _ _ _ => none
noncomputable def runQS (env : Env) (ex : Ex) : Ex := fun base bar c st => execCQ env ex c base bar st
noncomputable def execQ (env : Env) (n : Nat) : Ex := Nat.rec (motive := fun _ => Ex) runQ0 (fun _ ih => runQS env ih) n
theorem execQ_eq (env : Env) : ∀ n : Nat, execQ env n = exec env n
  | 0 => rfl
  | n + 1 => by
    show runQS env (execQ env n) = _
    rw [execQ_eq env n]
    funext base bar c st
    exact execCQ_eq env _ c base bar st
noncomputable def acallQ (env : Env) (fuel : Nat) (f : FuncId) (args : List AV) (H : Heap) : Option (AV × Heap) := callWith env (execQ env fuel) false H.length 0 f args H
theorem acallQ_eq (env : Env) (fuel : Nat) (f : FuncId) (args : List AV) (H : Heap) : acallQ env fuel f args H = acall env fuel f args H := by
  unfold acallQ acall
  rw [execQ_eq]
end Go.Ab
