/-
  Part of the proved evaluator, or answers that it computed.
-/
import Derived.Test.YtihdlpeghlhnoaaGreatDoorAbStep
import Derived.MapKept
import Derived.WideKeyRuns
import Derived.Carry
set_option linter.all false
namespace Go.Ab
variable {P : Program}

theorem mxmn_fold {Γ : Ctx} (mx : Bool) : ∀ {r : List AV} {us : List Value} {x v : AV} {xu : Value}, VR Γ x xu → VRs Γ r us →
    r.foldlM (fun acc v => match acc, v with
        | .int k x, .int k' y => if k = k' then some (.int k (if mx then (if y > x then y else x) else (if y < x then y else x))) else none
        | _, _ => none) x = some v → ∀ w, ∃ v', (us.foldlM (if mx then Builtin.max2 else Builtin.min2) xu).run P w = .ok v' w ∧ VR Γ v v'
  | [], us, x, v, xu, hx, hr, h, w => by
    have := hr.of_nil; subst this
    simp at h; subst h
    exact ⟨xu, by simp, hx⟩
  | y :: r, us, x, v, xu, hx, hr, h, w => by
    obtain ⟨u, us', rfl, hy, hr'⟩ := hr.of_cons
    rw [List.foldlM_cons] at h
    cases hx <;> cases hy <;> simp only [Option.bind_eq_bind, Option.bind_none, reduceCtorEq] at h
    rename_i k m k' m'
    split at h
    · rename_i hk; subst hk
      simp only [Option.bind_some] at h
      have hs : ((if mx then Builtin.max2 else Builtin.min2) (.int k m) (.int k m')).run P w = .ok (.int k (if mx then (if m' > m then m' else m) else (if m' < m then m' else m))) w := by
        cases mx <;> simp [Builtin.max2, Builtin.min2]
      obtain ⟨v', h1, h2⟩ := mxmn_fold mx (.int k _) hr' h w
      refine ⟨v', ?_, h2⟩
      rw [List.foldlM_cons, Sem.run_bind, hs]
      exact h1
    · simp at h

theorem mxStr_fold {Γ : Ctx} (mx : Bool) : ∀ {r : List AV} {us : List Value} {x v : AV} {xu : Value}, VR Γ x xu → VRs Γ r us →
    r.foldlM (mxStr mx) x = some v → ∀ w, ∃ v', (us.foldlM (if mx then Builtin.max2 else Builtin.min2) xu).run P w = .ok v' w ∧ VR Γ v v'
  | [], us, x, v, xu, hx, hr, h, w => by
    have := hr.of_nil; subst this
    simp at h; subst h
    exact ⟨xu, by simp, hx⟩
  | y :: r, us, x, v, xu, hx, hr, h, w => by
    obtain ⟨u, us', rfl, hy, hr'⟩ := hr.of_cons
    rw [List.foldlM_cons] at h
    cases hx <;> cases hy <;> simp only [mxStr, Option.bind_eq_bind, Option.bind_none, reduceCtorEq] at h
    rename_i a b
    simp only [Option.bind_some] at h
    have hs : ((if mx then Builtin.max2 else Builtin.min2) (.string a) (.string b)).run P w = .ok (.string (if mx then (if Op.bytesLess a.toList b.toList then b else a) else (if Op.bytesLess a.toList b.toList || a.toList == b.toList then a else b))) w := by
      cases mx
      · simp [Builtin.min2, Op.stringOp, asBool]
      · cases hl : Op.bytesLess a.toList b.toList <;> simp [Builtin.max2, Op.stringOp, asBool, hl]
    obtain ⟨v', h1, h2⟩ := mxStr_fold mx (.str _) hr' h w
    refine ⟨v', ?_, h2⟩
    rw [List.foldlM_cons, Sem.run_bind, hs]
    exact h1

theorem VR.agg_inv {Γ : Ctx} {cs : List AV} {u : Value} (h : VR Γ (.agg cs) u) : ∃ vs : Array Value, u = .agg vs ∧ cs.length = vs.size ∧ (∀ c ∈ cs, c.one = true) ∧
    ∀ (i : Nat) (c : AV) (v : Value), cs[i]? = some c → vs[i]? = some v → VR Γ c v := by
  cases h with
  | agg _ vs hl h1 h => exact ⟨vs, rfl, hl, h1, h⟩

theorem one_arg {nt : Nat} {Γ : Ctx} {fr : Frame} {a : Act} (F : Fits nt Γ fr a) {args : Array Operand} {x : Opd} (hx : cOpds args.toList = some [x]) {v : AV} (hv : x.ev fr = some v) : ∃ u, args.map a.eval = #[u] ∧ VR Γ v u := by
  have h := opds_VR F hx (vs := [v]) (by simp [evs, hv])
  obtain ⟨u, r, e, h1, h2⟩ := h.of_cons
  have := h2.of_nil; subst this
  refine ⟨u, ?_, h1⟩
  apply Array.ext'
  simpa using e

/-! ## maps -/
theorem mfind_sound {Γ : Ctx} {kk k : IntKind} {n : Int} : ∀ (es : List (AV × AV)) (c : List MapEntry) (i : Nat) {r : Option (Nat × AV)}, es.length = c.length →
    (∀ (j : Nat) (p : AV × AV), es[j]? = some p → ∃ e, c[j]? = some e ∧ VR Γ p.1 e.key ∧ VR Γ p.2 e.val) → mfind k n es i = some r →
    (r = none ∧ Instr.findNow (.int kk) (.int k n) c i = some none) ∨
    ∃ j v u e, r = some (i + j, v) ∧ j < es.length ∧ Instr.findNow (.int kk) (.int k n) c i = some (some (i + j, u)) ∧ VR Γ v u ∧ c[j]? = some e ∧ e.key = .int k n
  | [], c, i, r, hl, _, h => by
    have : c = [] := List.eq_nil_of_length_eq_zero hl.symm
    subst this
    simp [mfind] at h; subst h
    exact .inl ⟨rfl, rfl⟩
  | (x, v) :: es, c, i, r, hl, hr, h => by
    cases c with
    | nil => simp at hl
    | cons e c =>
      obtain ⟨e', h1, h2, h3⟩ := hr 0 (x, v) rfl
      simp only [List.getElem?_cons_zero, Option.some.injEq] at h1
      subst h1
      cases x <;> simp only [mfind, reduceCtorEq] at h
      rename_i k' m
      split at h
      · rename_i hk; subst hk
        simp only at h2
        cases hkey : e.key <;> rw [hkey] at h2 <;> cases h2
        split at h
        · rename_i hn; subst hn
          simp only [Option.some.injEq] at h; subst h
          exact .inr ⟨0, v, e.val, e, rfl, by simp, by simp [Instr.findNow, hkey, Instr.sameNow], h3, rfl, hkey⟩
        · rename_i hn
          rcases mfind_sound (kk := kk) es c (i + 1) (by simpa using hl) (fun j p hj => by simpa using hr (j + 1) p (by simpa using hj)) h with ⟨g1, g2⟩ | ⟨j, v', u, e', g1, g2, g3, g4, g5, g6⟩
          · exact .inl ⟨g1, by
              simp only [Instr.findNow, hkey, Instr.sameNow, if_true]
              rw [show (n == m) = false by simpa using hn]
              exact g2⟩
          · refine .inr ⟨j + 1, v', u, e', by rw [g1]; congr 2; omega, by simp; omega, ?_, g4, by simpa using g5, g6⟩
            simp only [Instr.findNow, hkey, Instr.sameNow, if_true]
            rw [show (n == m) = false by simpa using hn]
            simp only [g3]
            congr 3; omega
      · cases h

theorem run_checkKey_int {kt : TypeId} {kk k : IntKind} {n : Int} (hd : P.underlying kt = some (.int kk)) (em : Bool) (w : World) : (Instr.checkKey em 10000 kt (.int k n)).run P w = .ok () w := by
  rw [show (10000 : Nat) = 9999 + 1 from rfl]
  unfold Instr.checkKey
  simp [run_underlying hd]

theorem mget_sound {Γ : Ctx} {H : Heap} (s : Sim Γ H) {id : Nat} {es : List (AV × AV)} (hid : H[id]? = some (.map es)) {t kt et : TypeId} {kk : IntKind} (ht : P.underlying t = some (.map kt et)) (hk : P.underlying kt = some (.int kk))
    {zi : TypeInfo} {zv : Value} (hzi : P.info? et = some zi) (hzv : zi.zero = some zv) {k : IntKind} {n : Int} {r : Option (Nat × AV)} (h : mfind k n es 0 = some r) {u : Value} (hu : VR Γ (.mp id) u) (ok : Bool) :
    (r = none ∧ (Instr.lookup t u (.int k n) ok).run P Γ.w = .ok (if ok then .tuple #[zv, .bool false] else zv) Γ.w) ∨
    ∃ i v x, r = some (i, v) ∧ VR Γ v x ∧ (Instr.lookup t u (.int k n) ok).run P Γ.w = .ok (if ok then .tuple #[x, .bool true] else x) Γ.w := by
  obtain ⟨e2, c, ck, e3, e4, e5, e8⟩ := s.blk id _ hid
  cases hu with
  | mp _ b hn hr =>
    have hr := hr e2; subst hr
    rcases mfind_sound (kk := kk) es c.toList 0 (by simp [e4]) (fun j p hj => by obtain ⟨_, e, g1, g2⟩ := e5 j p hj; exact ⟨e, by simpa using g1, g2⟩) h with ⟨rfl, g2⟩ | ⟨j, v, x, e, rfl, _, g3, g4, _, _⟩
    · refine .inl ⟨rfl, ?_⟩
      cases ok <;> simp [Instr.lookup, run_underlying ht, Go.MapKept.run_getObj_map e3, run_checkKey_int hk, Go.MapKept.run_findKey hk g2, zeroValue, typeInfo, hzi, hzv]
    · refine .inr ⟨_, v, x, rfl, g4, ?_⟩
      cases ok <;> simp [Instr.lookup, run_underlying ht, Go.MapKept.run_getObj_map e3, run_checkKey_int hk, Go.MapKept.run_findKey hk g3]

theorem mres_VR {Γ : Ctx} {ok b : Bool} {v : AV} {x : Value} (h : VR Γ v x) : VR Γ (mres ok v b) (if ok then .tuple #[x, .bool b] else x) := by
  unfold mres
  cases ok with
  | false => exact h
  | true =>
    refine .tup _ _ rfl fun i c u hc hu => ?_
    match i with
    | 0 => simp at hc hu; subst hc hu; exact h
    | 1 => simp at hc hu; subst hc hu; exact .bool _
    | i + 2 => simp at hc

theorem mset_sound {base bar : Nat} {Γ : Ctx} {H : Heap} (s : Sim Γ H) {id : Nat} {es : List (AV × AV)} (hid : H[id]? = some (.map es)) {t kt et : TypeId} {kk : IntKind} (ht : P.underlying t = some (.map kt et)) (hk : P.underlying kt = some (.int kk))
    {k : IntKind} {n : Int} {r : Option (Nat × AV)} (h : mfind k n es 0 = some r) {u x : Value} {v : AV} (hu : VR Γ (.mp id) u) (hv : VR Γ v x) (hv0 : v.top = 0) (hbar : bar ≤ id) :
    ∃ w', (Instr.mapUpdate t u (.int k n) x).run P Γ.w = .ok () w' ∧ Good base bar [id] Γ { Γ with w := w' } H (H.set id (.map (match r with | some (i, _) => es.set i (.int k n, v) | none => es ++ [(.int k n, v)]))) := by
  obtain ⟨e2, c, ck, e3, e4, e5, e8⟩ := s.blk id _ hid
  cases hu with
  | mp _ b hn hr =>
    have hr := hr e2; subst hr
    rcases mfind_sound (kk := kk) es c.toList 0 (by simp [e4]) (fun j p hj => by obtain ⟨_, e, g1, g2⟩ := e5 j p hj; exact ⟨e, by simpa using g1, g2⟩) h with ⟨rfl, g2⟩ | ⟨j, v', x', e, rfl, g5, g3, g4, g6, g7⟩
    · refine ⟨{ Γ.w with heap := Γ.w.heap.setIfInBounds (Γ.ρ id) (.map (c.push { key := .int k n, val := x, born := ck }) (ck + 1)) }, ?_, Good.setMap (c := c) (c' := c.push { key := .int k n, val := x, born := ck }) s hid e3 rfl rfl rfl rfl hbar (by simp [e4]) fun i p hp => ?_⟩
      · simp [Instr.mapUpdate, run_underlying ht, Go.MapKept.run_getObj_map e3, run_checkKey_int hk, Go.MapKept.run_findKey hk g2, Go.MapKept.run_setObj_map _ e3]
      · rw [List.getElem?_append] at hp
        split at hp
        · rename_i hi
          obtain ⟨a1, e, a2, a3, a4⟩ := e5 i p hp
          refine ⟨a1, e, ?_, a3, a4⟩
          rw [Array.getElem?_push_lt (by omega), ← a2, Array.getElem?_eq_getElem (by omega)]
        · rename_i hi
          have hi0 : i = es.length := by
            have := (List.getElem?_eq_some_iff.1 hp).1
            simp at this; omega
          subst hi0
          simp at hp; subst hp
          exact ⟨⟨rfl, hv0⟩, { key := .int k n, val := x, born := ck }, by rw [← e4]; simp, .int _ _, hv⟩
    · have hjc : j < c.size := by omega
      have hcj : c[j]? = some e := by simpa using g6
      refine ⟨{ Γ.w with heap := Γ.w.heap.setIfInBounds (Γ.ρ id) (.map (c.modify (0 + j) fun e => { e with key := .int k n, val := x }) ck) }, ?_, Good.setMap (c := c) (c' := c.modify (0 + j) fun e => { e with key := .int k n, val := x }) s hid e3 rfl rfl rfl rfl hbar (by simp [e4]) fun i p hp => ?_⟩
      · have hs : Instr.sameBits 10000 (.int k n) (.int k n) = true := by simp [Instr.sameBits]
        simp [Instr.mapUpdate, run_underlying ht, Go.MapKept.run_getObj_map e3, run_checkKey_int hk, Go.MapKept.run_findKey hk g3, Go.MapKept.run_setObj_map _ e3, hcj, g7, Instr.keyThatStays, hs]
      · simp only [Nat.zero_add] at hp ⊢
        by_cases hij : i = j
        · subst hij
          rw [List.getElem?_set_self g5] at hp
          simp only [Option.some.injEq] at hp; subst hp
          exact ⟨⟨rfl, hv0⟩, { e with key := .int k n, val := x }, by rw [Array.getElem?_modify]; simp [hcj], .int _ _, hv⟩
        · rw [List.getElem?_set_ne (Ne.symm hij)] at hp
          obtain ⟨a1, e', a2, a3, a4⟩ := e5 i p hp
          exact ⟨a1, e', by rw [Array.getElem?_modify, if_neg (Ne.symm hij)]; exact a2, a3, a4⟩

/-! ## maps whose keys are structs or arrays of cells -/
theorem eqCell_val {Γ : Ctx} {b : Bool} {x y : AV} {xu yu : Value} (hx : VR Γ x xu) (hy : VR Γ y yu) (h : eqCell b x y = some true) : xu = yu := by
  cases b <;> cases hx <;> cases hy <;> simp only [eqCell, reduceCtorEq] at h
  · split at h
    · rename_i hk; subst hk
      simp only [Option.some.injEq, beq_iff_eq] at h; rw [h]
    · cases h
  · simp only [Option.some.injEq, beq_iff_eq] at h; rw [h]

theorem eqCells_val {Γ : Ctx} : ∀ {ks : List Bool} {xs ys : List AV} {us vs : List Value}, VRs Γ xs us → VRs Γ ys vs → eqCells ks xs ys = some true → us = vs
  | [], xs, ys, us, vs, hx, hy, h => by
    cases xs <;> cases ys <;> simp [eqCells] at h
    rw [hx.of_nil, hy.of_nil]
  | b :: ks, xs, ys, us, vs, hx, hy, h => by
    cases xs with
    | nil => cases ys <;> simp [eqCells] at h
    | cons x xs => cases ys with
      | nil => simp [eqCells] at h
      | cons y ys =>
        obtain ⟨u, us', rfl, h1, h2⟩ := hx.of_cons
        obtain ⟨v, vs', rfl, h3, h4⟩ := hy.of_cons
        simp only [eqCells] at h
        split at h
        · rename_i hc
          rw [eqCell_val h1 h3 hc, eqCells_val h2 h4 h]
        · cases h
        · cases h

theorem eqCell_self {Γ : Ctx} {b : Bool} {x : AV} {u : Value} (hx : VR Γ x u) (h : eqCell b x x = some true) : x.top = 0 ∧ (∀ n, Instr.sameBits n u u = true) ∧ ∀ k, cellT P k = some b → ∀ em n w, (Instr.checkKey em (n + 1) k u).run P w = .ok () w := by
  cases b <;> cases hx <;> simp only [eqCell, reduceCtorEq] at h
  · refine ⟨rfl, fun n => by cases n <;> simp [Instr.sameBits], fun k hk em n w => ?_⟩
    obtain ⟨kk, hu⟩ := cellT_false hk
    simp [Instr.checkKey, run_underlying hu]
  · refine ⟨rfl, fun n => by cases n <;> simp [Instr.sameBits], fun k hk em n w => ?_⟩
    have hu := cellT_true hk
    simp [Instr.checkKey, run_underlying hu]

theorem eqCells_self {Γ : Ctx} : ∀ {ks : List Bool} {xs : List AV} {us : List Value}, VRs Γ xs us → eqCells ks xs xs = some true →
    AV.top.tops xs = 0 ∧ (∀ n, (us.zip us).all (fun (x, y) => Instr.sameBits n x y) = true) ∧ ks.length = xs.length ∧ ∀ (i : Nat) (b : Bool) (u : Value), ks[i]? = some b → us[i]? = some u → ∀ k, cellT P k = some b → ∀ em n w, (Instr.checkKey em (n + 1) k u).run P w = .ok () w
  | [], xs, us, hx, h => by
    cases xs <;> simp [eqCells] at h
    obtain rfl := hx.of_nil
    exact ⟨rfl, fun _ => rfl, rfl, fun i b u h => by simp at h⟩
  | b :: ks, xs, us, hx, h => by
    cases xs with
    | nil => simp [eqCells] at h
    | cons x xs =>
      obtain ⟨u, us', rfl, h1, h2⟩ := hx.of_cons
      simp only [eqCells] at h
      split at h
      · rename_i hc
        obtain ⟨a1, a2, a3⟩ := eqCell_self (P := P) h1 hc
        obtain ⟨b1, b2, b3, b4⟩ := eqCells_self h2 h
        refine ⟨by simp [AV.top.tops, a1, b1], fun n => by simp [a2 n]; simpa using b2 n, by simp [b3], fun i b' u' hi hu => ?_⟩
        cases i with
        | zero => simp at hi hu; subst hi hu; exact a3
        | succ i => exact b4 i b' u' (by simpa using hi) (by simpa using hu)
      · cases h
      · cases h

theorem VR.agg_list {Γ : Ctx} {xs : List AV} {u : Value} (h : VR Γ (.agg xs) u) : ∃ vs : Array Value, u = .agg vs ∧ VRs Γ xs vs.toList := by
  cases h with
  | agg _ vs hl h1 h => exact ⟨vs, rfl, by simpa using hl, fun i c v hc hv => h i c v hc (by simpa using hv)⟩

theorem fields_check {Γ : Ctx} {vs : Array Value} (em : Bool) (n : Nat) (w : World) : ∀ (fs : List Field) (k : Nat) (ks : List Bool), cellTs P k fs = some ks →
    (∀ (i : Nat) (b : Bool), ks[i]? = some b → ∃ u, vs[k + i]? = some u ∧ ∀ t, cellT P t = some b → (Instr.checkKey em (n + 1) t u).run P w = .ok () w) →
    (forIn fs PUnit.unit (fun (f : Field) _ => if f.name ≠ "_" then (do
      let c ← Go.part f.type vs f.offset
      Instr.checkKey em (n + 1) f.type c
      pure (ForInStep.yield PUnit.unit)) else pure (ForInStep.yield PUnit.unit) : Field → PUnit → Sem (ForInStep PUnit))).run P w = .ok PUnit.unit w
  | [], _, _, _, _ => by simp
  | f :: fs, k, ks, hk, hv => by
    simp only [cellTs] at hk
    split at hk
    · rename_i b l hb hl
      split at hk
      · rename_i hn
        obtain ⟨hn, ho⟩ := hn
        simp only [Option.some.injEq] at hk; subst hk
        obtain ⟨u, h1, h2⟩ := hv 0 b rfl
        simp only [Nat.add_zero] at h1
        have p1 := part_cell hb h1 w
        have p2 := h2 _ hb
        simp only [List.forIn_cons, Sem.run_bind, hn, ne_eq, not_false_eq_true, if_true, ho, Result.andThen_ok, p1, p2, Sem.run_pure]
        exact fields_check (Γ := Γ) em n w fs (k + 1) l hl fun i b' hi => by
          obtain ⟨u', h3, h4⟩ := hv (i + 1) b' (by simpa using hi)
          exact ⟨u', by rw [show k + 1 + i = k + (i + 1) from by omega]; exact h3, h4⟩
      · cases hk
    · cases hk

theorem run_checkKey_flat {Γ : Ctx} {kt : TypeId} {ks : List Bool} (hk : ekOf P kt = some (.flat ks)) {cs : List AV} {u : Value} (hu : VR Γ (.agg cs) u) (he : eqCells ks cs cs = some true) (em : Bool) (w : World) :
    (Instr.checkKey em 10000 kt u).run P w = .ok () w := by
  obtain ⟨vs, rfl, hvs⟩ := hu.agg_list
  obtain ⟨_, _, hlen, hcell⟩ := eqCells_self (P := P) hvs he
  have hget : ∀ (i : Nat) (b : Bool), ks[i]? = some b → ∃ v, vs[i]? = some v ∧ ∀ t, cellT P t = some b → ∀ em n w, (Instr.checkKey em (n + 1) t v).run P w = .ok () w := fun i b hi => by
    have hi' : i < vs.size := by
      have := (List.getElem?_eq_some_iff.1 hi).1
      have := hvs.1
      simp at this; omega
    have hv : vs[i]? = some vs[i] := Array.getElem?_eq_getElem hi'
    exact ⟨_, hv, hcell i b _ hi (by simpa using hv)⟩
  unfold ekOf at hk
  rw [show (10000 : Nat) = 9999 + 1 from rfl]
  split at hk <;> try (cases hk; done)
  · split at hk <;> cases hk
  · -- an array
    rename_i n e hue
    split at hk
    · rename_i b i hb hi
      split at hk
      · rename_i hc
        simp only [Option.some.injEq, EK.flat.injEq] at hk; subst hk
        rw [Instr.checkKey]
        simp only [Sem.run_bind, run_underlying hue, Result.andThen_ok]
        simp only [Std.Legacy.Range.forIn_eq_forIn_range', Std.Legacy.Range.size, Nat.sub_zero, Nat.add_one_sub_one, Nat.div_one]
        have each : ∀ j ∈ List.range' 0 n, ∃ v, vs[j]? = some v ∧ ∀ em n w, (Instr.checkKey em (n + 1) e v).run P w = .ok () w := fun j hj => by
          obtain ⟨v, h1, h2⟩ := hget j b (by rw [List.getElem?_replicate, if_pos (by simpa using hj)])
          exact ⟨v, h1, h2 e hb⟩
        generalize List.range' 0 n = is at each
        induction is with
        | nil => simp
        | cons j is ih =>
          obtain ⟨v, h1, h2⟩ := each j (by simp)
          have p1 := part_cell hb h1 w
          have p2 := h2 em 9998 w
          have hz : (Go.sizeOf e).run P w = .ok 1 w := by rw [run_sizeOf w hi]; simp [Program.cellsOf, hi, hc.1]
          simp only [List.forIn_cons, Sem.run_bind, hz, Nat.mul_one, Result.andThen_ok, p1, p2, Sem.run_pure]
          exact ih (fun y hy => each y (by simp [hy]))
      · cases hk
    · cases hk
  · -- a struct
    rename_i fs hus
    split at hk
    · rename_i hc
      cases hks : cellTs P 0 fs.toList with
      | none => simp [hks] at hk
      | some ks' =>
        simp only [hks, Option.map_some, Option.some.injEq, EK.flat.injEq] at hk; subst hk
        rw [Instr.checkKey]
        simp only [Sem.run_bind, run_underlying hus, Result.andThen_ok]
        rw [← Array.forIn_toList]
        have := fields_check (P := P) (Γ := Γ) (vs := vs) em 9998 w fs.toList 0 ks' hks fun i b hi => by
          obtain ⟨v, h1, h2⟩ := hget i b hi
          exact ⟨v, by simpa using h1, fun t ht => h2 t ht em 9998 w⟩
        rw [this]
        simp
    · cases hk

theorem flat_wide {kt : TypeId} {ks : List Bool} (hk : ekOf P kt = some (.flat ks)) : (match P.underlying kt with | some (.array _ _) | some (.struct _) => true | _ => false) = true := by
  unfold ekOf at hk
  split at hk <;> try (cases hk; done)
  · split at hk <;> cases hk
  · rename_i hu; simp [hu]
  · rename_i hu; simp [hu]

theorem mfindA_sound {Γ : Ctx} {kt : TypeId} {ks : List Bool} (hk : ekOf P kt = some (.flat ks)) {cs : List AV} {u : Value} (hu : VR Γ (.agg cs) u) (w : World) : ∀ (es : List (AV × AV)) (c : List MapEntry) (i : Nat) {r : Option (Nat × AV)}, es.length = c.length →
    (∀ (j : Nat) (p : AV × AV), es[j]? = some p → ∃ e, c[j]? = some e ∧ VR Γ p.1 e.key ∧ VR Γ p.2 e.val) → mfindA ks cs es i = some r →
    (r = none ∧ (Instr.findAsking kt u c i).run P w = .ok none w) ∨
    ∃ j v x e, r = some (i + j, v) ∧ j < es.length ∧ (Instr.findAsking kt u c i).run P w = .ok (some (i + j, x)) w ∧ VR Γ v x ∧ c[j]? = some e ∧ e.key = u
  | [], c, i, r, hl, _, h => by
    have : c = [] := List.eq_nil_of_length_eq_zero hl.symm
    subst this
    simp [mfindA] at h; subst h
    exact .inl ⟨rfl, by simp [Instr.findAsking]⟩
  | (x, v) :: es, c, i, r, hl, hr, h => by
    cases c with
    | nil => simp at hl
    | cons e c =>
      obtain ⟨e', h1, h2, h3⟩ := hr 0 (x, v) rfl
      simp only [List.getElem?_cons_zero, Option.some.injEq] at h1
      subst h1
      cases x <;> simp only [mfindA, reduceCtorEq] at h
      rename_i xs
      simp only at h2
      split at h
      · rename_i hc
        simp only [Option.some.injEq] at h; subst h
        have he := flat_equal hk hu h2 hc w
        refine .inr ⟨0, v, e.val, e, rfl, by simp, by simp [Instr.findAsking, he], h3, rfl, ?_⟩
        obtain ⟨vs, rfl, g1⟩ := hu.agg_list
        obtain ⟨ws, g2, g3⟩ := h2.agg_list
        rw [g2]
        congr 1
        exact (Array.ext' (eqCells_val g1 g3 hc)).symm
      · rename_i hc
        have he := flat_equal hk hu h2 hc w
        rcases mfindA_sound hk hu w es c (i + 1) (by simpa using hl) (fun j p hj => by simpa using hr (j + 1) p (by simpa using hj)) h with ⟨g1, g2⟩ | ⟨j, v', x', e', g1, g2, g3, g4, g5, g6⟩
        · exact .inl ⟨g1, by simp [Instr.findAsking, he, g2]⟩
        · refine .inr ⟨j + 1, v', x', e', by rw [g1]; congr 2; omega, by simp; omega, ?_, g4, by simpa using g5, g6⟩
          simp only [Instr.findAsking, Sem.run_bind, he, Result.andThen_ok, Bool.false_eq_true, if_false, g3]
          congr 3; omega
      · cases h

theorem mgetA_sound {Γ : Ctx} {H : Heap} (s : Sim Γ H) {id : Nat} {es : List (AV × AV)} (hid : H[id]? = some (.map es)) {t kt et : TypeId} {ks : List Bool} (ht : P.underlying t = some (.map kt et)) (hk : ekOf P kt = some (.flat ks))
    {zi : TypeInfo} {zv : Value} (hzi : P.info? et = some zi) (hzv : zi.zero = some zv) {cs : List AV} {r : Option (Nat × AV)} (h : mfindA ks cs es 0 = some r) (hc : eqCells ks cs cs = some true) {u y : Value} (hu : VR Γ (.mp id) u) (hy : VR Γ (.agg cs) y) (ok : Bool) :
    (r = none ∧ (Instr.lookup t u y ok).run P Γ.w = .ok (if ok then .tuple #[zv, .bool false] else zv) Γ.w) ∨
    ∃ i v x, r = some (i, v) ∧ VR Γ v x ∧ (Instr.lookup t u y ok).run P Γ.w = .ok (if ok then .tuple #[x, .bool true] else x) Γ.w := by
  obtain ⟨e2, c, ck, e3, e4, e5, e8⟩ := s.blk id _ hid
  cases hu with
  | mp _ b hn hr =>
    have hr := hr e2; subst hr
    have hck := run_checkKey_flat hk hy hc
    have hfe := run_findKey_eq (P := P) Γ.w (flat_wide hk)
    rcases mfindA_sound hk hy Γ.w es c.toList 0 (by simp [e4]) (fun j p hj => by obtain ⟨_, e, g1, g2⟩ := e5 j p hj; exact ⟨e, by simpa using g1, g2⟩) h with ⟨rfl, g2⟩ | ⟨j, v, x, e, rfl, _, g3, g4, _, _⟩
    · refine .inl ⟨rfl, ?_⟩
      cases ok <;> simp [Instr.lookup, run_underlying ht, Go.MapKept.run_getObj_map e3, hck, hfe, g2, zeroValue, typeInfo, hzi, hzv]
    · refine .inr ⟨_, v, x, rfl, g4, ?_⟩
      cases ok <;> simp [Instr.lookup, run_underlying ht, Go.MapKept.run_getObj_map e3, hck, hfe, g3]

theorem msetA_sound {base bar : Nat} {Γ : Ctx} {H : Heap} (s : Sim Γ H) {id : Nat} {es : List (AV × AV)} (hid : H[id]? = some (.map es)) {t kt et : TypeId} {ks : List Bool} (ht : P.underlying t = some (.map kt et)) (hk : ekOf P kt = some (.flat ks))
    {cs : List AV} {r : Option (Nat × AV)} (h : mfindA ks cs es 0 = some r) (hc : eqCells ks cs cs = some true) {u x y : Value} {v : AV} (hu : VR Γ (.mp id) u) (hy : VR Γ (.agg cs) y) (hv : VR Γ v x) (hv0 : v.top = 0) (hbar : bar ≤ id) :
    ∃ w', (Instr.mapUpdate t u y x).run P Γ.w = .ok () w' ∧ Good base bar [id] Γ { Γ with w := w' } H (H.set id (.map (match r with | some (i, _) => es.set i (.agg cs, v) | none => es ++ [(.agg cs, v)]))) := by
  obtain ⟨e2, c, ck, e3, e4, e5, e8⟩ := s.blk id _ hid
  have hck := run_checkKey_flat hk hy hc
  have hfe := run_findKey_eq (P := P) Γ.w (flat_wide hk)
  obtain ⟨vs, hvs, hvl⟩ := hy.agg_list
  obtain ⟨htop, hbits, _, _⟩ := eqCells_self (P := P) hvl hc
  have htop' : (AV.agg cs).top = 0 := htop
  cases hu with
  | mp _ b hn hr =>
    have hr := hr e2; subst hr
    rcases mfindA_sound hk hy Γ.w es c.toList 0 (by simp [e4]) (fun j p hj => by obtain ⟨_, e, g1, g2⟩ := e5 j p hj; exact ⟨e, by simpa using g1, g2⟩) h with ⟨rfl, g2⟩ | ⟨j, v', x', e, rfl, g5, g3, g4, g6, g7⟩
    · refine ⟨{ Γ.w with heap := Γ.w.heap.setIfInBounds (Γ.ρ id) (.map (c.push { key := y, val := x, born := ck }) (ck + 1)) }, ?_, Good.setMap (c := c) (c' := c.push { key := y, val := x, born := ck }) s hid e3 rfl rfl rfl rfl hbar (by simp [e4]) fun i p hp => ?_⟩
      · simp [Instr.mapUpdate, run_underlying ht, Go.MapKept.run_getObj_map e3, hck, hfe, g2, Go.MapKept.run_setObj_map _ e3]
      · rw [List.getElem?_append] at hp
        split at hp
        · rename_i hi
          obtain ⟨a1, e, a2, a3, a4⟩ := e5 i p hp
          refine ⟨a1, e, ?_, a3, a4⟩
          rw [Array.getElem?_push_lt (by omega), ← a2, Array.getElem?_eq_getElem (by omega)]
        · rename_i hi
          have hi0 : i = es.length := by
            have := (List.getElem?_eq_some_iff.1 hp).1
            simp at this; omega
          subst hi0
          simp at hp; subst hp
          exact ⟨⟨htop', hv0⟩, { key := y, val := x, born := ck }, by rw [← e4]; simp, hy, hv⟩
    · have hjc : j < c.size := by omega
      have hcj : c[j]? = some e := by simpa using g6
      refine ⟨{ Γ.w with heap := Γ.w.heap.setIfInBounds (Γ.ρ id) (.map (c.modify (0 + j) fun e => { e with key := y, val := x }) ck) }, ?_, Good.setMap (c := c) (c' := c.modify (0 + j) fun e => { e with key := y, val := x }) s hid e3 rfl rfl rfl rfl hbar (by simp [e4]) fun i p hp => ?_⟩
      · have hs : Instr.sameBits 10000 y y = true := by
          rw [hvs, show (10000 : Nat) = 9999 + 1 from rfl, Instr.sameBits]
          simpa using hbits 9999
        simp [Instr.mapUpdate, run_underlying ht, Go.MapKept.run_getObj_map e3, hck, hfe, g3, Go.MapKept.run_setObj_map _ e3, hcj, g7, Instr.keyThatStays, hs]
      · simp only [Nat.zero_add] at hp ⊢
        by_cases hij : i = j
        · subst hij
          rw [List.getElem?_set_self g5] at hp
          simp only [Option.some.injEq] at hp; subst hp
          exact ⟨⟨htop', hv0⟩, { e with key := y, val := x }, by rw [Array.getElem?_modify]; simp [hcj], hy, hv⟩
        · rw [List.getElem?_set_ne (Ne.symm hij)] at hp
          obtain ⟨a1, e', a2, a3, a4⟩ := e5 i p hp
          exact ⟨a1, e', by rw [Array.getElem?_modify, if_neg (Ne.symm hij)]; exact a2, a3, a4⟩

theorem s2a_VR {Γ : Ctx} {sz : Nat} {xs : List AV} {b o : Nat} {f : Nat → Nat → Value} (hsz : ∀ x ∈ xs, x.cells.length = sz ∧ ∀ c ∈ x.cells, c.one = true)
    (hcell : ∀ (i : Nat) (x : AV) (j : Nat) (c : AV), xs[i]? = some x → x.cells[j]? = some c → Γ.w.cell? ⟨b, o + i * sz + j, none⟩ = some (f i j) ∧ Γ.I b (o + i * sz + j))
    (hv : ∀ (i : Nat) (x : AV) (j : Nat) (c : AV), xs[i]? = some x → x.cells[j]? = some c → VR Γ c (f i j)) (n : Nat) : VR Γ (.fp (.agg ((xs.take n).flatMap AV.cells))) (.pointer (some ⟨b, o, none⟩)) := by
  have key : ∀ (k : Nat) (c : AV), ((xs.take n).flatMap AV.cells)[k]? = some c → c.one = true ∧ ∃ v, Γ.w.cell? ⟨b, o + k, none⟩ = some v ∧ Γ.I b (o + k) ∧ VR Γ c v := fun k c hk => by
    obtain ⟨i, j, x, rfl, h2, h3⟩ := flat_get (fun x hx => (hsz x (List.mem_of_mem_take hx)).1) hk
    rw [List.getElem?_take] at h2
    split at h2
    · obtain ⟨h4, h5⟩ := hcell i x j c h2 h3
      rw [Nat.add_assoc] at h4 h5
      exact ⟨(hsz x (List.mem_of_getElem? h2)).2 c (List.mem_of_getElem? h3), f i j, h4, h5, hv i x j c h2 h3⟩
    · cases h2
  refine .fp _ b o (fun j => (Γ.w.cell? ⟨b, o + j, none⟩).getD undef) (fun c hc => ?_) (fun j c hc => ?_) (fun j c hc => ?_)
  · obtain ⟨k, hk, rfl⟩ := List.getElem_of_mem hc
    exact (key k _ (List.getElem?_eq_getElem hk)).1
  · obtain ⟨_, v, h1, h2, _⟩ := key j c hc
    exact ⟨by rw [h1]; rfl, h2⟩
  · obtain ⟨_, v, h1, _, h3⟩ := key j c hc
    simp only [h1, Option.getD_some]
    exact h3

theorem aop_sound {nt base bar : Nat} {Γ : Ctx} {fr : Frame} {a : Act} {H H' : Heap} (F : Fits nt Γ fr a) (s : Sim Γ H) (hbase : base ≤ H.length) (hbar : bar ≤ H.length) {o : Oper} {op : AOp} (hop : cOp P o.op = some op)
    {v : AV} {tc : List Nat} (h : aop base bar op fr H = some (v, H', tc)) : ∃ Δ v', OpRun P o a Γ Δ v' ∧ VR Δ v v' ∧ Good base bar tc Γ Δ H H' := by
  obtain ⟨dst, op0, ty, pos, after, guard⟩ := o
  cases op0 <;> simp only [cOp, reduceCtorEq] at hop
  case move x =>
    cases hx : cOpd x with
    | none => simp [hx] at hop
    | some y =>
      simp only [hx, Option.map_some, Option.some.injEq] at hop; subst hop
      simp only [aop] at h
      split at h
      · rename_i u hu
        simp only [Option.some.injEq, Prod.mk.injEq] at h
        obtain ⟨rfl, rfl, rfl⟩ := h
        exact still s rfl (opd_VR F hx hu)
      · cases h
  case assign x =>
    cases hx : cOpd x with
    | none => simp [hx] at hop
    | some y =>
      simp only [hx, Option.map_some, Option.some.injEq] at hop; subst hop
      simp only [aop] at h
      split at h
      · rename_i u hu
        simp only [Option.some.injEq, Prod.mk.injEq] at h
        obtain ⟨rfl, rfl, rfl⟩ := h
        exact still s rfl (opd_VR F hx hu)
      · cases h
  case pick c x y =>
    split at hop <;> try (cases hop; done)
    rename_i c' x' y' hc hx hy
    simp only [Option.some.injEq] at hop; subst hop
    simp only [aop] at h
    split at h <;> try (cases h; done)
    all_goals
      rename_i hcv
      have hcr := opd_VR F hc hcv
      split at h
      · rename_i u hu
        simp only [Option.some.injEq, Prod.mk.injEq] at h
        obtain ⟨rfl, rfl, rfl⟩ := h
        cases hev : a.eval c <;> rw [hev] at hcr <;> cases hcr
        first
          | exact still s (by simp [execOp, hev, asBool]) (opd_VR F hx hu)
          | exact still s (by simp [execOp, hev, asBool]) (opd_VR F hy hu)
      · cases h
  case alloc e =>
    cases hz : zeroOf P e with
    | none => simp [hz] at hop
    | some z =>
      simp only [hz, Option.map_some, Option.some.injEq] at hop; subst hop
      simp only [aop] at h
      split at h
      · cases h
      · simp only [Option.some.injEq, Prod.mk.injEq] at h
        obtain ⟨rfl, rfl, rfl⟩ := h
        obtain ⟨i, zv, hi, hzv, hr, hnt⟩ := zeroOf_some (Γ := Γ) hz
        obtain ⟨Δ, ad, h1, h2, h3⟩ := alloc_sound (P := P) (t := e) s hbase hbar hr hnt
        refine ⟨Δ, _, .value ?_, h2, h3⟩
        simp [execOp, Instr.alloc, zeroValue, typeInfo, hi, hzv, h1]
  case box e x =>
    cases hx : cOpd x with
    | none => simp [hx] at hop
    | some y =>
      simp only [hx, Option.map_some, Option.some.injEq] at hop; subst hop
      simp only [aop] at h
      split at h
      · rename_i u hu
        split at h
        · cases h
        · rename_i ht
          simp only [Option.some.injEq, Prod.mk.injEq] at h
          obtain ⟨rfl, rfl, rfl⟩ := h
          obtain ⟨Δ, ad, h1, h2, h3⟩ := alloc_sound (P := P) (t := e) s hbase hbar (opd_VR F hx hu) (notTup_iff (by simpa using ht))
          refine ⟨Δ, _, .value ?_, h2, h3⟩
          simp [execOp, Instr.box, h1]
      · cases h
  case build t parts =>
    split at hop
    · rename_i z hz
      obtain ⟨i, zv, hi, hzv, hr, hnt⟩ := zeroOf_some (Γ := Γ) hz
      have hcr := CellsR.of hr hnt
      split at hop <;> try (cases hop; done)
      · rename_i fs hu
        split at hop <;> try (cases hop; done)
        rename_i ps hps
        split at hop <;> try (cases hop; done)
        rename_i hall
        simp only [Option.some.injEq] at hop; subst hop
        simp only [aop] at h
        split at h
        · rename_i vs hvs
          split at h
          · cases h
          · rename_i hnt
            split at h
            · rename_i x hx
              simp only [Option.some.injEq, Prod.mk.injEq] at h
              obtain ⟨rfl, rfl, rfl⟩ := h
              cases hf : fillA z.cells ((ps.zip vs).map fun (p, v) => (p.1, p.2.1, v)) with
              | none => simp [hf] at hx
              | some cs =>
                simp only [hf, Option.map_some, Option.some.injEq] at hx; subst hx
                obtain ⟨e1, e2⟩ := parts_map (Γ := Γ) (ρ := a.eval) (fun x y v hc hv => opd_VR F hc hv) hps hvs (by simpa using hnt)
                -- the fields' places
                have places : ∀ (l : List Field), (l.all fun f : Field => (sizeT P f.type).isSome) = true → ∃ pl : List (Nat × Nat), l.mapM (fun f : Field => (P.info? f.type).map fun i => (f.offset, i.size)) = some pl ∧
                    ∀ (i : Nat) (f : Field), l[i]? = some f → ∃ s, sizeT P f.type = some s ∧ pl[i]? = some (f.offset, s) := by
                  intro l
                  induction l with
                  | nil => intro _; exact ⟨[], rfl, by simp⟩
                  | cons f r ih =>
                    intro hl
                    simp only [List.all_cons, Bool.and_eq_true] at hl
                    obtain ⟨pl, p1, p2⟩ := ih hl.2
                    cases hs : P.info? f.type with
                    | none => simp [sizeT, hs] at hl
                    | some fi =>
                      refine ⟨(f.offset, fi.size) :: pl, by simp [List.mapM_cons, hs, p1], fun i g hg => ?_⟩
                      cases i with
                      | zero => simp at hg; subst hg; exact ⟨fi.size, by simp [sizeT, hs], by simp⟩
                      | succ i => simpa using p2 i g (by simpa using hg)
                obtain ⟨pl, p1, p2⟩ := places fs.toList hall
                obtain ⟨vs', f1, f2⟩ := fill_sound (pl.toArray[·]?) _ _ hcr e1 (fun j p q hj hq => by
                  obtain ⟨g1, g2, g3⟩ := e2 j p q hj hq
                  refine ⟨?_, g2, g3⟩
                  split at g1
                  · rename_i f hf
                    obtain ⟨s, s1, s2⟩ := p2 q.1 f (by simpa using hf)
                    rw [s1] at g1
                    simp only at g1
                    rw [← g1]
                    simpa using s2
                  · cases g1) hf
                have hb : P.built t (parts.map fun (i, x) => (i, a.eval x)).toList = some vs' := by
                  simp only [Program.built, hi, hu, hzv, p1, Array.toList_map]
                  exact f1
                refine still s ?_ (.agg _ _ f2.len f2.one f2.rel)
                simp only [execOp, Sem.run_bind, run_build Γ.w t _ vs' hb, Result.andThen_ok, Sem.run_pure]
            · cases h
        · cases h
      · rename_i n e hu
        split at hop <;> try (cases hop; done)
        rename_i sz hsz
        cases hps : cParts (fun i => some (i * sz, sz)) parts.toList with
        | none => simp [hps] at hop
        | some ps =>
          simp only [hps, Option.map_some, Option.some.injEq] at hop; subst hop
          simp only [aop] at h
          split at h
          · rename_i vs hvs
            split at h
            · cases h
            · rename_i hnt
              split at h
              · rename_i x hx
                simp only [Option.some.injEq, Prod.mk.injEq] at h
                obtain ⟨rfl, rfl, rfl⟩ := h
                cases hf : fillA z.cells ((ps.zip vs).map fun (p, v) => (p.1, p.2.1, v)) with
                | none => simp [hf] at hx
                | some cs =>
                  simp only [hf, Option.map_some, Option.some.injEq] at hx; subst hx
                  obtain ⟨e1, e2⟩ := parts_map (Γ := Γ) (ρ := a.eval) (fun x y v hc hv => opd_VR F hc hv) hps hvs (by simpa using hnt)
                  obtain ⟨vs', f1, f2⟩ := fill_sound (fun i => some (i * sz, sz)) _ _ hcr e1 e2 hf
                  have hb : P.built t (parts.map fun (i, x) => (i, a.eval x)).toList = some vs' := by
                    unfold sizeT at hsz
                    cases hie : P.info? e with
                    | none => simp [hie] at hsz
                    | some ie =>
                      simp only [hie, Option.map_some, Option.some.injEq] at hsz; subst hsz
                      simp only [Program.built, hi, hu, hzv, hie, Array.toList_map]
                      exact f1
                  refine still s ?_ (.agg _ _ f2.len f2.one f2.rel)
                  simp only [execOp, Sem.run_bind, run_build Γ.w t _ vs' hb, Result.andThen_ok, Sem.run_pure]
              · cases h
          · cases h
    · cases hop
  case buildSlice t len parts =>
    split at hop <;> try (cases hop; done)
    rename_i e hu
    split at hop <;> try (cases hop; done)
    rename_i ie hie
    split at hop <;> try (cases hop; done)
    rename_i z ps hz hps
    split at hop <;> try (cases hop; done)
    rename_i hc
    obtain ⟨hsmall, hzl, hsz0⟩ := hc
    simp only [Option.some.injEq] at hop; subst hop
    obtain ⟨i', zv, hi', hzv, hr, hnt⟩ := zeroOf_some (Γ := Γ) hz
    rw [hie] at hi'
    simp only [Option.some.injEq] at hi'; subst hi'
    simp only [aop] at h
    split at h
    · rename_i vs hvs
      split at h
      · cases h
      · rename_i htup
        split at h
        · rename_i vs' H1 hfz
          split at h
          · rename_i cs hfill
            · have := hsz0
              simp only [Option.some.injEq, Prod.mk.injEq] at h
              obtain ⟨rfl, rfl, rfl⟩ := h
              have hvr := evs_parts2 F hps hvs
              obtain ⟨Δ, g, gw, gn, gρ, gv, hvr', _, hnt', hlen⟩ := (frz_sound base bar 8).2 _ _ _ _ _ _ hfz s hvr
              have hnts : ∀ c ∈ vs, ∀ l, c ≠ .tup l := fun c hc => notTup_iff (by
                have := htup
                simp only [Bool.not_eq_true, List.any_eq_false] at this
                simpa using this c hc)
              obtain ⟨e1, e2⟩ := parts_map2 (sz := ie.size) hps hvr' (hnt' hnts)
              have hcr := ((CellsR.of hr hnt).mono g.evo)
              have hcl : 0 < z.cells.length := by omega
              have hcr2 := hcr.rep (n := len * ie.size) (c := len) hcl (by rw [hzl])
              obtain ⟨us, f1, f2⟩ := fill_sound (fun i => some (i * ie.size, ie.size)) _ _ hcr2 e1 e2 hfill
              have hrun : (Instr.buildSlice t len (parts.map fun (i, x) => (i, a.eval x))).run P Γ.w = .ok (.slice (some ⟨Γ.w.heap.size, 0, none⟩) len len) (Γ.w.alloc (.cells us e)) := by
                by_cases h0 : len = 0
                · subst h0
                  have hus : us = #[] := by
                    have h1 := f2.len
                    have h2 : cs.length = (List.flatten (List.replicate 0 z.cells)).length := by
                      clear h1
                      revert hfill
                      generalize List.flatten (List.replicate 0 z.cells) = c0
                      intro hfill
                      exact fillA_length _ hfill
                    simp at h2
                    simp [h2] at h1
                    exact Array.eq_empty_of_size_eq_zero h1.symm
                  subst hus
                  have hq : parts.toList = [] := by
                    cases hq : parts.toList with
                    | nil => rfl
                    | cons q r =>
                      exfalso
                      rw [hq] at e1 e2 hps
                      obtain ⟨i, x⟩ := q
                      simp only [cParts2] at hps
                      split at hps
                      · rename_i y ys hy hys
                        simp only [Option.some.injEq] at hps; subst hps
                        cases vs' with
                        | nil => simp at e1
                        | cons v vs' =>
                          simp only [List.zip_cons_cons, List.map_cons, fillA, List.replicate_zero, List.flatten_nil, List.length_nil] at hfill
                          split at hfill
                          · rename_i hcc; omega
                          · cases hfill
                      · cases hps
                  exact run_buildSlice_zero _ t e _ ie hu hie (by simp [hq])
                · refine run_buildSlice Γ.w t e len _ us ie zv hu hie hzv (by omega) (fun hm => (Nat.mul_eq_zero.1 hm).elim h0 hsz0) ?_
                  rw [Array.toList_map]
                  exact f1
              have hcslen : cs.length = len * ie.size := by
                rw [fillA_length _ hfill, flat_rep_length hzl]
              have g2 := Good.fresh (base := base) (bar := bar) (w' := Γ.w.alloc (.cells us e)) (o := .cells us e) g.sim (by rw [gw]; rfl) (by rw [gw]; rfl) (by rw [gw]; rfl) (by rw [gw]; rfl)
              have hdiv : cs.length / ie.size = len := by rw [hcslen]; exact Nat.mul_div_cancel _ (by omega)
              refine ⟨Δ.fresh (Γ.w.alloc (.cells us e)), .slice (some ⟨Γ.w.heap.size, 0, none⟩) len len, .value ?_, ?_, ?_⟩
              · simp only [execOp, Sem.run_bind, hrun, Result.andThen_ok, Sem.run_pure]; rfl
              · rw [hdiv]
                have hrel : VRs (Δ.fresh (Γ.w.alloc (.cells us e))) cs us.toList := ⟨by simpa using f2.len, fun i c v hc hv => (f2.rel i c v hc (by simpa using hv)).mono g2.evo⟩
                refine VR.mkLst (b := Γ.w.heap.size) (o := 0) hcslen f2.one (Nat.le_refl _) (fun _ => rfl) hrel (fun j u hu => ?_)
                have hu' : us[j]? = some u := by simpa using hu
                refine ⟨?_, .inr (by rw [gw])⟩
                rw [Nat.zero_add]
                show (Γ.w.alloc (.cells us e)).cell? _ = _
                rw [cell_iff (c := us) (t := e) (fr := (0, 0)) (heap_alloc_new _ _)]
                exact hu'
              · split
                · rename_i hnv
                  obtain ⟨rfl, rfl⟩ := (frz_noVec 8 bar).2 _ _ _ _ hnv hfz
                  have := (g.trans g2)
                  exact ⟨this.sim, this.evo, this.wf, this.bar, fun _ _ _ => rfl, this.len⟩
                · exact (g.trans g2).any (fun i _ hi => by simpa using hi)
          · cases h
        · cases h
    · cases h
  case load t x =>
    split at hop <;> try (cases hop; done)
    rename_i ti y ht hx
    simp only [Option.some.injEq] at hop; subst hop
    simp only [aop] at h
    split at h
    · rename_i p hp
      split at h
      · rename_i u hu
        simp only [Option.some.injEq, Prod.mk.injEq] at h
        obtain ⟨rfl, rfl, rfl⟩ := h
        obtain ⟨v', h1, h2⟩ := aload_sound s ht (opd_VR F hx hp) hu
        exact still s (by simp only [execOp, Sem.run_bind, h1, Result.andThen_ok, Sem.run_pure]) h2
      · cases h
    · cases h
  case store t x y =>
    split at hop <;> try (cases hop; done)
    rename_i sz x' y' ht hx hy
    simp only [Option.some.injEq] at hop; subst hop
    simp only [aop] at h
    split at h
    · rename_i p u hp hu
      split at h
      · cases h
      · rename_i hnt
        split at h
        · rename_i H1 i hst
          simp only [Option.some.injEq, Prod.mk.injEq] at h
          obtain ⟨rfl, rfl, rfl⟩ := h
          obtain ⟨w', h1, g⟩ := astore_sound (P := P) s ht (opd_VR F hx hp) (opd_VR F hy hu) (notTup_iff (by simpa using hnt)) hst
          refine ⟨_, undef, ⟨.skip, ?_, .inr ⟨rfl, rfl⟩⟩, ?_, g⟩
          · simp only [execOp, Sem.run_bind, h1, Result.andThen_ok, Sem.run_pure]
          · exact .tup _ _ rfl (by simp)
        · cases h
    · cases h
  case nilCheck x =>
    cases hx : cOpd x with
    | none => simp [hx] at hop
    | some y =>
      simp only [hx, Option.map_some, Option.some.injEq] at hop; subst hop
      simp only [aop] at h
      split at h <;> try (cases h; done)
      all_goals
        rename_i hu
        simp only [Option.some.injEq, Prod.mk.injEq] at h
        obtain ⟨rfl, rfl, rfl⟩ := h
        have hr := opd_VR F hx hu
        refine still s (v' := a.eval x) ?_ hr
        cases hev : a.eval x <;> rw [hev] at hr <;> cases hr <;> simp [execOp, hev]
  case binOp op t x y yt =>
    split at hop <;> try (cases hop; done)
    rename_i x' y' hx hy
    split at hop
    · split at hop <;> try (cases hop; done)
      rename_i k hk
      simp only [Option.some.injEq] at hop; subst hop
      simp only [aop] at h
      split at h
      · rename_i u w hu hw
        cases hr : aeq k u w with
        | none => simp [hr] at h
        | some r =>
          simp only [hr, Option.map_some, Option.some.injEq, Prod.mk.injEq, Bool.false_eq_true, if_false] at h
          obtain ⟨rfl, rfl, rfl⟩ := h
          have he := (eq_sound hk (opd_VR F hx hu) (opd_VR F hy hw) hr x y Γ.w).1
          exact still s (by simp only [execOp, Sem.run_bind] at he ⊢; rw [he]; rfl) (.bool _)
      · cases h
    · split at hop <;> try (cases hop; done)
      rename_i k hk
      simp only [Option.some.injEq] at hop; subst hop
      simp only [aop] at h
      split at h
      · rename_i u w hu hw
        cases hr : aeq k u w with
        | none => simp [hr] at h
        | some r =>
          simp only [hr, Option.map_some, Option.some.injEq, Prod.mk.injEq, if_true] at h
          obtain ⟨rfl, rfl, rfl⟩ := h
          have he := (eq_sound hk (opd_VR F hx hu) (opd_VR F hy hw) hr x y Γ.w).2
          exact still s (by simp only [execOp, Sem.run_bind] at he ⊢; rw [he]; rfl) (.bool _)
      · cases h
    · rename_i h1 h2
      simp only [Option.some.injEq] at hop; subst hop
      simp only [aop] at h
      split at h
      · rename_i u w hu hw
        split at h
        · rename_i r hr
          simp only [Option.some.injEq, Prod.mk.injEq] at h
          obtain ⟨rfl, rfl, rfl⟩ := h
          obtain ⟨v', e1, e2⟩ := bin_sound (P := P) (fun e => h1 e) (fun e => h2 e) t (opd_VR F hx hu) (opd_VR F hy hw) hr Γ.w
          exact still s (by simp only [execOp, Sem.run_bind, eqGuard_plain (fun e => h1 e) (fun e => h2 e), Result.andThen_ok, e1, Sem.run_pure]) e2
        · cases h
      · cases h
  case unOp op t x =>
    cases hx : cOpd x with
    | none => simp [hx] at hop
    | some y =>
      simp only [hx, Option.map_some, Option.some.injEq] at hop; subst hop
      simp only [aop] at h
      split at h
      · rename_i u hu
        split at h
        · rename_i r hr
          simp only [Option.some.injEq, Prod.mk.injEq] at h
          obtain ⟨rfl, rfl, rfl⟩ := h
          obtain ⟨v', e1, e2⟩ := un_sound (P := P) (opd_VR F hx hu) hr Γ.w
          exact still s (by simp only [execOp, Sem.run_bind, e1, Result.andThen_ok, Sem.run_pure]) e2
        · cases h
      · cases h
  case convert sT dT x =>
    split at hop <;> try (cases hop; done)
    rename_i ks k y hs hd hx
    simp only [Option.some.injEq] at hop; subst hop
    simp only [aop] at h
    split at h <;> try (cases h; done)
    rename_i k' n hu
    simp only [Option.some.injEq, Prod.mk.injEq] at h
    obtain ⟨rfl, rfl, rfl⟩ := h
    have hr := opd_VR F hx hu
    cases hev : a.eval x <;> rw [hev] at hr <;> cases hr
    obtain ⟨v', e1, e2⟩ := conv_sound (P := P) (Γ := Γ) hs hd k' n Γ.w
    exact still s (by simp only [execOp, hev, Sem.run_bind, e1, Result.andThen_ok, Sem.run_pure]) e2
  case makeFunc f first caps =>
    cases f <;> simp only [reduceCtorEq] at hop
    rename_i f
    split at hop <;> try (cases hop; done)
    rename_i xs ys hx hy
    simp only [Option.some.injEq] at hop; subst hop
    simp only [aop] at h
    split at h
    · rename_i us vs hu hv
      simp only [Option.some.injEq, Prod.mk.injEq] at h
      obtain ⟨rfl, rfl, rfl⟩ := h
      have h1 := opds_VR F hx hu
      have h2 := opds_VR F hy hv
      refine still s (v' := .func (.func f) (first.map a.eval) (caps.map a.eval)) (by simp [execOp, Instr.makeFunc]) (.fn f _ _ _ _ (by simpa using h1.1) (by simpa using h2.1) (fun i c v hc hv => ?_) (fun i c v hc hv => ?_))
      · exact h1.2 i c v hc (by simpa using hv)
      · exact h2.2 i c v hc (by simpa using hv)
    · cases h
  case makeSlice t l c =>
    split at hop <;> try (cases hop; done)
    rename_i e hu
    split at hop <;> try (cases hop; done)
    rename_i ie z l' c' hie hz hl hc
    split at hop <;> try (cases hop; done)
    rename_i hzl
    simp only [Option.some.injEq] at hop; subst hop
    simp only [aop] at h
    split at h <;> try (cases h; done)
    rename_i lv cv hlv hcv
    split at h <;> try (cases h; done)
    rename_i n m hn hm
    split at h <;> try (cases h; done)
    rename_i hcond
    obtain ⟨hnm, hby, hz0⟩ := hcond
    simp only [Option.some.injEq, Prod.mk.injEq] at h
    obtain ⟨rfl, rfl, rfl⟩ := h
    obtain ⟨i', zv, hi', hzv, hr, hnt⟩ := zeroOf_some (Γ := Γ) hz
    rw [hie] at hi'
    simp only [Option.some.injEq] at hi'; subst hi'
    obtain ⟨kl, el⟩ := asNat_VR (opd_VR F hl hlv) hn
    obtain ⟨kc, ec⟩ := asNat_VR (opd_VR F hc hcv) hm
    obtain ⟨hzl, hb1⟩ := hzl
    have hb0 : ie.bytes * m ≤ 140737488355328 := by rw [Nat.mul_comm]; exact hby
    have hb2 : (ie.bytes : Int) * (m : Int) ≤ 281474976710656 := by
      have : ((ie.bytes * m : Nat) : Int) ≤ 281474976710656 := by omega
      rwa [Int.natCast_mul] at this
    have hm63 : m ≤ 140737488355328 := Nat.le_trans (Nat.le_mul_of_pos_left m (Nat.pos_of_ne_zero hb1)) hb0
    have hrun := run_make (P := P) Γ.w t e ie zv hu hie hzv kl kc n m (by omega) (by omega) hb2 (by omega)
    simp only [Int.toNat_natCast] at hrun
    have hcr := (CellsR.of hr hnt).rep (n := m * ie.size) (c := m) (Nat.pos_of_ne_zero hz0) (by rw [hzl])
    have hsz : (madeCells zv.cells (m * ie.size)).size = m * ie.size := size_madeCells _ _
    have g := Good.push (base := base) (bar := bar) (w' := Γ.w.alloc (.cells (madeCells zv.cells (m * ie.size)) e)) (t := e) (ex := true) s hbase hbar rfl rfl rfl rfl (Nat.le_of_eq hcr.len) (fun _ => hcr.len) (fun i x hx => by
      have hi : i < (madeCells zv.cells (m * ie.size)).size := by
        have h1 := (List.getElem?_eq_some_iff.1 hx).1
        have h2 := hcr.len
        exact h2 ▸ h1
      have hg := Array.getElem?_eq_getElem hi
      exact ⟨hcr.one x (List.mem_of_getElem? hx), _, hg, hcr.rel i x _ hx hg⟩)
    refine ⟨_, .slice (some ⟨Γ.w.heap.size, 0, none⟩) n m, .value ?_, ?_, g⟩
    · simp only [execOp, el, ec, Sem.run_bind, hrun, Result.andThen_ok, Sem.run_pure]; rfl
    · refine .vec _ _ _ _ _ _ _ (by simp [Ctx.push, s.n]) (by simp) (fun _ => ⟨by simp [Ctx.push, Ctx.δ, s.n], ?_, hnm⟩)
      simp only [Ctx.push, Ctx.δ, s.n, if_true]
      rw [hsz, hzl]; omega
  case slice t x lo hi mx =>
    split at hop <;> try (cases hop; done)
    rename_i x' lo' hi' mx' hx hlo hhi hmx
    split at hop
    · cases hop
    · rename_i hmh
      have hk : ∃ k, skOf P t = some k ∧ op = .slice k x' lo' hi' mx' := by
        unfold skOf
        split at hop <;> try (cases hop; done)
        · simp only [Option.some.injEq] at hop
          rename_i hu
          exact ⟨_, by rw [hu], hop.symm⟩
        · rename_i e hu
          cases hs : sizeT P e with
          | none => simp [hs] at hop
          | some sz =>
            simp only [hs, Option.map_some, Option.some.injEq] at hop
            exact ⟨_, by rw [hu]; simp [hs], hop.symm⟩
        · rename_i n e hu
          cases hs : sizeT P e with
          | none => simp [hs] at hop
          | some sz =>
            simp only [hs, Option.map_some, Option.some.injEq] at hop
            exact ⟨_, by rw [hu]; simp [hs], hop.symm⟩
      obtain ⟨k, hk, rfl⟩ := hk
      simp only [aop] at h
      split at h <;> try (cases h; done)
      rename_i xv lov hiv mxv hxv hlov hhiv hmxv
      split at h
      · rename_i r hr
        simp only [Option.some.injEq, Prod.mk.injEq] at h
        obtain ⟨rfl, rfl, rfl⟩ := h
        obtain ⟨o1, s1⟩ := opts_VR F hlo hlov
        obtain ⟨o2, s2⟩ := opts_VR F hhi hhiv
        obtain ⟨o3, s3⟩ := opts_VR F hmx hmxv
        have hmh' : mxv.isSome = true → hiv.isSome = true := fun h1 => by
          rw [s3] at h1; rw [s2]
          cases hi' with
          | none => simp [h1] at hmh
          | some _ => rfl
        obtain ⟨v', e1, e2⟩ := slice_sound s hk (opd_VR F hx hxv) o1 o2 o3 hmh' hr
        exact still s (by simp only [execOp, Sem.run_bind, e1, Result.andThen_ok, Sem.run_pure]) e2
      · cases h
  case fieldAddr t x i =>
    split at hop <;> try (cases hop; done)
    rename_i fs hu
    split at hop <;> try (cases hop; done)
    rename_i g hg
    split at hop <;> try (cases hop; done)
    rename_i ti y hti hx
    split at hop
    · cases hop
    · rename_i hz
      simp only [Option.some.injEq] at hop; subst hop
      simp only [aop] at h
      split at h <;> try (cases h; done)
      · rename_i id ver o hxv
        simp only [Option.some.injEq, Prod.mk.injEq] at h
        obtain ⟨rfl, rfl, rfl⟩ := h
        obtain ⟨v', e1, e2⟩ := foff_sound (v := .ptr id ver (o + g.offset)) hu hg hti hz (opd_VR F hx hxv) rfl
        exact still s (by simp only [execOp, Sem.run_bind, e1, Result.andThen_ok, Sem.run_pure]) e2
      · rename_i cs hxv
        split at h
        · rename_i r hr
          simp only [Option.some.injEq, Prod.mk.injEq] at h
          obtain ⟨rfl, rfl, rfl⟩ := h
          obtain ⟨v', e1, e2⟩ := foff_sound hu hg hti hz (opd_VR F hx hxv) hr
          exact still s (by simp only [execOp, Sem.run_bind, e1, Result.andThen_ok, Sem.run_pure]) e2
        · cases h
  case field t x i =>
    split at hop <;> try (cases hop; done)
    rename_i fs hu
    split at hop <;> try (cases hop; done)
    rename_i g hg
    split at hop <;> try (cases hop; done)
    rename_i ti y hti hx
    simp only [Option.some.injEq] at hop; subst hop
    simp only [aop] at h
    split at h <;> try (cases h; done)
    rename_i cs hxv
    split at h
    · rename_i r hr
      simp only [Option.some.injEq, Prod.mk.injEq] at h
      obtain ⟨rfl, rfl, rfl⟩ := h
      have hrel := opd_VR F hx hxv
      obtain ⟨vs, hev, hl, h1, hv⟩ := hrel.agg_inv
      obtain ⟨v', e1, e2⟩ := part_sound hti hl h1 hv hr Γ.w
      exact still s (by simp [execOp, hev, Instr.field, run_underlying hu, hg, asAgg, e1]) e2
    · cases h
  case indexAddr t x i =>
    split at hop <;> try (cases hop; done)
    rename_i x' i' hx hi
    split at hop <;> try (cases hop; done)
    · rename_i e hu
      cases hs : sizeT P e with
      | none => simp [hs] at hop
      | some sz =>
        simp only [hs, Option.map_some, Option.some.injEq] at hop; subst hop
        simp only [aop] at h
        split at h <;> try (cases h; done)
        rename_i xv iv hxv hiv
        split at h <;> try (cases h; done)
        rename_i n hn
        obtain ⟨k, ei⟩ := asNat_VR (opd_VR F hi hiv) hn
        split at h <;> try (cases h; done)
        · rename_i sz' ex xs
          split at h
          · rename_i hse
            split at h
            · rename_i r hr
              simp only [Option.some.injEq, Prod.mk.injEq] at h
              obtain ⟨rfl, rfl, rfl⟩ := h
              obtain ⟨v', e1, e2⟩ := ixaS_sound (v := r) (k := k) (i := n) hu hs (opd_VR F hx hxv) (by simp only [hse, if_true]; exact hr)
              exact still s (by simp only [execOp, ei, Sem.run_bind, e1, Result.andThen_ok, Sem.run_pure]) e2
            · cases h
          · cases h
        · rename_i id ver off len sz'
          split at h
          · rename_i hse
            simp only [Option.some.injEq, Prod.mk.injEq] at h
            obtain ⟨rfl, rfl, rfl⟩ := h
            obtain ⟨v', e1, e2⟩ := ixaS_sound (v := .ptr id ver (off + n * sz)) (k := k) (i := n) hu hs (opd_VR F hx hxv) (by simp only [hse, and_self, if_true])
            exact still s (by simp only [execOp, ei, Sem.run_bind, e1, Result.andThen_ok, Sem.run_pure]) e2
          · cases h
    · rename_i m e hu
      cases hs : tiOf P e with
      | none => simp [hs] at hop
      | some ti =>
        simp only [hs, Option.map_some, Option.some.injEq] at hop; subst hop
        simp only [aop] at h
        split at h <;> try (cases h; done)
        rename_i xv iv hxv hiv
        split at h <;> try (cases h; done)
        rename_i n hn
        obtain ⟨k, ei⟩ := asNat_VR (opd_VR F hi hiv) hn
        split at h <;> try (cases h; done)
        rename_i hlt
        split at h <;> try (cases h; done)
        · rename_i id ver o
          simp only [Option.some.injEq, Prod.mk.injEq] at h
          obtain ⟨rfl, rfl, rfl⟩ := h
          obtain ⟨v', e1, e2⟩ := ixaA_sound (v := .ptr id ver (o + n * ti.size)) (k := k) (i := n) hu hs hlt (opd_VR F hx hxv) rfl
          exact still s (by simp only [execOp, ei, Sem.run_bind, e1, Result.andThen_ok, Sem.run_pure]) e2
        · rename_i cs
          split at h
          · rename_i r hr
            simp only [Option.some.injEq, Prod.mk.injEq] at h
            obtain ⟨rfl, rfl, rfl⟩ := h
            obtain ⟨v', e1, e2⟩ := ixaA_sound (v := r) (k := k) (i := n) hu hs hlt (opd_VR F hx hxv) hr
            exact still s (by simp only [execOp, ei, Sem.run_bind, e1, Result.andThen_ok, Sem.run_pure]) e2
          · cases h
  case index t x i =>
    split at hop <;> try (cases hop; done)
    rename_i x' i' hx hi
    split at hop <;> try (cases hop; done)
    · rename_i m e hu
      cases hs : tiOf P e with
      | none => simp [hs] at hop
      | some ti =>
        simp only [hs, Option.map_some, Option.some.injEq] at hop; subst hop
        simp only [aop] at h
        split at h <;> try (cases h; done)
        rename_i cs iv hxv hiv
        split at h <;> try (cases h; done)
        rename_i n hn
        obtain ⟨k, ei⟩ := asNat_VR (opd_VR F hi hiv) hn
        split at h <;> try (cases h; done)
        rename_i hlt
        split at h <;> try (cases h; done)
        rename_i r hr
        simp only [Option.some.injEq, Prod.mk.injEq] at h
        obtain ⟨rfl, rfl, rfl⟩ := h
        have hrel := opd_VR F hx hxv
        obtain ⟨vs, hev, hl, h1, hv⟩ := hrel.agg_inv
        obtain ⟨v', e1, e2⟩ := part_sound hs hl h1 hv hr Γ.w
        exact still s (by simp [execOp, hev, ei, Instr.index, asIntOf, run_underlying hu, hlt, run_size (tiOf_size hs), e1]) e2
    · rename_i hu
      simp only [Option.some.injEq] at hop; subst hop
      simp only [aop] at h
      split at h <;> try (cases h; done)
      rename_i st iv hxv hiv
      split at h <;> try (cases h; done)
      rename_i n hn
      obtain ⟨k, ei⟩ := asNat_VR (opd_VR F hi hiv) hn
      split at h <;> try (cases h; done)
      rename_i b hb
      simp only [Option.some.injEq, Prod.mk.injEq] at h
      obtain ⟨rfl, rfl, rfl⟩ := h
      have hrel := opd_VR F hx hxv
      cases hev : a.eval x <;> rw [hev] at hrel <;> cases hrel
      exact still s (v' := .int .u8 b.toNat) (by simp [execOp, hev, ei, Instr.index, asIntOf, run_underlying hu, hb]) (.int _ _)
  case makeInterface t x =>
    split at hop <;> try (cases hop; done)
    rename_i hni hu
    cases hx : cOpd x with
    | none => simp [hx] at hop
    | some y =>
      simp only [hx, Option.map_some, Option.some.injEq] at hop; subst hop
      simp only [aop] at h
      split at h <;> try (cases h; done)
      rename_i u huv
      split at h
      · cases h
      · rename_i htup
        split at h <;> try (cases h; done)
        rename_i v1 H1 hfz
        simp only [Option.some.injEq, Prod.mk.injEq] at h
        obtain ⟨rfl, rfl, rfl⟩ := h
        have hrel := opd_VR F hx huv
        have hrun : (Instr.makeInterface t (a.eval x)).run P Γ.w = .ok (.iface t (a.eval x)) Γ.w := by
          simp only [Instr.makeInterface, Sem.run_bind, run_underlying hu, Result.andThen_ok]
          simp
        obtain ⟨Δ, g, gw, gn, gρ, gver, hvr', _, _, hlen⟩ := (frz_sound base bar 8).2 _ _ _ _ _ [a.eval x] hfz s (VRs.cons hrel VRs.nil)
        obtain ⟨u', r', he, hv', _⟩ := hvr'.of_cons
        simp only [List.cons.injEq] at he
        obtain ⟨rfl, rfl⟩ := he
        refine ⟨Δ, .iface t (a.eval x), .value ?_, .ifc _ _ _ hv', ?_⟩
        · rw [gw]
          simp only [execOp, Sem.run_bind, hrun, Result.andThen_ok, Sem.run_pure]
        · split
          · rename_i hnv
            obtain ⟨_, rfl⟩ := (frz_noVec 8 bar).2 _ _ _ _ (by simpa [AV.noVec.noVecs] using hnv) hfz
            exact ⟨g.sim, g.evo, g.wf, g.bar, fun _ _ _ => rfl, g.len⟩
          · exact g
  case sliceToArrayPointer t x =>
    split at hop <;> try (cases hop; done)
    rename_i n e hu
    cases hx : cOpd x with
    | none => simp [hx] at hop
    | some y =>
      simp only [hx, Option.map_some, Option.some.injEq] at hop; subst hop
      simp only [aop] at h
      split at h <;> try (cases h; done)
      · rename_i sz ex xs hxv
        split at h <;> try (cases h; done)
        rename_i hn
        simp only [Option.some.injEq, Prod.mk.injEq] at h
        obtain ⟨rfl, rfl, rfl⟩ := h
        have hrel := opd_VR F hx hxv
        cases hev : a.eval x <;> rw [hev] at hrel <;> cases hrel
        · rename_i hv hsz hcell hlc hex
          refine still s ?_ (s2a_VR hsz hcell hv n)
          simp [execOp, hev, Instr.arrayAt, run_underlying hu, Nat.not_lt.2 hn.1]
        · simp at hn
      · rename_i id ver off len sz hxv
        split at h <;> try (cases h; done)
        rename_i hn
        simp only [Option.some.injEq, Prod.mk.injEq] at h
        obtain ⟨rfl, rfl, rfl⟩ := h
        have hrel := opd_VR F hx hxv
        cases hev : a.eval x <;> rw [hev] at hrel <;> cases hrel
        rename_i ad cap hn' hle ha
        refine still s ?_ (.ptr _ _ _ _ hn' hle (fun hv => (ha hv).1))
        simp [execOp, hev, Instr.arrayAt, run_underlying hu, Nat.not_lt.2 hn.1]
  case typeAssert x xT t ok =>
    split at hop <;> try (cases hop; done)
    rename_i hni hu
    split at hop <;> try (cases hop; done)
    rename_i z y hz hx
    simp only [Option.some.injEq] at hop; subst hop
    obtain ⟨zi, zv, hzi, hzv, hzr, _⟩ := zeroOf_some (Γ := Γ) hz
    simp only [aop] at h
    split at h <;> try (cases h; done)
    · rename_i t' v1 hxv
      have hrel := opd_VR F hx hxv
      cases hev : a.eval x <;> rw [hev] at hrel <;> cases hrel
      rename_i u hvu
      split at h
      · rename_i ht
        subst ht
        simp only [Option.some.injEq, Prod.mk.injEq] at h
        obtain ⟨rfl, rfl, rfl⟩ := h
        refine still s ?_ (mres_VR (ok := ok) (b := true) hvu)
        cases ok <;> simp [execOp, hev, Instr.typeAssert, run_underlying hu]
      · rename_i ht
        split at h <;> try (cases h; done)
        rename_i hok
        simp only [Option.some.injEq, Prod.mk.injEq] at h
        obtain ⟨rfl, rfl, rfl⟩ := h
        refine still s ?_ (mres_VR (ok := true) (b := false) hzr)
        subst hok
        simp [execOp, hev, Instr.typeAssert, run_underlying hu, ht, zeroValue, typeInfo, hzi, hzv]
    · rename_i hxv
      have hrel := opd_VR F hx hxv
      cases hev : a.eval x <;> rw [hev] at hrel <;> cases hrel
      split at h <;> try (cases h; done)
      rename_i hok
      simp only [Option.some.injEq, Prod.mk.injEq] at h
      obtain ⟨rfl, rfl, rfl⟩ := h
      refine still s ?_ (mres_VR (ok := true) (b := false) hzr)
      subst hok
      simp [execOp, hev, Instr.typeAssert, run_underlying hu, zeroValue, typeInfo, hzi, hzv]
  case extract x i =>
    cases hx : cOpd x with
    | none => simp [hx] at hop
    | some y =>
      simp only [hx, Option.map_some, Option.some.injEq] at hop; subst hop
      simp only [aop] at h
      split at h <;> try (cases h; done)
      rename_i vs hxv
      split at h <;> try (cases h; done)
      rename_i r hr
      simp only [Option.some.injEq, Prod.mk.injEq] at h
      obtain ⟨rfl, rfl, rfl⟩ := h
      have hrel := opd_VR F hx hxv
      cases hev : a.eval x <;> rw [hev] at hrel <;> cases hrel
      rename_i us hl hv
      have hi : i < vs.length := (List.getElem?_eq_some_iff.1 hr).1
      have hg : us[i]? = some (us[i]'(hl ▸ hi)) := Array.getElem?_eq_getElem _
      exact still s (by simp [execOp, hev, Instr.extract, hg]) (hv i _ _ hr hg)
  case makeMap t r =>
    cases r with
    | some r => simp at hop
    | none =>
      simp only [Option.some.injEq] at hop; subst hop
      simp only [aop, Option.some.injEq, Prod.mk.injEq] at h
      obtain ⟨rfl, rfl, rfl⟩ := h
      have g := Good.pushMap (base := base) (bar := bar) (w' := Γ.w.alloc (.map #[] 0)) s hbase hbar rfl rfl rfl rfl
      refine ⟨_, .map (some Γ.w.heap.size), .value ?_, .mp _ _ (by simp [Ctx.push, s.n]) (fun _ => by simp [Ctx.push, s.n]), g⟩
      simp only [execOp, Option.map_none, Sem.run_bind, Sem.run_pure]
      rfl
  case lookup t m k ok =>
    split at hop <;> try (cases hop; done)
    rename_i kt et ht
    split at hop <;> try (cases hop; done)
    · rename_i kk z m' k' hkt hz hm hk
      simp only [Option.some.injEq] at hop; subst hop
      obtain ⟨zi, zv, hzi, hzv, hzr, _⟩ := zeroOf_some (Γ := Γ) hz
      simp only [aop] at h
      split at h <;> try (cases h; done)
      · rename_i kn n hmv hkv
        simp only [Option.some.injEq, Prod.mk.injEq] at h
        obtain ⟨rfl, rfl, rfl⟩ := h
        have hmr := opd_VR F hm hmv
        have hkr := opd_VR F hk hkv
        cases hem : a.eval m <;> rw [hem] at hmr <;> cases hmr
        cases hek : a.eval k <;> rw [hek] at hkr <;> cases hkr
        refine still s ?_ (mres_VR (ok := ok) (b := false) hzr)
        have hf : (Instr.findKey kt (.int kn n) []).run P Γ.w = .ok none Γ.w := Go.MapKept.run_findKey hkt rfl
        cases ok <;> simp [execOp, hem, hek, Instr.lookup, run_underlying ht, run_checkKey_int hkt, hf, zeroValue, typeInfo, hzi, hzv]
      · rename_i id kn n hmv hkv
        split at h <;> try (cases h; done)
        rename_i es hid
        have hmr := opd_VR F hm hmv
        have hkr := opd_VR F hk hkv
        cases hek : a.eval k <;> rw [hek] at hkr <;> cases hkr
        split at h <;> try (cases h; done)
        · rename_i i v hf
          simp only [Option.some.injEq, Prod.mk.injEq] at h
          obtain ⟨rfl, rfl, rfl⟩ := h
          rcases mget_sound s hid ht hkt hzi hzv hf hmr ok with ⟨h0, _⟩ | ⟨i', v', x, h0, hv, hrun⟩
          · cases h0
          · cases h0
            exact still s (by simp only [execOp, hek, Sem.run_bind, hrun, Result.andThen_ok, Sem.run_pure]) (mres_VR hv)
        · rename_i hf
          simp only [Option.some.injEq, Prod.mk.injEq] at h
          obtain ⟨rfl, rfl, rfl⟩ := h
          rcases mget_sound s hid ht hkt hzi hzv hf hmr ok with ⟨_, hrun⟩ | ⟨i', v', x, h0, _⟩
          · exact still s (by simp only [execOp, hek, Sem.run_bind, hrun, Result.andThen_ok, Sem.run_pure]) (mres_VR hzr)
          · cases h0
    · rename_i d z m' k' _ hkt hz hm hk
      split at hop <;> try (cases hop; done)
      rename_i ks hks
      simp only [Option.some.injEq] at hop; subst hop
      obtain ⟨zi, zv, hzi, hzv, hzr, _⟩ := zeroOf_some (Γ := Γ) hz
      simp only [aop] at h
      split at h <;> try (cases h; done)
      · rename_i cs hmv hkv
        split at h <;> try (cases h; done)
        rename_i hcs
        simp only [Option.some.injEq, Prod.mk.injEq] at h
        obtain ⟨rfl, rfl, rfl⟩ := h
        have hmr := opd_VR F hm hmv
        have hkr := opd_VR F hk hkv
        cases hem : a.eval m <;> rw [hem] at hmr <;> cases hmr
        refine still s ?_ (mres_VR (ok := ok) (b := false) hzr)
        have hck := run_checkKey_flat hks hkr hcs
        have hf : (Instr.findKey kt (a.eval k) []).run P Γ.w = .ok none Γ.w := Go.MapKept.run_findKey hkt rfl
        cases ok <;> simp [execOp, hem, Instr.lookup, run_underlying ht, hck, hf, zeroValue, typeInfo, hzi, hzv]
      · rename_i id cs hmv hkv
        split at h <;> try (cases h; done)
        rename_i hcs
        split at h <;> try (cases h; done)
        rename_i es hid
        have hmr := opd_VR F hm hmv
        have hkr := opd_VR F hk hkv
        split at h <;> try (cases h; done)
        · rename_i i v hf
          simp only [Option.some.injEq, Prod.mk.injEq] at h
          obtain ⟨rfl, rfl, rfl⟩ := h
          rcases mgetA_sound s hid ht hks hzi hzv hf hcs hmr hkr ok with ⟨h0, _⟩ | ⟨i', v', x, h0, hv, hrun⟩
          · cases h0
          · cases h0
            exact still s (by simp only [execOp, Sem.run_bind, hrun, Result.andThen_ok, Sem.run_pure]) (mres_VR hv)
        · rename_i hf
          simp only [Option.some.injEq, Prod.mk.injEq] at h
          obtain ⟨rfl, rfl, rfl⟩ := h
          rcases mgetA_sound s hid ht hks hzi hzv hf hcs hmr hkr ok with ⟨_, hrun⟩ | ⟨i', v', x, h0, _⟩
          · exact still s (by simp only [execOp, Sem.run_bind, hrun, Result.andThen_ok, Sem.run_pure]) (mres_VR hzr)
          · cases h0
  case mapUpdate t m k v' =>
    split at hop <;> try (cases hop; done)
    rename_i kt et ht
    split at hop <;> try (cases hop; done)
    · rename_i kk m' k' x' hkt hm hk hx
      simp only [Option.some.injEq] at hop; subst hop
      simp only [aop] at h
      split at h <;> try (cases h; done)
      rename_i id kn n xv hmv hkv hxv
      split at h
      · cases h
      rename_i hc
      simp only [Decidable.not_not] at hc
      obtain ⟨hx0, _, hb⟩ := hc
      split at h <;> try (cases h; done)
      rename_i es hid
      have hmr := opd_VR F hm hmv
      have hkr := opd_VR F hk hkv
      cases hek : a.eval k <;> rw [hek] at hkr <;> cases hkr
      split at h <;> try (cases h; done)
      all_goals
        rename_i hf
        simp only [Option.some.injEq, Prod.mk.injEq] at h
        obtain ⟨rfl, rfl, rfl⟩ := h
        obtain ⟨w', h1, g⟩ := mset_sound (base := base) (bar := bar) s hid ht hkt hf hmr (opd_VR F hx hxv) hx0 hb
        refine ⟨_, undef, ⟨.skip, ?_, .inr ⟨rfl, rfl⟩⟩, .tup _ _ rfl (by simp), g⟩
        simp only [execOp, hek, Sem.run_bind, h1, Result.andThen_ok, Sem.run_pure]
    · rename_i d m' k' x' _ hkt hm hk hx
      split at hop <;> try (cases hop; done)
      rename_i ks hks
      simp only [Option.some.injEq] at hop; subst hop
      simp only [aop] at h
      split at h <;> try (cases h; done)
      rename_i id cs xv hmv hkv hxv
      split at h
      · cases h
      rename_i hc
      simp only [Decidable.not_not] at hc
      obtain ⟨hx0, _, hb⟩ := hc
      split at h <;> try (cases h; done)
      rename_i hcs
      split at h <;> try (cases h; done)
      rename_i es hid
      have hmr := opd_VR F hm hmv
      have hkr := opd_VR F hk hkv
      split at h <;> try (cases h; done)
      all_goals
        rename_i hf
        simp only [Option.some.injEq, Prod.mk.injEq] at h
        obtain ⟨rfl, rfl, rfl⟩ := h
        obtain ⟨w', h1, g⟩ := msetA_sound (base := base) (bar := bar) s hid ht hks hf hcs hmr hkr (opd_VR F hx hxv) hx0 hb
        refine ⟨_, undef, ⟨.skip, ?_, .inr ⟨rfl, rfl⟩⟩, .tup _ _ rfl (by simp), g⟩
        simp only [execOp, Sem.run_bind, h1, Result.andThen_ok, Sem.run_pure]
  case call c =>
    obtain ⟨callee, args, argTypes⟩ := c
    simp only [cCall] at hop
    split at hop <;> try (cases hop; done)
    · simp only [Option.some.injEq] at hop; subst hop; simp [aop] at h
    · simp only [Option.some.injEq] at hop; subst hop; simp [aop] at h
    · split at hop <;> try (cases hop; done)
      simp only [Option.some.injEq] at hop; subst hop; simp [aop] at h
    · -- len
      rename_i x hx
      split at hop <;> try (cases hop; done)
      rename_i t ht
      split at hop <;> try (cases hop; done)
      · rename_i e hu
        simp only [Option.some.injEq] at hop; subst hop
        simp only [aop] at h
        split at h <;> try (cases h; done)
        all_goals
          rename_i hxv
          simp only [Option.some.injEq, Prod.mk.injEq] at h
          obtain ⟨rfl, rfl, rfl⟩ := h
          obtain ⟨u, hu1, hu2⟩ := one_arg F hx hxv
          cases hu2 <;> exact still s (by simp [execOp, resolve, invoke, builtin, hu1, Builtin.len_, ht, run_underlying hu]; rfl) (.int _ _)
      · rename_i hu
        simp only [Option.some.injEq] at hop; subst hop
        simp only [aop] at h
        split at h <;> try (cases h; done)
        rename_i hxv
        simp only [Option.some.injEq, Prod.mk.injEq] at h
        obtain ⟨rfl, rfl, rfl⟩ := h
        obtain ⟨u, hu1, hu2⟩ := one_arg F hx hxv
        cases hu2
        exact still s (by simp [execOp, resolve, invoke, builtin, hu1, Builtin.len_, ht, run_underlying hu]; rfl) (.int _ _)
      · rename_i hu
        simp only [Option.some.injEq] at hop; subst hop
        simp only [aop] at h
        split at h <;> try (cases h; done)
        · rename_i hxv
          simp only [Option.some.injEq, Prod.mk.injEq] at h
          obtain ⟨rfl, rfl, rfl⟩ := h
          obtain ⟨u, hu1, hu2⟩ := one_arg F hx hxv
          cases hu2
          exact still s (by simp [execOp, resolve, invoke, builtin, hu1, Builtin.len_, ht, run_underlying hu]; rfl) (.int _ _)
        · rename_i id hxv
          split at h <;> try (cases h; done)
          rename_i es hid
          simp only [Option.some.injEq, Prod.mk.injEq] at h
          obtain ⟨rfl, rfl, rfl⟩ := h
          obtain ⟨u, hu1, hu2⟩ := one_arg F hx hxv
          cases hu2 with
          | mp _ r hn hr =>
            obtain ⟨e2, c, ck, e3, e4, _⟩ := s.blk id _ hid
            have hr := hr e2; subst hr
            exact still s (v' := .int .i64 es.length) (by simp [execOp, resolve, invoke, builtin, hu1, Builtin.len_, ht, run_underlying hu, Go.MapKept.run_getObj_map e3, e4]; rfl) (.int _ _)
    · -- clear
      rename_i x hx
      split at hop <;> try (cases hop; done)
      rename_i t ht
      split at hop <;> try (cases hop; done)
      rename_i e hu
      split at hop <;> try (cases hop; done)
      rename_i z ie hz hie
      split at hop <;> try (cases hop; done)
      rename_i hzc
      obtain ⟨hzl, hsz0⟩ := hzc
      simp only [Option.some.injEq] at hop; subst hop
      obtain ⟨i', zv, hi', hzv, hr, hnt⟩ := zeroOf_some (Γ := Γ) hz
      rw [hie] at hi'
      simp only [Option.some.injEq] at hi'; subst hi'
      simp only [aop] at h
      split at h <;> try (cases h; done)
      · rename_i hxv
        simp only [Option.some.injEq, Prod.mk.injEq] at h
        obtain ⟨rfl, rfl, rfl⟩ := h
        obtain ⟨u, hu1, hu2⟩ := one_arg F hx hxv
        cases hu2
        exact still s (v' := .tuple #[]) (by simp [execOp, resolve, invoke, builtin, hu1, Builtin.clear_, ht, run_underlying hu]) (.tup _ _ rfl (by simp))
      · rename_i id ver off len sz hxv
        obtain ⟨u, hu1, hu2⟩ := one_arg F hx hxv
        cases hu2 with
        | vec _ _ _ _ _ ad cap hn hle ha =>
          split at h
          · rename_i h0
            subst h0
            simp only [Option.some.injEq, Prod.mk.injEq] at h
            obtain ⟨rfl, rfl, rfl⟩ := h
            exact still s (v' := .tuple #[]) (by simp [execOp, resolve, invoke, builtin, hu1, Builtin.clear_, ht, run_underlying hu]) (.tup _ _ rfl (by simp))
          · rename_i h0
            split at h <;> try (cases h; done)
            rename_i ver' cs fz ex hid
            split at h <;> try (cases h; done)
            rename_i hc
            obtain ⟨rfl, rfl, hfz, hlen, hb, htop⟩ := hc
            simp only [Option.some.injEq, Prod.mk.injEq] at h
            obtain ⟨rfl, rfl, rfl⟩ := h
            obtain ⟨ver1, cs1, fz1, ex1, e1, e2, _⟩ := s.row id _ hid
            simp only [Blk.row.injEq] at e1
            obtain ⟨rfl, _⟩ := e1
            obtain ⟨rfl, _, _⟩ := ha e2
            have hcr0 := CellsR.of hr hnt
            have hcr := hcr0.rep (n := len * z.cells.length) (c := len) (by omega) rfl
            have hrl : (List.flatten (List.replicate len z.cells)).length = len * z.cells.length := flat_rep_length rfl len
            obtain ⟨w', h1, g⟩ := write_sound (P := P) (base := base) (bar := bar) (off := off) s hid (vs := List.flatten (List.replicate len z.cells))
              (us := (Builtin.zeroCells zv.cells len).toList) ⟨by
                rw [hrl]; simp [Builtin.zeroCells, hcr0.len], fun i c v hc hv => hcr.rel i c v hc (by
                rw [hcr0.len]
                simpa only [Builtin.zeroCells, Array.getElem?_toList] using hv)⟩ hcr.one hfz (by rw [hrl]; exact hlen) hb
              (.inr (by
                have : AV.top.tops (List.flatten (List.replicate len z.cells)) ≤ 0 := AV.le_tops fun c hc => by
                  obtain ⟨l, hl, hcl⟩ := List.mem_flatten.1 hc
                  rw [(List.mem_replicate.1 hl).2] at hcl
                  exact AV.tops_le (Nat.le_of_eq htop) c hcl
                omega))
            obtain ⟨m, rfl⟩ : ∃ m, len = m + 1 := ⟨len - 1, by omega⟩
            refine ⟨_, .tuple #[], .value ?_, .tup _ _ rfl (by simp), g⟩
            simp [execOp, resolve, invoke, builtin, hu1, Builtin.clear_, ht, run_underlying hu, zeroValue, typeInfo, hie, hzv, h1]
    · -- max
      rename_i xs hx
      simp only [Option.some.injEq] at hop; subst hop
      simp only [aop] at h
      split at h <;> try (cases h; done)
      · rename_i k m r hvs
        split at h <;> try (cases h; done)
        rename_i y hy
        simp only [Option.some.injEq, Prod.mk.injEq] at h
        obtain ⟨rfl, rfl, rfl⟩ := h
        have hrel := opds_VR F hx hvs
        obtain ⟨u, us, e, h1, h2⟩ := hrel.of_cons
        obtain ⟨v', e1, e2⟩ := mxmn_fold (P := P) true h1 h2 hy Γ.w
        have hargs : (args.map a.eval).toList = u :: us := by simpa using e
        exact still s (by simp only [execOp, resolve, Sem.run_bind, Sem.run_pure, Result.andThen_ok, invoke, builtin, Builtin.max_, hargs]; simp only [if_true] at e1; rw [e1]; rfl) e2
      · rename_i m r hvs
        split at h <;> try (cases h; done)
        rename_i y hy
        simp only [Option.some.injEq, Prod.mk.injEq] at h
        obtain ⟨rfl, rfl, rfl⟩ := h
        have hrel := opds_VR F hx hvs
        obtain ⟨u, us, e, h1, h2⟩ := hrel.of_cons
        obtain ⟨v', e1, e2⟩ := mxStr_fold (P := P) true h1 h2 hy Γ.w
        have hargs : (args.map a.eval).toList = u :: us := by simpa using e
        exact still s (by simp only [execOp, resolve, Sem.run_bind, Sem.run_pure, Result.andThen_ok, invoke, builtin, Builtin.max_, hargs]; simp only [if_true] at e1; rw [e1]; rfl) e2
    · -- min
      rename_i xs hx
      simp only [Option.some.injEq] at hop; subst hop
      simp only [aop] at h
      split at h <;> try (cases h; done)
      · rename_i k m r hvs
        split at h <;> try (cases h; done)
        rename_i y hy
        simp only [Option.some.injEq, Prod.mk.injEq] at h
        obtain ⟨rfl, rfl, rfl⟩ := h
        have hrel := opds_VR F hx hvs
        obtain ⟨u, us, e, h1, h2⟩ := hrel.of_cons
        obtain ⟨v', e1, e2⟩ := mxmn_fold (P := P) false h1 h2 hy Γ.w
        have hargs : (args.map a.eval).toList = u :: us := by simpa using e
        exact still s (by simp only [execOp, resolve, Sem.run_bind, Sem.run_pure, Result.andThen_ok, invoke, builtin, Builtin.min_, hargs]; simp only [Bool.false_eq_true, if_false] at e1; rw [e1]; rfl) e2
      · rename_i m r hvs
        split at h <;> try (cases h; done)
        rename_i y hy
        simp only [Option.some.injEq, Prod.mk.injEq] at h
        obtain ⟨rfl, rfl, rfl⟩ := h
        have hrel := opds_VR F hx hvs
        obtain ⟨u, us, e, h1, h2⟩ := hrel.of_cons
        obtain ⟨v', e1, e2⟩ := mxStr_fold (P := P) false h1 h2 hy Γ.w
        have hargs : (args.map a.eval).toList = u :: us := by simpa using e
        exact still s (by simp only [execOp, resolve, Sem.run_bind, Sem.run_pure, Result.andThen_ok, invoke, builtin, Builtin.min_, hargs]; simp only [Bool.false_eq_true, if_false] at e1; rw [e1]; rfl) e2
    · -- append
      rename_i x y hxy
      split at hop <;> try (cases hop; done)
      rename_i t u ht hu
      split at hop
      · cases hop
      · rename_i htu
        have htu : t = u := by simpa using htu
        subst htu
        split at hop <;> try (cases hop; done)
        rename_i e _ hue _
        split at hop <;> try (cases hop; done)
        rename_i ie hie
        split at hop <;> try (cases hop; done)
        rename_i z hz
        split at hop <;> try (cases hop; done)
        rename_i hzc
        simp only [Option.some.injEq] at hop; subst hop
        simp only [aop] at h
        split at h <;> try (cases h; done)
        rename_i xv yv hxv hyv
        split at h <;> try (cases h; done)
        rename_i news hsrc
        split at h <;> try (cases h; done)
        rename_i news' H1 hfz
        split at h <;> try (cases h; done)
        rename_i hszd
        split at h <;> try (cases h; done)
        rename_i r H2 tc2 happ
        simp only [Option.some.injEq, Prod.mk.injEq] at h
        obtain ⟨rfl, rfl, rfl⟩ := h
        have hrel := opds_VR F hxy (vs := [xv, yv]) (by simp [evs, hxv, hyv])
        obtain ⟨xu, r1, er, hx1, hr1⟩ := hrel.of_cons
        obtain ⟨yu, r2, er2, hy1, hr2⟩ := hr1.of_cons
        have := hr2.of_nil; subst this
        subst er2
        have hargs : args.map a.eval = #[xu, yu] := by
          apply Array.ext'
          simpa using er
        have hat : Builtin.append_ argTypes ty #[xu, yu] = Builtin.append_ #[t, t] ty #[xu, yu] := by
          unfold Builtin.append_
          simp only [ht, hu]
          rfl
        obtain ⟨ya, n, cap, us, rfl, src⟩ := asrc_sound s hsrc hy1
        obtain ⟨Δ, g, gw, gn, gρ, gv, hvr', ho', _, hlen⟩ := (frz_sound base bar 8).2 _ _ _ _ _ _ hfz s src.rel
        have src' : Src Δ ie.size news' us ya n := ⟨hvr', ho' src.one, src.len, by rw [gw]; exact src.cell, src.none⟩
        have hsz0 : ie.size ≠ 0 := fun h0 => hszd (.inl h0)
        obtain ⟨Θ, v', e1, e2, g2⟩ := append_sound (P := P) (ty := ty) (base := base) (bar := bar) g.sim (by rw [hlen]; exact hbase) (by rw [hlen]; exact hbar) hue hie hz hzc.1 hzc.2 hsz0 (hx1.mono g.evo) (c := cap) src' happ
        rw [gw] at e1
        refine ⟨Θ, v', .value ?_, e2, ?_⟩
        · simp only [execOp, resolve, Sem.run_bind, Sem.run_pure, Result.andThen_ok, invoke, builtin, hargs, hat, e1]
        · split
          · rename_i hnv
            obtain ⟨rfl, rfl⟩ := (frz_noVec 8 bar).2 _ _ _ _ hnv hfz
            have hg := g.trans g2
            exact ⟨hg.sim, hg.evo, hg.wf, hg.bar, g2.tc, hg.len⟩
          · exact (g.trans g2).any (fun i _ hi => by simpa using hi)
end Go.Ab
