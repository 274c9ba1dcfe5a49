/-
  Part of the proved evaluator, or answers that it computed.
-/
import Derived.Test.YtihdlpeghlhnoaaGreatDoorAbApp
import Derived.ChangeKeysEq
import Derived.Laws.StructEq
import Derived.Laws.Small
set_option linter.all false
namespace Go.Ab
variable {P : Program}

/-! ## arithmetic -/
theorem bin_sound {Γ : Ctx} {op : BinOp} (h1 : op ≠ .eql) (h2 : op ≠ .neq) (t : TypeId) {x y v : AV} {xu yu : Value} (hx : VR Γ x xu) (hy : VR Γ y yu) (h : abin op x y = some v) (w : World) :
    ∃ v', (binOp op t xu yu).run P w = .ok v' w ∧ VR Γ v v' := by
  cases hx <;> cases hy <;> simp only [abin, reduceCtorEq] at h
  · rename_i k n k' m
    cases op <;> simp only at h <;> try (exact absurd rfl h1) <;> try (exact absurd rfl h2)
    all_goals first
      | (split at h
         · cases h
         · rename_i hb
           simp only [Option.some.injEq] at h; subst h
           refine ⟨_, ?_, .int _ _⟩
           simp [binOp, Op.shift, hb]; done)
      | (split at h
         · rename_i hk; subst hk
           simp only [binInt] at h
           first
             | (simp only [Option.some.injEq] at h; subst h
                refine ⟨_, ?_, by constructor⟩
                simp [binOp, Op.intArith, Op.intBits, Op.intCmp]; done)
             | (split at h
                · cases h
                · rename_i hb
                  simp only [Option.some.injEq] at h; subst h
                  refine ⟨_, ?_, by constructor⟩
                  simp [binOp, Op.intDiv, hb]; done)
         · cases h)
  · cases op <;> simp only [reduceCtorEq] at h
    all_goals first
      | (simp only [Option.some.injEq] at h; subst h
         refine ⟨_, ?_, by constructor⟩
         simp [binOp, Op.stringOp]; done)
      | (split at h
         · cases h
         · rename_i hb
           simp only [Option.some.injEq] at h; subst h
           refine ⟨_, ?_, by constructor⟩
           rw [show IntKind.i64.max = 9223372036854775807 from by decide] at hb
           simp [binOp, Op.stringOp]
           omega)

theorem eqGuard_plain {op : BinOp} (h1 : op ≠ .eql) (h2 : op ≠ .neq) (t : TypeId) (x y : Operand) (a b : Value) (w : World) : (eqGuard op t x y a b).run P w = .ok () w := by
  cases op <;> first | (exact absurd rfl h1) | (exact absurd rfl h2) | simp [eqGuard]

theorem un_sound {Γ : Ctx} {op : UnOp} {x v : AV} {xu : Value} (hx : VR Γ x xu) (h : aun op x = some v) (w : World) : ∃ v', (Op.unary op xu).run P w = .ok v' w ∧ VR Γ v v' := by
  cases hx <;> cases op <;> simp only [aun, reduceCtorEq] at h <;> simp only [Option.some.injEq] at h <;> subst h <;> exact ⟨_, rfl, by constructor⟩

theorem conv_sound {Γ : Ctx} {s d : TypeId} {k ks : IntKind} (hs : P.underlying s = some (.int ks)) (hd : P.underlying d = some (.int k)) (k' : IntKind) (n : Int) (w : World) :
    ∃ v', (convert s d (.int k' n)).run P w = .ok v' w ∧ VR Γ (.int k (k.wrap n)) v' := by
  refine ⟨.int k (k.wrap n), ?_, .int _ _⟩
  simp [convert, run_underlying hs, run_underlying hd, Conv.intToInt]

/-! ## equality -/
theorem cellT_false {t : TypeId} (h : cellT P t = some false) : ∃ k, P.underlying t = some (.int k) := by
  unfold cellT at h
  split at h <;> simp_all
theorem cellT_true {t : TypeId} (h : cellT P t = some true) : P.underlying t = some .bool := by
  unfold cellT at h
  split at h <;> simp_all

theorem eqCell_sound {Γ : Ctx} {t : TypeId} {b : Bool} (ht : cellT P t = some b) (d : Nat) {x y : AV} {xu yu : Value} {r : Bool} (hx : VR Γ x xu) (hy : VR Γ y yu) (h : eqCell b x y = some r) (w : World) :
    (Op.equalIn (d + 1) t xu yu).run P w = .ok r w := by
  cases b with
  | false =>
    obtain ⟨k0, hu⟩ := cellT_false ht
    cases hx <;> cases hy <;> simp only [eqCell, reduceCtorEq] at h
    split at h
    · rename_i hk; subst hk
      simp only [Option.some.injEq] at h; subst h
      exact run_equalIn_int w d t _ k0 _ _ hu
    · cases h
  | true =>
    have hu := cellT_true ht
    cases hx <;> cases hy <;> simp only [eqCell, reduceCtorEq] at h
    simp only [Option.some.injEq] at h; subst h
    exact run_equalIn_bool w d t _ _ hu

theorem part_cell {t : TypeId} {b : Bool} (ht : cellT P t = some b) {vs : Array Value} {i : Nat} {v : Value} (h : vs[i]? = some v) (w : World) : (Go.part t vs i).run P w = .ok v w := by
  cases b with
  | false => obtain ⟨k, hu⟩ := cellT_false ht; simp [Go.part, isAgg, run_underlying hu, h]
  | true => have hu := cellT_true ht; simp [Go.part, isAgg, run_underlying hu, h]

theorem eqItems_sound {Γ : Ctx} {e : TypeId} {b : Bool} (ht : cellT P e = some b) (d : Nat) {vs us : Array Value} (w : World) : ∀ (n k : Nat) (xs ys : List AV) (r : Bool),
    (∀ i c, xs[i]? = some c → ∃ v, vs[k + i]? = some v ∧ VR Γ c v) → (∀ i c, ys[i]? = some c → ∃ v, us[k + i]? = some v ∧ VR Γ c v) → eqCells (List.replicate n b) xs ys = some r →
    (Op.eqItems (d + 1) e 1 vs us (List.range' k n)).run P w = .ok r w
  | 0, k, xs, ys, r, _, _, h => by
    cases xs <;> cases ys <;> simp [eqCells] at h
    subst h; simp [Op.eqItems]
  | n + 1, k, xs, ys, r, hx, hy, h => by
    cases xs with
    | nil => cases ys <;> simp [eqCells, List.replicate_succ] at h
    | cons x xs =>
      cases ys with
      | nil => simp [eqCells, List.replicate_succ] at h
      | cons y ys =>
        simp only [List.replicate_succ, eqCells] at h
        obtain ⟨v, hv, hxv⟩ := hx 0 x (by simp)
        obtain ⟨u, hu, hyu⟩ := hy 0 y (by simp)
        simp only [Nat.add_zero] at hv hu
        have p1 := part_cell ht hv w
        have p2 := part_cell ht hu w
        simp only [List.range'_succ, Op.eqItems, Nat.mul_one, Sem.run_bind, p1, p2, Result.andThen_ok]
        split at h
        · rename_i hc
          rw [eqCell_sound ht d hxv hyu hc w]
          simp only [Result.andThen_ok, Bool.not_true, Bool.false_eq_true, if_false]
          exact eqItems_sound ht d w n (k + 1) xs ys r (fun i c hc => by
            have := hx (i + 1) c (by simpa using hc)
            rwa [show k + (i + 1) = k + 1 + i from by omega] at this) (fun i c hc => by
            have := hy (i + 1) c (by simpa using hc)
            rwa [show k + (i + 1) = k + 1 + i from by omega] at this) h
        · rename_i hc
          rw [eqCell_sound ht d hxv hyu hc w]
          simp only [Option.some.injEq] at h; subst h
          simp
        · cases h

theorem eqFields_sound {Γ : Ctx} (d : Nat) {vs us : Array Value} (w : World) : ∀ (fs : List Field) (k : Nat) (ks : List Bool) (xs ys : List AV) (r : Bool), cellTs P k fs = some ks →
    (∀ i c, xs[i]? = some c → ∃ v, vs[k + i]? = some v ∧ VR Γ c v) → (∀ i c, ys[i]? = some c → ∃ v, us[k + i]? = some v ∧ VR Γ c v) → eqCells ks xs ys = some r →
    (Op.eqFields (d + 1) vs us fs).run P w = .ok r w
  | [], k, ks, xs, ys, r, hk, _, _, h => by
    simp [cellTs] at hk; subst hk
    cases xs <;> cases ys <;> simp [eqCells] at h
    subst h; simp [Op.eqFields]
  | f :: fs, k, ks, xs, ys, r, hk, hx, hy, h => by
    simp only [cellTs] at hk
    split at hk
    · rename_i b l hb hl
      split at hk
      · rename_i hn
        obtain ⟨hn, ho⟩ := hn
        simp only [Option.some.injEq] at hk; subst hk
        cases xs with
        | nil => cases ys <;> simp [eqCells] at h
        | cons x xs =>
          cases ys with
          | nil => simp [eqCells] at h
          | cons y ys =>
            simp only [eqCells] at h
            obtain ⟨v, hv, hxv⟩ := hx 0 x (by simp)
            obtain ⟨u, hu, hyu⟩ := hy 0 y (by simp)
            simp only [Nat.add_zero] at hv hu
            have p1 := part_cell hb hv w
            have p2 := part_cell hb hu w
            simp only [Op.eqFields, hn, ne_eq, not_false_eq_true, if_true, ho, Sem.run_bind, p1, p2, Result.andThen_ok]
            split at h
            · rename_i hc
              rw [eqCell_sound hb d hxv hyu hc w]
              simp only [Result.andThen_ok, Bool.not_true, Bool.false_eq_true, if_false]
              exact eqFields_sound d w fs (k + 1) l xs ys r hl (fun i c hc => by
                have := hx (i + 1) c (by simpa using hc)
                rwa [show k + (i + 1) = k + 1 + i from by omega] at this) (fun i c hc => by
                have := hy (i + 1) c (by simpa using hc)
                rwa [show k + (i + 1) = k + 1 + i from by omega] at this) h
            · rename_i hc
              rw [eqCell_sound hb d hxv hyu hc w]
              simp only [Option.some.injEq] at h; subst h
              simp
            · cases h
      · cases hk
    · cases hk

theorem eq_fin {t : TypeId} {xu yu : Value} {r : Bool} {w : World} {xo yo : Operand} (hr : (Op.equalIn 10000 t xu yu).run P w = .ok r w) (h1 : (eqGuard .eql t xo yo xu yu).run P w = .ok () w) (h2 : (eqGuard .neq t xo yo xu yu).run P w = .ok () w)
    (e1 : binOp .eql t xu yu = do pure (.bool (← Op.equal t xu yu))) (e2 : binOp .neq t xu yu = do pure (.bool (!(← Op.equal t xu yu)))) :
    ((do eqGuard .eql t xo yo xu yu; binOp .eql t xu yu : Sem Value)).run P w = .ok (.bool r) w ∧ ((do eqGuard .neq t xo yo xu yu; binOp .neq t xu yu : Sem Value)).run P w = .ok (.bool (!r)) w := by
  rw [e1, e2]
  simp only [Sem.run_bind, h1, h2, Result.andThen_ok, Op.equal, Op.maxDepth, hr, Sem.run_pure, and_self]

theorem nilS_sound {Γ : Ctx} {t : TypeId} {e : TypeId} (hu : P.underlying t = some (.slice e)) (d : Nat) {x y : AV} {xu yu : Value} {r : Bool} (hx : VR Γ x xu) (hy : VR Γ y yu) (h : aeq .nilS x y = some r) (w : World) :
    (Op.equalIn (d + 1) t xu yu).run P w = .ok r w := by
  cases hx <;> cases hy <;> simp only [aeq, reduceCtorEq] at h <;> (simp only [Option.some.injEq] at h; subst h; simp [Op.equalIn, run_underlying hu])

theorem nilM_sound {Γ : Ctx} {t : TypeId} {e e1 : TypeId} (hu : P.underlying t = some (.map e e1)) (d : Nat) {x y : AV} {xu yu : Value} {r : Bool} (hx : VR Γ x xu) (hy : VR Γ y yu) (h : aeq .nilM x y = some r) (w : World) :
    (Op.equalIn (d + 1) t xu yu).run P w = .ok r w := by
  cases hx <;> cases hy <;> simp only [aeq, reduceCtorEq] at h <;> (simp only [Option.some.injEq] at h; subst h; simp [Op.equalIn, run_underlying hu])

theorem nilF_sound {Γ : Ctx} {t : TypeId} {p q : Array TypeId} {b : Bool} (hu : P.underlying t = some (.func p q b)) (d : Nat) {x y : AV} {xu yu : Value} {r : Bool} (hx : VR Γ x xu) (hy : VR Γ y yu) (h : aeq .nilF x y = some r) (w : World) :
    (Op.equalIn (d + 1) t xu yu).run P w = .ok r w := by
  cases hx <;> cases hy <;> simp only [aeq, reduceCtorEq] at h <;> (simp only [Option.some.injEq] at h; subst h; simp [Op.equalIn, run_underlying hu])

theorem nilI_sound {Γ : Ctx} {t : TypeId} {ms : Array (String × TypeId)} (hu : P.underlying t = some (.interface ms)) (d : Nat) {x y : AV} {xu yu : Value} {r : Bool} (hx : VR Γ x xu) (hy : VR Γ y yu) (h : aeq .nilI x y = some r) (w : World) :
    (Op.equalIn (d + 1) t xu yu).run P w = .ok r w := by
  cases hx <;> cases hy <;> simp only [aeq, reduceCtorEq] at h <;> (simp only [Option.some.injEq] at h; subst h; simp [Op.equalIn, run_underlying hu])

theorem ptr_sound {Γ : Ctx} {t : TypeId} {e : TypeId} (hu : P.underlying t = some (.pointer e)) (d : Nat) {x y : AV} {xu yu : Value} {r : Bool} (hx : VR Γ x xu) (hy : VR Γ y yu) (h : aeq .ptr x y = some r) (w : World) :
    (Op.equalIn (d + 1) t xu yu).run P w = .ok r w := by
  cases hx <;> cases hy <;> simp only [aeq, reduceCtorEq] at h <;> (simp only [Option.some.injEq] at h; subst h; simp [Op.equalIn, run_underlying hu])

theorem guardIn_any {t : TypeId} {ms : Array (String × TypeId)} (hu : P.underlying t = some (.interface ms)) (hms : ms.isEmpty = true) (d : Nat) (w : World) :
    (Op.eqGuardIn (d + 1) t .nilIface .nilIface).run P w = .ok false w := by
  simp [Op.eqGuardIn, run_underlying hu, hms]

/-- '==' and '!=' at a type -/
theorem eq_sound {Γ : Ctx} {t : TypeId} {k : EK} (hk : ekOf P t = some k) {x y : AV} {xu yu : Value} {r : Bool} (hx : VR Γ x xu) (hy : VR Γ y yu) (h : aeq k x y = some r) (xo yo : Operand) (w : World) :
    ((do eqGuard .eql t xo yo xu yu; binOp .eql t xu yu : Sem Value)).run P w = .ok (.bool r) w ∧ ((do eqGuard .neq t xo yo xu yu; binOp .neq t xu yu : Sem Value)).run P w = .ok (.bool (!r)) w := by
  unfold ekOf at hk
  split at hk <;> try (cases hk; done)
  all_goals rename_i hu
  · -- bool
    simp only [Option.some.injEq] at hk; subst hk
    simp only [aeq] at h
    have hc : cellT P t = some true := by simp [cellT, hu]
    have hr := eqCell_sound hc 9999 hx hy h w
    cases hx <;> cases hy <;> simp only [eqCell, reduceCtorEq] at h
    exact eq_fin hr (by simp [eqGuard]) (by simp [eqGuard]) rfl rfl
  · simp only [Option.some.injEq] at hk; subst hk
    simp only [aeq] at h
    cases hx <;> cases hy <;> simp only [eqCell, reduceCtorEq] at h
    split at h
    · rename_i hk; subst hk
      simp only [Option.some.injEq] at h; subst h
      simp [eqGuard, binOp, Op.intCmp]; rfl
    · cases h
  · simp only [Option.some.injEq] at hk; subst hk
    cases hx <;> cases hy <;> simp only [aeq, reduceCtorEq] at h
    simp only [Option.some.injEq] at h; subst h
    simp [eqGuard, binOp, Op.stringOp]
  · simp only [Option.some.injEq] at hk; subst hk
    have hr := nilS_sound hu 9999 hx hy h w
    cases hx <;> cases hy <;> simp only [aeq, reduceCtorEq] at h <;> exact eq_fin hr (by simp [eqGuard]) (by simp [eqGuard]) rfl rfl
  · simp only [Option.some.injEq] at hk; subst hk
    have hr := nilM_sound hu 9999 hx hy h w
    cases hx <;> cases hy <;> simp only [aeq, reduceCtorEq] at h <;> exact eq_fin hr (by simp [eqGuard]) (by simp [eqGuard]) rfl rfl
  · simp only [Option.some.injEq] at hk; subst hk
    have hr := nilF_sound hu 9999 hx hy h w
    cases hx <;> cases hy <;> simp only [aeq, reduceCtorEq] at h <;> exact eq_fin hr (by simp [eqGuard]) (by simp [eqGuard]) rfl rfl
  · split at hk <;> try (cases hk; done)
    rename_i hms
    simp only [Option.some.injEq] at hk; subst hk
    have hr := nilI_sound hu 9999 hx hy h w
    have h2 : (Op.eqGuardIn Op.maxDepth t .nilIface .nilIface).run P w = .ok false w := guardIn_any hu hms 9999 w
    have hg : ∀ op xo yo, (eqGuard op t xo yo .nilIface .nilIface).run P w = .ok () w := fun op xo yo => by
      simp [eqGuard, h2]
    cases hx <;> cases hy <;> simp only [aeq, reduceCtorEq] at h
    · exact eq_fin hr (hg _ _ _) (hg _ _ _) rfl rfl
    · exact eq_fin hr (by simp [eqGuard]) (by simp [eqGuard]) rfl rfl
    · exact eq_fin hr (by simp [eqGuard]) (by simp [eqGuard]) rfl rfl
  · simp only [Option.some.injEq] at hk; subst hk
    have hr := ptr_sound hu 9999 hx hy h w
    cases hx <;> cases hy <;> simp only [aeq, reduceCtorEq] at h <;> exact eq_fin hr (by simp [eqGuard]) (by simp [eqGuard]) rfl rfl
  · -- an array
    rename_i n e
    split at hk
    · rename_i b i hb hi
      split at hk
      · rename_i hc
        simp only [Option.some.injEq] at hk; subst hk
        cases hx <;> cases hy <;> simp only [aeq, reduceCtorEq] at h
        rename_i xs vs hl h1 hv ys us hl' h1' hv'
        have hsz : P.cellsOf e = 1 := by simp [Program.cellsOf, hi, hc.1]
        have hr : (Op.equalIn 10000 t (.agg vs) (.agg us)).run P w = .ok r w := by
          rw [run_equalIn_array w 9999 vs us hu hi, hsz, List.range_eq_range']
          exact eqItems_sound hb 9998 w n 0 xs ys r (fun i c hc => by
            have hi : i < xs.length := (List.getElem?_eq_some_iff.1 hc).1
            have hg : vs[i]? = some (vs[i]'(hl ▸ hi)) := Array.getElem?_eq_getElem _
            exact ⟨_, by rw [Nat.zero_add]; exact hg, hv i c _ hc hg⟩) (fun i c hc => by
            have hi : i < ys.length := (List.getElem?_eq_some_iff.1 hc).1
            have hg : us[i]? = some (us[i]'(hl' ▸ hi)) := Array.getElem?_eq_getElem _
            exact ⟨_, by rw [Nat.zero_add]; exact hg, hv' i c _ hc hg⟩) h
        simp [run_eqGuard_agg w _ _ _ _ _ _ hc.2, run_eql_struct, run_neq_struct, hr]
      · cases hk
    · cases hk
  · -- a struct
    rename_i fs
    split at hk
    · rename_i hc
      cases hks : cellTs P 0 fs.toList with
      | none => simp [hks] at hk
      | some ks =>
        simp only [hks, Option.map_some, Option.some.injEq] at hk; subst hk
        cases hx <;> cases hy <;> simp only [aeq, reduceCtorEq] at h
        rename_i xs vs hl h1 hv ys us hl' h1' hv'
        have hf : P.fieldsOf t = fs := by simp [Program.fieldsOf, hu]
        have hr : (Op.equalIn 10000 t (.agg vs) (.agg us)).run P w = .ok r w := by
          rw [run_equalIn_struct w 9999 t vs us (by rw [hf]; exact hu) hc.2, hf]
          exact eqFields_sound 9998 w fs.toList 0 ks xs ys r hks (fun i c hc => by
            have hi : i < xs.length := (List.getElem?_eq_some_iff.1 hc).1
            have hg : vs[i]? = some (vs[i]'(hl ▸ hi)) := Array.getElem?_eq_getElem _
            exact ⟨_, by rw [Nat.zero_add]; exact hg, hv i c _ hc hg⟩) (fun i c hc => by
            have hi : i < ys.length := (List.getElem?_eq_some_iff.1 hc).1
            have hg : us[i]? = some (us[i]'(hl' ▸ hi)) := Array.getElem?_eq_getElem _
            exact ⟨_, by rw [Nat.zero_add]; exact hg, hv' i c _ hc hg⟩) h
        simp [run_eqGuard_agg w _ _ _ _ _ _ hc.1, run_eql_struct, run_neq_struct, hr]
    · cases hk


/-- what '==' does at structs and arrays of cells -/
theorem flat_equal {Γ : Ctx} {t : TypeId} {ks : List Bool} (hk : ekOf P t = some (.flat ks)) {xs ys : List AV} {xu yu : Value} {r : Bool} (hx : VR Γ (.agg xs) xu) (hy : VR Γ (.agg ys) yu) (h : eqCells ks xs ys = some r) (w : World) :
    (Op.equal t xu yu).run P w = .ok r w := by
  unfold ekOf at hk
  split at hk <;> try (cases hk; done)
  · split at hk <;> cases hk
  · -- an array
    rename_i n e hu
    split at hk
    · rename_i b i hb hi
      split at hk
      · rename_i hc
        simp only [Option.some.injEq, EK.flat.injEq] at hk; subst hk
        cases hx; cases hy
        rename_i vs hl h1 hv us hl' h1' hv'
        have hsz : P.cellsOf e = 1 := by simp [Program.cellsOf, hi, hc.1]
        rw [Op.equal, Op.maxDepth, run_equalIn_array w 9999 vs us hu hi, hsz, List.range_eq_range']
        exact eqItems_sound hb 9998 w n 0 xs ys r (fun i c hc => by
          have hi : i < xs.length := (List.getElem?_eq_some_iff.1 hc).1
          have hg : vs[i]? = some (vs[i]'(hl ▸ hi)) := Array.getElem?_eq_getElem _
          exact ⟨_, by rw [Nat.zero_add]; exact hg, hv i c _ hc hg⟩) (fun i c hc => by
          have hi : i < ys.length := (List.getElem?_eq_some_iff.1 hc).1
          have hg : us[i]? = some (us[i]'(hl' ▸ hi)) := Array.getElem?_eq_getElem _
          exact ⟨_, by rw [Nat.zero_add]; exact hg, hv' i c _ hc hg⟩) h
      · cases hk
    · cases hk
  · -- a struct
    rename_i fs hu
    split at hk
    · rename_i hc
      cases hks : cellTs P 0 fs.toList with
      | none => simp [hks] at hk
      | some ks' =>
        simp only [hks, Option.map_some, Option.some.injEq, EK.flat.injEq] at hk; subst hk
        cases hx; cases hy
        rename_i vs hl h1 hv us hl' h1' hv'
        have hf : P.fieldsOf t = fs := by simp [Program.fieldsOf, hu]
        rw [Op.equal, Op.maxDepth, run_equalIn_struct w 9999 t vs us (by rw [hf]; exact hu) hc.2, hf]
        exact eqFields_sound 9998 w fs.toList 0 ks' xs ys r hks (fun i c hc => by
          have hi : i < xs.length := (List.getElem?_eq_some_iff.1 hc).1
          have hg : vs[i]? = some (vs[i]'(hl ▸ hi)) := Array.getElem?_eq_getElem _
          exact ⟨_, by rw [Nat.zero_add]; exact hg, hv i c _ hc hg⟩) (fun i c hc => by
          have hi : i < ys.length := (List.getElem?_eq_some_iff.1 hc).1
          have hg : us[i]? = some (us[i]'(hl' ▸ hi)) := Array.getElem?_eq_getElem _
          exact ⟨_, by rw [Nat.zero_add]; exact hg, hv' i c _ hc hg⟩) h
    · cases hk

end Go.Ab
