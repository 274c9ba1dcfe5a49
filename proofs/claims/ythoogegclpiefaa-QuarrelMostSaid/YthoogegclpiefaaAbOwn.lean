/-
  A list under construction: rules for append, freezing and return.
-/
import Derived.Test.YthoogegclpiefaaAbWs
set_option linter.all false
namespace Go.Ab
variable {env : Env} {base bar : Nat} {fr : Frame} {H : Heap} {pure : Bool} {K : AV → Heap → List Nat → Prop}

/-- append, of operands that are known -/
def appWp (base bar sz bytes : Nat) (x y : Option AV) (H : Heap) (K : AV → Heap → List Nat → Prop) : Prop :=
  match x with
  | none => False
  | some x => match y with
    | none => False
    | some y => match asrc H sz y with
      | none => False
      | some news => match frzAll bar H news with
        | none => False
        | some (news', H') => if sz = 0 ∨ ¬ sz ∣ news.length then False else match aappend base bar H' sz bytes x news' with
          | none => False
          | some (v, H'', tc) => K v H'' (if AV.noVec.noVecs news then tc else List.range H.length)

theorem wpop_app {sz bytes : Nat} {x y : Opd} : WpOp env pure base bar (.append sz bytes x y) fr H K ↔ appWp base bar sz bytes (x.ev fr) (y.ev fr) H K := by
  rw [wpop_append]
  simp only [opWp, aop, appWp]
  cases x.ev fr with
  | none => simp
  | some x =>
    cases y.ev fr with
    | none => simp
    | some y =>
      simp only
      cases asrc H sz y with
      | none => simp
      | some news =>
        simp only
        cases frzAll bar H news with
        | none => simp
        | some p =>
          obtain ⟨n1, H1⟩ := p
          simp only
          by_cases hc : sz = 0 ∨ ¬ sz ∣ news.length
          · simp only [if_pos hc]
          · simp only [if_neg hc]
            cases aappend base bar H1 sz bytes x n1 with
            | none => simp
            | some q => obtain ⟨a, b, c⟩ := q; simp

@[congr] theorem appWp_congr {sz bytes : Nat} {x x' y y' : Option AV} {H' : Heap} (h : x = x') (h2 : y = y') (hH : H = H') : appWp base bar sz bytes x y H K = appWp base bar sz bytes x' y' H' K := by rw [h, h2, hH]

/-- what freezing leaves as it is -/
def Plain (c : AV) : Prop := ∀ d bar H, frz (d + 2) bar H c = some (c, H)

theorem Plain.int {k : IntKind} {n : Int} : Plain (.int k n) := fun _ _ _ => rfl
theorem Plain.bool {b : Bool} : Plain (.bool b) := fun _ _ _ => rfl
theorem Plain.str {b : ByteArray} : Plain (.str b) := fun _ _ _ => rfl
theorem Plain.lst {sz : Nat} {ex : Bool} {xs : List AV} : Plain (.lst sz ex xs) := fun _ _ _ => rfl
theorem Plain.nils : Plain .nils := fun _ _ _ => rfl
theorem Plain.fp {x : AV} : Plain (.fp x) := fun _ _ _ => rfl

theorem plains {d : Nat} {l : List AV} (h : ∀ c ∈ l, Plain c) : frzsW (frz (d + 2) bar) H l = some (l, H) := frzsW_id fun x hx => h x hx _ _ _


/-- a list under construction, begun as nil: its cells, what was there before, the slot's value, and the heap -/
def Grow (sz : Nat) (cells : List AV) (H0 : Heap) (v : AV) (H : Heap) : Prop :=
  (cells = [] ∧ v = .nils ∧ H = H0) ∨ ∃ ver fz, cells ≠ [] ∧ fz ≤ cells.length ∧ v = .vec H0.length ver 0 (cells.length / sz) sz ∧ H = H0 ++ [.row ver cells fz false]

theorem Grow.nil {sz : Nat} : Grow sz [] H .nils H := .inl ⟨rfl, rfl, rfl⟩

theorem asrc_lst {sz : Nat} {ex : Bool} {xs : List AV} : asrc H sz (.lst sz ex xs) = some (xs.flatMap AV.cells) := by simp [asrc]

theorem setCells_end : ∀ {l news : List AV}, setCells (l ++ news) l.length news = l ++ news := by
  have : ∀ (news l r : List AV), setCells (l ++ news ++ r) l.length news = l ++ news ++ r := by
    intro news
    induction news with
    | nil => intro l r; rfl
    | cons x n ih =>
      intro l r
      have := ih (l ++ [x]) r
      simp only [setCells]
      rw [show (l ++ x :: n ++ r).set l.length x = l ++ x :: n ++ r by simp [List.set_append]]
      simpa using this
  intro l news
  simpa using this news l []

/-- append of a list that is known to one under construction -/
theorem Grow.app {sz bytes : Nat} {cells : List AV} {H0 : Heap} {v : AV} {ex : Bool} {xs : List AV} (g : Grow sz cells H0 v H) (hsz : 0 < sz)
    (hc : sz ∣ cells.length) (hp : ∀ c ∈ xs.flatMap AV.cells, Plain c) (hd : sz ∣ (xs.flatMap AV.cells).length) (hb : bar ≤ H0.length) (hbase : base ≤ H0.length)
    (hlen : ((cells ++ xs.flatMap AV.cells).length / sz) * bytes ≤ 140737488355328)
    (h : ∀ v' H' tc, Grow sz (cells ++ xs.flatMap AV.cells) H0 v' H' → K v' H' tc) : appWp base bar sz bytes (some v) (some (.lst sz ex xs)) H K := by
  simp only [appWp, asrc_lst, frzAll, frz.frzs]
  rw [plains (d := 6) hp]
  simp only
  rw [if_neg (by omega)]
  generalize hn : xs.flatMap AV.cells = news at *
  have hdiv : (cells ++ news).length / sz = cells.length / sz + news.length / sz := by
    obtain ⟨a, ha⟩ := hc; obtain ⟨b, hb⟩ := hd
    rw [List.length_append, ha, hb, ← Nat.mul_add, Nat.mul_div_cancel_left _ hsz, Nat.mul_div_cancel_left _ hsz, Nat.mul_div_cancel_left _ hsz]
  rcases g with ⟨rfl, rfl, rfl⟩ | ⟨ver, fz, hne, hfz, rfl, rfl⟩
  · simp only [aappend]
    by_cases he : news = []
    · subst he
      simp only [List.isEmpty_nil, if_true]
      exact h _ _ _ (.inl ⟨rfl, rfl, rfl⟩)
    · rw [if_neg (by simpa using he)]
      rw [if_pos (by simpa using hlen)]
      simp only
      refine h _ _ _ (.inr ⟨0, 0, by simpa using he, by simp, ?_, by simp⟩)
      simp
  · simp only [aappend, if_neg (show ¬ sz ≠ sz by simp), own_get0, List.getElem?_cons_zero]
    obtain ⟨a, ha⟩ := hc
    have h1 : cells.length / sz * sz = cells.length := by rw [ha, Nat.mul_div_cancel_left _ hsz, Nat.mul_comm]
    rw [if_neg (by
      rw [h1]
      simp only [ne_eq, not_true_eq_false, Nat.zero_add, Nat.lt_irrefl, false_or, Nat.not_lt]
      rw [hdiv] at hlen; exact hlen)]
    by_cases he : news = []
    · subst he
      simp only [List.isEmpty_nil, if_true]
      refine h _ _ _ (.inr ⟨ver, fz, by simpa using hne, by simpa using hfz, by simp, by simp⟩)
    · rw [if_neg (by simpa using he)]
      have hpos : 0 < news.length := List.length_pos_iff.2 he
      rw [if_neg (by
        obtain ⟨b, hb2⟩ := hd
        rw [Nat.add_mul, h1, hb2, Nat.mul_div_cancel_left _ hsz, Nat.zero_add, Nat.mul_comm b sz, ← hb2]; omega)]
      simp only [Bool.false_eq_true, if_false]
      rw [if_pos ⟨trivial, by rw [h1]; exact hfz, hb, .inl hbase⟩]
      simp only
      refine h _ _ _ (.inr ⟨ver + 1, fz, by simp [hne], by simp; omega, ?_, ?_⟩)
      · rw [hdiv]
      · rw [h1]; simp

/-- a list as a call hands it out -/
def outL (sz : Nat) (cells : List AV) : AV := if cells = [] then .nils else .lst sz false (chunks sz (cells.length / sz) cells)

theorem frz_vec {d id ver off len sz fz : Nat} {ex : Bool} {cs xs : List AV} {H' : Heap} (h1 : H[id]? = some (.row ver cs fz ex)) (h2 : off + len * sz ≤ cs.length) (hb : bar ≤ id)
    (h3 : frzsW (frz d bar) (H.set id (.row ver cs (max fz (off + len * sz)) ex)) ((cs.drop off).take (len * sz)) = some (xs, H')) : frz (d + 1) bar H (.vec id ver off len sz) = some (.lst sz false (chunks sz len xs), H') := by
  simp only [frz, h1, h2, hb, and_self, if_true, h3]

/-- freezing what is under construction -/
theorem Grow.frz {sz d : Nat} {cells : List AV} {H0 : Heap} {v : AV} (g : Grow sz cells H0 v H) (hsz : 0 < sz) (hc : sz ∣ cells.length) (hp : ∀ c ∈ cells, Plain c) (hb : bar ≤ H0.length) :
    ∃ H', frz (d + 3) bar H v = some (outL sz cells, H') ∧ Grow sz cells H0 (if cells = [] then .nils else v) H' ∧ H'.length = H.length ∧ H'.take H0.length = H0 := by
  rcases g with ⟨rfl, rfl, rfl⟩ | ⟨ver, fz, hne, hfz, rfl, rfl⟩
  · exact ⟨H, rfl, .inl ⟨rfl, by simp, rfl⟩, rfl, List.take_length⟩
  · obtain ⟨a, ha⟩ := hc
    have h1 : cells.length / sz * sz = cells.length := by rw [ha, Nat.mul_div_cancel_left _ hsz, Nat.mul_comm]
    refine ⟨H0 ++ [.row ver cells (max fz (0 + cells.length / sz * sz)) false], ?_, ?_, by simp, by simp⟩
    · have e := frz_vec (d := d + 2) (bar := bar) (H := H0 ++ [.row ver cells fz false]) (id := H0.length) (ver := ver) (off := 0) (len := cells.length / sz) (sz := sz) (cs := cells) (fz := fz) (ex := false) (xs := cells)
        (H' := H0 ++ [.row ver cells (max fz (0 + cells.length / sz * sz)) false]) (by simp) (by omega) hb (by
          rw [h1, List.drop_zero, List.take_length, plains hp]; simp)
      rw [e]
      simp [outL, hne]
    · rw [if_neg hne]
      refine .inr ⟨ver, _, hne, ?_, rfl, rfl⟩
      omega
end Go.Ab
