/-
  Answers of calls, each computed by the proved evaluator, and kept on every heap.
-/
import Derived.Test.YtbkhffakhggdaaaDoorWorks
import Derived.Test.YtbkhffakhggdaaaDoorKp1
import Derived.Test.YtbkhffakhggdaaaDoorKp2
import Derived.Test.YtbkhffakhggdaaaDoorKp3
import Derived.Test.YtbkhffakhggdaaaDoorKp4
import Derived.Test.YtbkhffakhggdaaaDoorKp5
import Derived.KernelRfl
set_option linter.all false
namespace Go.Proofs.YtbkhffakhggdaaaDoor.Code
open Go Go.Ab
theorem call_25_4 : WpCall env false 0 0 25 [.int .i64 4] [] fun v H => v = v_25_4 ∧ H = [] := by
  refine (wpcall_of (env := env) (f := 25) (af := c25) rfl rfl fun _ _ => rfl).2 ?_
  refine ⟨by decide, rfl, ?_⟩
  show Wp env 0 0 c25.body s_25_4_0.fr s_25_4_0.H (retWp 0 0 0 c25.res _)
  refine Ab.wp_seq.2 (piece p_25_4_a ?_)
  refine Ab.wp_seq.2 (piece p_25_4_b ?_)
  refine Ab.wp_seq.2 (piece p_25_4_c ?_)
  refine Ab.wp_seq.2 (Ab.wp_seq.2 (piece p_25_4_d ?_))
  refine Ab.wp_block.2 ?_
  refine rounds_wp p_25_4_r0 ?_
  refine rounds_wp p_25_4_r1 ?_
  refine piece p_25_4_e ?_
  refine Ab.wp_seq.2 (piece p_25_4_f ?_)
  refine Ab.wp_seq.2 (piece p_25_4_g ?_)
  refine piece p_25_4_h ?_
  exact fin0 (Q := fun v H => v = v_25_4 ∧ H = []) p_25_4_v ⟨rfl, rfl⟩
theorem call_26_4 : WpCall env false 0 0 26 [.int .i64 4] [] fun v H => v = v_26_4 ∧ H = [] := by
  refine (wpcall_of (env := env) (f := 26) (af := c26) rfl rfl fun _ _ => rfl).2 ?_
  refine ⟨by decide, rfl, ?_⟩
  show Wp env 0 0 c26.body s_26_4_0.fr s_26_4_0.H (retWp 0 0 0 c26.res _)
  refine Ab.wp_seq.2 (piece p_26_4_a ?_)
  refine Ab.wp_seq.2 (piece p_26_4_b ?_)
  refine Ab.wp_seq.2 (piece p_26_4_c ?_)
  refine Ab.wp_seq.2 (piece p_26_4_d ?_)
  refine Ab.wp_seq.2 (Ab.wp_seq.2 (piece p_26_4_e ?_))
  refine Ab.wp_block.2 ?_
  refine rounds_wp p_26_4_r0 ?_
  refine rounds_wp p_26_4_r1 ?_
  refine piece p_26_4_f ?_
  refine piece p_26_4_g ?_
  exact fin0 (Q := fun v H => v = v_26_4 ∧ H = []) p_26_4_v ⟨rfl, rfl⟩
theorem call_25_5 : WpCall env false 0 0 25 [.int .i64 5] [] fun v H => v = v_25_5 ∧ H = [] := by
  refine (wpcall_of (env := env) (f := 25) (af := c25) rfl rfl fun _ _ => rfl).2 ?_
  refine ⟨by decide, rfl, ?_⟩
  show Wp env 0 0 c25.body s_25_5_0.fr s_25_5_0.H (retWp 0 0 0 c25.res _)
  refine Ab.wp_seq.2 (piece p_25_5_a ?_)
  refine Ab.wp_seq.2 (piece p_25_5_b ?_)
  refine Ab.wp_seq.2 (piece p_25_5_c ?_)
  refine Ab.wp_seq.2 (Ab.wp_seq.2 (piece p_25_5_d ?_))
  refine Ab.wp_block.2 ?_
  refine rounds_wp p_25_5_r0 ?_
  refine rounds_wp p_25_5_r1 ?_
  refine rounds_wp p_25_5_r2 ?_
  refine rounds_wp p_25_5_r3 ?_
  refine piece p_25_5_e ?_
  refine Ab.wp_seq.2 (piece p_25_5_f ?_)
  refine Ab.wp_seq.2 (piece p_25_5_g ?_)
  refine piece p_25_5_h ?_
  exact fin0 (Q := fun v H => v = v_25_5 ∧ H = []) p_25_5_v ⟨rfl, rfl⟩
theorem call_26_5 : WpCall env false 0 0 26 [.int .i64 5] [] fun v H => v = v_26_5 ∧ H = [] := by
  refine (wpcall_of (env := env) (f := 26) (af := c26) rfl rfl fun _ _ => rfl).2 ?_
  refine ⟨by decide, rfl, ?_⟩
  show Wp env 0 0 c26.body s_26_5_0.fr s_26_5_0.H (retWp 0 0 0 c26.res _)
  refine Ab.wp_seq.2 (piece p_26_5_a ?_)
  refine Ab.wp_seq.2 (piece p_26_5_b ?_)
  refine Ab.wp_seq.2 (piece p_26_5_c ?_)
  refine Ab.wp_seq.2 (piece p_26_5_d ?_)
  refine Ab.wp_seq.2 (Ab.wp_seq.2 (piece p_26_5_e ?_))
  refine Ab.wp_block.2 ?_
  refine rounds_wp p_26_5_r0 ?_
  refine rounds_wp p_26_5_r1 ?_
  refine rounds_wp p_26_5_r2 ?_
  refine rounds_wp p_26_5_r3 ?_
  refine piece p_26_5_f ?_
  refine piece p_26_5_g ?_
  exact fin0 (Q := fun v H => v = v_26_5 ∧ H = []) p_26_5_v ⟨rfl, rfl⟩
theorem call_25_6 : WpCall env false 0 0 25 [.int .i64 6] [] fun v H => v = v_25_6 ∧ H = [] := by
  refine (wpcall_of (env := env) (f := 25) (af := c25) rfl rfl fun _ _ => rfl).2 ?_
  refine ⟨by decide, rfl, ?_⟩
  show Wp env 0 0 c25.body s_25_6_0.fr s_25_6_0.H (retWp 0 0 0 c25.res _)
  refine Ab.wp_seq.2 (piece p_25_6_a ?_)
  refine Ab.wp_seq.2 (piece p_25_6_b ?_)
  refine Ab.wp_seq.2 (piece p_25_6_c ?_)
  refine Ab.wp_seq.2 (Ab.wp_seq.2 (piece p_25_6_d ?_))
  refine Ab.wp_block.2 ?_
  refine rounds_wp p_25_6_r0 ?_
  refine rounds_wp p_25_6_r1 ?_
  refine rounds_wp p_25_6_r2 ?_
  refine rounds_wp p_25_6_r3 ?_
  refine rounds_wp p_25_6_r4 ?_
  refine rounds_wp p_25_6_r5 ?_
  refine rounds_wp p_25_6_r6 ?_
  refine rounds_wp p_25_6_r7 ?_
  refine piece p_25_6_e ?_
  refine Ab.wp_seq.2 (piece p_25_6_f ?_)
  refine Ab.wp_seq.2 (piece p_25_6_g ?_)
  refine piece p_25_6_h ?_
  exact fin0 (Q := fun v H => v = v_25_6 ∧ H = []) p_25_6_v ⟨rfl, rfl⟩
theorem call_26_6 : WpCall env false 0 0 26 [.int .i64 6] [] fun v H => v = v_26_6 ∧ H = [] := by
  refine (wpcall_of (env := env) (f := 26) (af := c26) rfl rfl fun _ _ => rfl).2 ?_
  refine ⟨by decide, rfl, ?_⟩
  show Wp env 0 0 c26.body s_26_6_0.fr s_26_6_0.H (retWp 0 0 0 c26.res _)
  refine Ab.wp_seq.2 (piece p_26_6_a ?_)
  refine Ab.wp_seq.2 (piece p_26_6_b ?_)
  refine Ab.wp_seq.2 (piece p_26_6_c ?_)
  refine Ab.wp_seq.2 (piece p_26_6_d ?_)
  refine Ab.wp_seq.2 (Ab.wp_seq.2 (piece p_26_6_e ?_))
  refine Ab.wp_block.2 ?_
  refine rounds_wp p_26_6_r0 ?_
  refine rounds_wp p_26_6_r1 ?_
  refine rounds_wp p_26_6_r2 ?_
  refine rounds_wp p_26_6_r3 ?_
  refine rounds_wp p_26_6_r4 ?_
  refine rounds_wp p_26_6_r5 ?_
  refine rounds_wp p_26_6_r6 ?_
  refine rounds_wp p_26_6_r7 ?_
  refine piece p_26_6_f ?_
  refine piece p_26_6_g ?_
  exact fin0 (Q := fun v H => v = v_26_6 ∧ H = []) p_26_6_v ⟨rfl, rfl⟩
theorem noK : KnownOK Tryd.prog env := fun _ _ _ _ h => by cases h
theorem kept_e {f : FuncId} {args : List AV} {v : AV} (h : okv (acall env 200000 f args []) v = true) (ha : AV.top.tops args = 0) (hv : v.top = 0) : Kept Tryd.prog (f, args, v) :=
  kept (env := env) (funsOK rfl tableOK) noK mixed (okv_eq h) ha hv
theorem kept_w {f : FuncId} {args : List AV} {v : AV} (h : WpCall env false 0 0 f args [] fun u H => u = v ∧ H = []) (ha : AV.top.tops args = 0) (hv : v.top = 0) : Kept Tryd.prog (f, args, v) := by
  obtain ⟨n, u, H, h1, rfl, rfl⟩ := h
  exact kept (env := env) (funsOK rfl tableOK) noK mixed h1 ha hv
theorem kept47 {x : Nat} (hx : x < 64) : Kept Tryd.prog (47, [.int .i64 (x : Int)], dy x) := by
  have : e47 x = true := by
    by_cases h1 : x < 16
    · exact all_of e47_0 (by omega) (by omega)
    by_cases h2 : x < 32
    · exact all_of e47_16 (by omega) (by omega)
    by_cases h3 : x < 48
    · exact all_of e47_32 (by omega) (by omega)
    exact all_of e47_48 (by omega) (by omega)
  simp only [e47, Bool.and_eq_true] at this
  exact kept_e this.1 rfl (Nat.eq_of_beq_eq_true this.2)
theorem kept85 {n : Nat} (h1 : 1 ≤ n) (h6 : n ≤ 6) : Kept Tryd.prog (85, [.int .i64 (n : Int), .nils], al n) := by
  have : e85 n = true := by
    have : n = 1 ∨ n = 2 ∨ n = 3 ∨ n = 4 ∨ n = 5 ∨ n = 6 := by omega
    rcases this with rfl | rfl | rfl | rfl | rfl | rfl
    · exact all_of e85_1 (by omega) (by omega)
    · exact all_of e85_2 (by omega) (by omega)
    · exact all_of e85_3 (by omega) (by omega)
    · exact all_of e85_4 (by omega) (by omega)
    · exact all_of e85_5 (by omega) (by omega)
    · exact all_of e85_6 (by omega) (by omega)
  simp only [e85, Bool.and_eq_true] at this
  exact kept_e this.1 rfl (Nat.eq_of_beq_eq_true this.2)
theorem kept88 {n r : Nat} (h1 : 1 ≤ n) (h6 : n ≤ 6) (hr : r ≤ n) : Kept Tryd.prog (88, [.int .i64 (n : Int), .int .i64 (r : Int)], sz n r) := by
  have : e88 n r = true := by
    have : n = 1 ∨ n = 2 ∨ n = 3 ∨ n = 4 ∨ n = 5 ∨ n = 6 := by omega
    rcases this with rfl | rfl | rfl | rfl | rfl | rfl
    · exact all_of e88_1 (by omega) (by omega)
    · exact all_of e88_2 (by omega) (by omega)
    · exact all_of e88_3 (by omega) (by omega)
    · exact all_of e88_4 (by omega) (by omega)
    · exact all_of e88_5 (by omega) (by omega)
    · exact all_of e88_6 (by omega) (by omega)
  simp only [e88, Bool.and_eq_true] at this
  exact kept_e this.1 rfl (Nat.eq_of_beq_eq_true this.2)
theorem kept87 {n r : Nat} (h1 : 1 ≤ n) (h6 : n ≤ 6) (hr : r ≤ n) : Kept Tryd.prog (87, [.int .i64 (n : Int), .int .i64 (r : Int)], .int .i64 (chS n r : Int)) := by
  have : e87 n r = true := by
    have : n = 1 ∨ n = 2 ∨ n = 3 ∨ n = 4 ∨ n = 5 ∨ n = 6 := by omega
    rcases this with rfl | rfl | rfl | rfl | rfl | rfl
    · exact all_of e87_1 (by omega) (by omega)
    · exact all_of e87_2 (by omega) (by omega)
    · exact all_of e87_3 (by omega) (by omega)
    · exact all_of e87_4 (by omega) (by omega)
    · exact all_of e87_5 (by omega) (by omega)
    · exact all_of e87_6 (by omega) (by omega)
  exact kept_e this rfl rfl
theorem kept65 {n : Nat} (h6 : n ≤ 6) : Kept Tryd.prog (65, [.int .i64 (n : Int)], .int .i64 (fac n : Int)) := kept_e (all_of e65_0 (by omega) (by omega) : e65 n = true) rfl rfl
theorem kept27 {n : Nat} (h1 : 1 ≤ n) (h6 : n ≤ 6) : Kept Tryd.prog (27, [.int .i64 (n : Int)], .tup [.int .i64 (chS n (n / 2) : Int), .int .i64 0]) := kept_e (all_of e27_1 (by omega) (by omega) : e27 n = true) rfl rfl
theorem kept25 {n : Nat} (h1 : 1 ≤ n) (h6 : n ≤ 6) : Kept Tryd.prog (25, [.int .i64 (n : Int)], w25 n) := by
  have : n = 1 ∨ n = 2 ∨ n = 3 ∨ n = 4 ∨ n = 5 ∨ n = 6 := by omega
  rcases this with rfl | rfl | rfl | rfl | rfl | rfl
  · exact kept_e (all_of e25_1 (by omega) (by omega) : e25 1 = true) rfl (by kernel_rfl)
  · exact kept_e (all_of e25_2 (by omega) (by omega) : e25 2 = true) rfl (by kernel_rfl)
  · exact kept_e (all_of e25_3 (by omega) (by omega) : e25 3 = true) rfl (by kernel_rfl)
  · exact kept_w call_25_4 rfl (by kernel_rfl)
  · exact kept_w call_25_5 rfl (by kernel_rfl)
  · exact kept_w call_25_6 rfl (by kernel_rfl)
theorem kept26 {n : Nat} (h1 : 1 ≤ n) (h6 : n ≤ 6) : Kept Tryd.prog (26, [.int .i64 (n : Int)], w26 n) := by
  have : n = 1 ∨ n = 2 ∨ n = 3 ∨ n = 4 ∨ n = 5 ∨ n = 6 := by omega
  rcases this with rfl | rfl | rfl | rfl | rfl | rfl
  · exact kept_e (all_of e26_1 (by omega) (by omega) : e26 1 = true) rfl (by kernel_rfl)
  · exact kept_e (all_of e26_2 (by omega) (by omega) : e26 2 = true) rfl (by kernel_rfl)
  · exact kept_e (all_of e26_3 (by omega) (by omega) : e26 3 = true) rfl (by kernel_rfl)
  · exact kept_w call_26_4 rfl (by kernel_rfl)
  · exact kept_w call_26_5 rfl (by kernel_rfl)
  · exact kept_w call_26_6 rfl (by kernel_rfl)
def K1 (v : AV) : Option KRes := some { v := v }
def kn15 : List AV → Option KRes
  | [] => K1 (.bool true)
  | _ => none
def kn47 : List AV → Option KRes
  | [.int .i64 (.ofNat x)] => bif Nat.blt x 64 then K1 (dy x) else none
  | _ => none
def in6 (n : Nat) : Bool := Nat.ble 1 n && Nat.ble n 6
def kn85 : List AV → Option KRes
  | [.int .i64 (.ofNat n), .nils] => bif in6 n then K1 (al n) else none
  | _ => none
def kn88 : List AV → Option KRes
  | [.int .i64 (.ofNat n), .int .i64 (.ofNat r)] => bif in6 n && Nat.ble r n then K1 (sz n r) else none
  | _ => none
def kn87 : List AV → Option KRes
  | [.int .i64 (.ofNat n), .int .i64 (.ofNat r)] => bif in6 n && Nat.ble r n then K1 (.int .i64 (chS n r : Int)) else none
  | _ => none
def kn65 : List AV → Option KRes
  | [.int .i64 (.ofNat n)] => bif Nat.ble n 6 then K1 (.int .i64 (fac n : Int)) else none
  | _ => none
def kn27 : List AV → Option KRes
  | [.int .i64 (.ofNat n)] => bif in6 n then K1 (.tup [.int .i64 (chS n (n / 2) : Int), .int .i64 0]) else none
  | _ => none
def kn25 : List AV → Option KRes
  | [.int .i64 (.ofNat n)] => bif in6 n then K1 (w25 n) else none
  | _ => none
def kn26 : List AV → Option KRes
  | [.int .i64 (.ofNat n)] => bif in6 n then K1 (w26 n) else none
  | _ => none
/-- answers that are known on every heap -/
def knownB (f : FuncId) (args : List AV) (_ : Heap) : Option KRes :=
  bif Nat.beq f 15 then kn15 args else bif Nat.beq f 47 then kn47 args else bif Nat.beq f 85 then kn85 args else bif Nat.beq f 88 then kn88 args else bif Nat.beq f 87 then kn87 args
  else bif Nat.beq f 65 then kn65 args else bif Nat.beq f 27 then kn27 args else bif Nat.beq f 25 then kn25 args else bif Nat.beq f 26 then kn26 args else none
theorem in6_iff {n : Nat} : in6 n = true ↔ 1 ≤ n ∧ n ≤ 6 := by
  unfold in6
  rw [Bool.and_eq_true, Nat.ble_eq, Nat.ble_eq]
def KeptR (f : FuncId) (args : List AV) (k : KRes) : Prop := ∃ v, k = { v := v } ∧ Kept Tryd.prog (f, args, v)
theorem kn_cond {c : Bool} {v : AV} {k : KRes} (h : (bif c then K1 v else none) = some k) : c = true ∧ k = { v := v } := by
  cases c
  · cases h
  · simp only [cond_true, K1, Option.some.injEq] at h; exact ⟨rfl, h.symm⟩
theorem knownB_kept {f : FuncId} {args : List AV} {H : Heap} {k : KRes} (h : knownB f args H = some k) : KeptR f args k := by
  unfold knownB at h
  cases h15 : Nat.beq f 15
  case true =>
    rw [h15] at h
    obtain rfl := Nat.eq_of_beq_eq_true h15
    simp only [cond_true] at h
    unfold kn15 at h
    split at h
    · simp only [K1, Option.some.injEq] at h; exact ⟨_, h.symm, Works.kept⟩
    · cases h
  rw [h15] at h; simp only [cond_false] at h
  cases h47 : Nat.beq f 47
  case true =>
    rw [h47] at h
    obtain rfl := Nat.eq_of_beq_eq_true h47
    simp only [cond_true] at h
    unfold kn47 at h
    split at h
    · obtain ⟨hc, rfl⟩ := kn_cond h; exact ⟨_, rfl, kept47 (by rwa [Nat.blt_eq] at hc)⟩
    · cases h
  rw [h47] at h; simp only [cond_false] at h
  cases h85 : Nat.beq f 85
  case true =>
    rw [h85] at h
    obtain rfl := Nat.eq_of_beq_eq_true h85
    simp only [cond_true] at h
    unfold kn85 at h
    split at h
    · obtain ⟨hc, rfl⟩ := kn_cond h; rw [in6_iff] at hc; exact ⟨_, rfl, kept85 hc.1 hc.2⟩
    · cases h
  rw [h85] at h; simp only [cond_false] at h
  cases h88 : Nat.beq f 88
  case true =>
    rw [h88] at h
    obtain rfl := Nat.eq_of_beq_eq_true h88
    simp only [cond_true] at h
    unfold kn88 at h
    split at h
    · obtain ⟨hc, rfl⟩ := kn_cond h; rw [Bool.and_eq_true, in6_iff, Nat.ble_eq] at hc; exact ⟨_, rfl, kept88 hc.1.1 hc.1.2 hc.2⟩
    · cases h
  rw [h88] at h; simp only [cond_false] at h
  cases h87 : Nat.beq f 87
  case true =>
    rw [h87] at h
    obtain rfl := Nat.eq_of_beq_eq_true h87
    simp only [cond_true] at h
    unfold kn87 at h
    split at h
    · obtain ⟨hc, rfl⟩ := kn_cond h; rw [Bool.and_eq_true, in6_iff, Nat.ble_eq] at hc; exact ⟨_, rfl, kept87 hc.1.1 hc.1.2 hc.2⟩
    · cases h
  rw [h87] at h; simp only [cond_false] at h
  cases h65 : Nat.beq f 65
  case true =>
    rw [h65] at h
    obtain rfl := Nat.eq_of_beq_eq_true h65
    simp only [cond_true] at h
    unfold kn65 at h
    split at h
    · obtain ⟨hc, rfl⟩ := kn_cond h; rw [Nat.ble_eq] at hc; exact ⟨_, rfl, kept65 hc⟩
    · cases h
  rw [h65] at h; simp only [cond_false] at h
  cases h27 : Nat.beq f 27
  case true =>
    rw [h27] at h
    obtain rfl := Nat.eq_of_beq_eq_true h27
    simp only [cond_true] at h
    unfold kn27 at h
    split at h
    · obtain ⟨hc, rfl⟩ := kn_cond h; rw [in6_iff] at hc; exact ⟨_, rfl, kept27 hc.1 hc.2⟩
    · cases h
  rw [h27] at h; simp only [cond_false] at h
  cases h25 : Nat.beq f 25
  case true =>
    rw [h25] at h
    obtain rfl := Nat.eq_of_beq_eq_true h25
    simp only [cond_true] at h
    unfold kn25 at h
    split at h
    · obtain ⟨hc, rfl⟩ := kn_cond h; rw [in6_iff] at hc; exact ⟨_, rfl, kept25 hc.1 hc.2⟩
    · cases h
  rw [h25] at h; simp only [cond_false] at h
  cases h26 : Nat.beq f 26
  case true =>
    rw [h26] at h
    obtain rfl := Nat.eq_of_beq_eq_true h26
    simp only [cond_true] at h
    unfold kn26 at h
    split at h
    · obtain ⟨hc, rfl⟩ := kn_cond h; rw [in6_iff] at hc; exact ⟨_, rfl, kept26 hc.1 hc.2⟩
    · cases h
  rw [h26] at h; simp only [cond_false] at h
  cases h
def E : Env := { funs := env.funs, known := knownB }
theorem knownE : KnownOK Tryd.prog E := fun f args H k hk => by
  obtain ⟨v, rfl, h⟩ := knownB_kept (show knownB f args H = some k from hk)
  simpa [applyUps] using h H
end Go.Proofs.YtbkhffakhggdaaaDoor.Code
