/-
  Answers of calls, each computed by the proved evaluator, and kept on every heap.
-/
import Derived.Test.YtbkhffakhggdaaaDoorKp0
import Derived.KernelRfl
set_option linter.all false
namespace Go.Proofs.YtbkhffakhggdaaaDoor.Code
open Go Go.Ab
theorem p_25_6_a : exec env 200000 0 0 (fs c25.body) s_25_6_0 = some (.normal, s_25_6_a) := by kernel_rfl
theorem p_25_6_b : exec env 200000 0 0 (fs (sn c25.body)) s_25_6_a = some (.normal, s_25_6_b) := by kernel_rfl
theorem p_25_6_c : exec env 200000 0 0 (fs (sn (sn c25.body))) s_25_6_b = some (.normal, s_25_6_c) := by kernel_rfl
theorem p_25_6_d : exec env 200000 0 0 (fs (fs (sn (sn (sn c25.body))))) s_25_6_c = some (.normal, s_25_6_d) := by kernel_rfl
theorem p_25_6_r0 : rounds env 200000 c25_l0 8 s_25_6_d.fr s_25_6_d.H = some (s_25_6_r0.fr, s_25_6_r0.H) := by kernel_rfl
theorem p_25_6_r1 : rounds env 200000 c25_l0 8 s_25_6_r0.fr s_25_6_r0.H = some (s_25_6_r1.fr, s_25_6_r1.H) := by kernel_rfl
theorem p_25_6_r2 : rounds env 200000 c25_l0 8 s_25_6_r1.fr s_25_6_r1.H = some (s_25_6_r2.fr, s_25_6_r2.H) := by kernel_rfl
theorem p_25_6_r3 : rounds env 200000 c25_l0 8 s_25_6_r2.fr s_25_6_r2.H = some (s_25_6_r3.fr, s_25_6_r3.H) := by kernel_rfl
theorem p_25_6_r4 : rounds env 200000 c25_l0 8 s_25_6_r3.fr s_25_6_r3.H = some (s_25_6_r4.fr, s_25_6_r4.H) := by kernel_rfl
theorem p_25_6_r5 : rounds env 200000 c25_l0 8 s_25_6_r4.fr s_25_6_r4.H = some (s_25_6_r5.fr, s_25_6_r5.H) := by kernel_rfl
theorem p_25_6_r6 : rounds env 200000 c25_l0 8 s_25_6_r5.fr s_25_6_r5.H = some (s_25_6_r6.fr, s_25_6_r6.H) := by kernel_rfl
theorem p_25_6_r7 : rounds env 200000 c25_l0 8 s_25_6_r6.fr s_25_6_r6.H = some (s_25_6_r7.fr, s_25_6_r7.H) := by kernel_rfl
theorem p_25_6_e : exec env 200000 0 0 (.loop c25_l0) s_25_6_r7 = some (.exit 0, s_25_6_e) := by kernel_rfl
theorem p_25_6_f : exec env 200000 0 0 (fs (sn (sn (sn (sn c25.body))))) s_25_6_e = some (.normal, s_25_6_f) := by kernel_rfl
theorem p_25_6_g : exec env 200000 0 0 (fs (sn (sn (sn (sn (sn c25.body)))))) s_25_6_f = some (.normal, s_25_6_g) := by kernel_rfl
theorem p_25_6_h : exec env 200000 0 0 (sn (sn (sn (sn (sn (sn c25.body)))))) s_25_6_g = some (.ret, s_25_6_h) := by kernel_rfl
theorem p_25_6_v : (resOf s_25_6_h.fr s_25_6_h.H c25.res).bind (fun vs => leave 0 0 0 vs s_25_6_h.H) = some (v_25_6, []) := by kernel_rfl
end Go.Proofs.YtbkhffakhggdaaaDoor.Code
