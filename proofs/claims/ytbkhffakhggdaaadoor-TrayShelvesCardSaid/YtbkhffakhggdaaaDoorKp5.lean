/-
  Answers of calls, each computed by the proved evaluator, and kept on every heap.
-/
import Derived.Test.YtbkhffakhggdaaaDoorKp0
import Derived.KernelRfl
set_option linter.all false
namespace Go.Proofs.YtbkhffakhggdaaaDoor.Code
open Go Go.Ab
theorem p_26_6_a : exec env 200000 0 0 (fs c26.body) s_26_6_0 = some (.normal, s_26_6_a) := by kernel_rfl
theorem p_26_6_b : exec env 200000 0 0 (fs (sn c26.body)) s_26_6_a = some (.normal, s_26_6_b) := by kernel_rfl
theorem p_26_6_c : exec env 200000 0 0 (fs (sn (sn c26.body))) s_26_6_b = some (.normal, s_26_6_c) := by kernel_rfl
theorem p_26_6_d : exec env 200000 0 0 (fs (sn (sn (sn c26.body)))) s_26_6_c = some (.normal, s_26_6_d) := by kernel_rfl
theorem p_26_6_e : exec env 200000 0 0 (fs (fs (sn (sn (sn (sn c26.body)))))) s_26_6_d = some (.normal, s_26_6_e) := by kernel_rfl
theorem p_26_6_r0 : rounds env 200000 c26_l0 8 s_26_6_e.fr s_26_6_e.H = some (s_26_6_r0.fr, s_26_6_r0.H) := by kernel_rfl
theorem p_26_6_r1 : rounds env 200000 c26_l0 8 s_26_6_r0.fr s_26_6_r0.H = some (s_26_6_r1.fr, s_26_6_r1.H) := by kernel_rfl
theorem p_26_6_r2 : rounds env 200000 c26_l0 8 s_26_6_r1.fr s_26_6_r1.H = some (s_26_6_r2.fr, s_26_6_r2.H) := by kernel_rfl
theorem p_26_6_r3 : rounds env 200000 c26_l0 8 s_26_6_r2.fr s_26_6_r2.H = some (s_26_6_r3.fr, s_26_6_r3.H) := by kernel_rfl
theorem p_26_6_r4 : rounds env 200000 c26_l0 8 s_26_6_r3.fr s_26_6_r3.H = some (s_26_6_r4.fr, s_26_6_r4.H) := by kernel_rfl
theorem p_26_6_r5 : rounds env 200000 c26_l0 8 s_26_6_r4.fr s_26_6_r4.H = some (s_26_6_r5.fr, s_26_6_r5.H) := by kernel_rfl
theorem p_26_6_r6 : rounds env 200000 c26_l0 8 s_26_6_r5.fr s_26_6_r5.H = some (s_26_6_r6.fr, s_26_6_r6.H) := by kernel_rfl
theorem p_26_6_r7 : rounds env 200000 c26_l0 8 s_26_6_r6.fr s_26_6_r6.H = some (s_26_6_r7.fr, s_26_6_r7.H) := by kernel_rfl
theorem p_26_6_f : exec env 200000 0 0 (.loop c26_l0) s_26_6_r7 = some (.exit 0, s_26_6_f) := by kernel_rfl
theorem p_26_6_g : exec env 200000 0 0 (sn (sn (sn (sn (sn c26.body))))) s_26_6_f = some (.ret, s_26_6_g) := by kernel_rfl
theorem p_26_6_v : (resOf s_26_6_g.fr s_26_6_g.H c26.res).bind (fun vs => leave 0 0 0 vs s_26_6_g.H) = some (v_26_6, []) := by kernel_rfl
end Go.Proofs.YtbkhffakhggdaaaDoor.Code
