/-
  Answers of calls, each computed by the proved evaluator, and kept on every heap.
-/
import Derived.Test.YtbkhffakhggdaaaDoorKp0
import Derived.KernelRfl
set_option linter.all false
namespace Go.Proofs.YtbkhffakhggdaaaDoor.Code
open Go Go.Ab
theorem p_26_5_a : exec env 200000 0 0 (fs c26.body) s_26_5_0 = some (.normal, s_26_5_a) := by kernel_rfl
theorem p_26_5_b : exec env 200000 0 0 (fs (sn c26.body)) s_26_5_a = some (.normal, s_26_5_b) := by kernel_rfl
theorem p_26_5_c : exec env 200000 0 0 (fs (sn (sn c26.body))) s_26_5_b = some (.normal, s_26_5_c) := by kernel_rfl
theorem p_26_5_d : exec env 200000 0 0 (fs (sn (sn (sn c26.body)))) s_26_5_c = some (.normal, s_26_5_d) := by kernel_rfl
theorem p_26_5_e : exec env 200000 0 0 (fs (fs (sn (sn (sn (sn c26.body)))))) s_26_5_d = some (.normal, s_26_5_e) := by kernel_rfl
theorem p_26_5_r0 : rounds env 200000 c26_l0 8 s_26_5_e.fr s_26_5_e.H = some (s_26_5_r0.fr, s_26_5_r0.H) := by kernel_rfl
theorem p_26_5_r1 : rounds env 200000 c26_l0 8 s_26_5_r0.fr s_26_5_r0.H = some (s_26_5_r1.fr, s_26_5_r1.H) := by kernel_rfl
theorem p_26_5_r2 : rounds env 200000 c26_l0 8 s_26_5_r1.fr s_26_5_r1.H = some (s_26_5_r2.fr, s_26_5_r2.H) := by kernel_rfl
theorem p_26_5_r3 : rounds env 200000 c26_l0 8 s_26_5_r2.fr s_26_5_r2.H = some (s_26_5_r3.fr, s_26_5_r3.H) := by kernel_rfl
theorem p_26_5_f : exec env 200000 0 0 (.loop c26_l0) s_26_5_r3 = some (.exit 0, s_26_5_f) := by kernel_rfl
theorem p_26_5_g : exec env 200000 0 0 (sn (sn (sn (sn (sn c26.body))))) s_26_5_f = some (.ret, s_26_5_g) := by kernel_rfl
theorem p_26_5_v : (resOf s_26_5_g.fr s_26_5_g.H c26.res).bind (fun vs => leave 0 0 0 vs s_26_5_g.H) = some (v_26_5, []) := by kernel_rfl
end Go.Proofs.YtbkhffakhggdaaaDoor.Code
