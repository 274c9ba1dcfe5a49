/-
  Answers of calls, each computed by the proved evaluator, and kept on every heap.
-/
import Derived.Test.YtbkhffakhggdaaaDoorKp0
import Derived.KernelRfl
set_option linter.all false
namespace Go.Proofs.YtbkhffakhggdaaaDoor.Code
open Go Go.Ab
theorem p_25_4_a : exec env 200000 0 0 (fs c25.body) s_25_4_0 = some (.normal, s_25_4_a) := by kernel_rfl
theorem p_25_4_b : exec env 200000 0 0 (fs (sn c25.body)) s_25_4_a = some (.normal, s_25_4_b) := by kernel_rfl
theorem p_25_4_c : exec env 200000 0 0 (fs (sn (sn c25.body))) s_25_4_b = some (.normal, s_25_4_c) := by kernel_rfl
theorem p_25_4_d : exec env 200000 0 0 (fs (fs (sn (sn (sn c25.body))))) s_25_4_c = some (.normal, s_25_4_d) := by kernel_rfl
theorem p_25_4_r0 : rounds env 200000 c25_l0 8 s_25_4_d.fr s_25_4_d.H = some (s_25_4_r0.fr, s_25_4_r0.H) := by kernel_rfl
theorem p_25_4_r1 : rounds env 200000 c25_l0 8 s_25_4_r0.fr s_25_4_r0.H = some (s_25_4_r1.fr, s_25_4_r1.H) := by kernel_rfl
theorem p_25_4_e : exec env 200000 0 0 (.loop c25_l0) s_25_4_r1 = some (.exit 0, s_25_4_e) := by kernel_rfl
theorem p_25_4_f : exec env 200000 0 0 (fs (sn (sn (sn (sn c25.body))))) s_25_4_e = some (.normal, s_25_4_f) := by kernel_rfl
theorem p_25_4_g : exec env 200000 0 0 (fs (sn (sn (sn (sn (sn c25.body)))))) s_25_4_f = some (.normal, s_25_4_g) := by kernel_rfl
theorem p_25_4_h : exec env 200000 0 0 (sn (sn (sn (sn (sn (sn c25.body)))))) s_25_4_g = some (.ret, s_25_4_h) := by kernel_rfl
theorem p_25_4_v : (resOf s_25_4_h.fr s_25_4_h.H c25.res).bind (fun vs => leave 0 0 0 vs s_25_4_h.H) = some (v_25_4, []) := by kernel_rfl
theorem p_25_5_a : exec env 200000 0 0 (fs c25.body) s_25_5_0 = some (.normal, s_25_5_a) := by kernel_rfl
theorem p_25_5_b : exec env 200000 0 0 (fs (sn c25.body)) s_25_5_a = some (.normal, s_25_5_b) := by kernel_rfl
theorem p_25_5_c : exec env 200000 0 0 (fs (sn (sn c25.body))) s_25_5_b = some (.normal, s_25_5_c) := by kernel_rfl
theorem p_25_5_d : exec env 200000 0 0 (fs (fs (sn (sn (sn c25.body))))) s_25_5_c = some (.normal, s_25_5_d) := by kernel_rfl
theorem p_25_5_r0 : rounds env 200000 c25_l0 8 s_25_5_d.fr s_25_5_d.H = some (s_25_5_r0.fr, s_25_5_r0.H) := by kernel_rfl
theorem p_25_5_r1 : rounds env 200000 c25_l0 8 s_25_5_r0.fr s_25_5_r0.H = some (s_25_5_r1.fr, s_25_5_r1.H) := by kernel_rfl
theorem p_25_5_r2 : rounds env 200000 c25_l0 8 s_25_5_r1.fr s_25_5_r1.H = some (s_25_5_r2.fr, s_25_5_r2.H) := by kernel_rfl
theorem p_25_5_r3 : rounds env 200000 c25_l0 8 s_25_5_r2.fr s_25_5_r2.H = some (s_25_5_r3.fr, s_25_5_r3.H) := by kernel_rfl
theorem p_25_5_e : exec env 200000 0 0 (.loop c25_l0) s_25_5_r3 = some (.exit 0, s_25_5_e) := by kernel_rfl
theorem p_25_5_f : exec env 200000 0 0 (fs (sn (sn (sn (sn c25.body))))) s_25_5_e = some (.normal, s_25_5_f) := by kernel_rfl
theorem p_25_5_g : exec env 200000 0 0 (fs (sn (sn (sn (sn (sn c25.body)))))) s_25_5_f = some (.normal, s_25_5_g) := by kernel_rfl
theorem p_25_5_h : exec env 200000 0 0 (sn (sn (sn (sn (sn (sn c25.body)))))) s_25_5_g = some (.ret, s_25_5_h) := by kernel_rfl
theorem p_25_5_v : (resOf s_25_5_h.fr s_25_5_h.H c25.res).bind (fun vs => leave 0 0 0 vs s_25_5_h.H) = some (v_25_5, []) := by kernel_rfl
theorem p_26_4_a : exec env 200000 0 0 (fs c26.body) s_26_4_0 = some (.normal, s_26_4_a) := by kernel_rfl
theorem p_26_4_b : exec env 200000 0 0 (fs (sn c26.body)) s_26_4_a = some (.normal, s_26_4_b) := by kernel_rfl
theorem p_26_4_c : exec env 200000 0 0 (fs (sn (sn c26.body))) s_26_4_b = some (.normal, s_26_4_c) := by kernel_rfl
theorem p_26_4_d : exec env 200000 0 0 (fs (sn (sn (sn c26.body)))) s_26_4_c = some (.normal, s_26_4_d) := by kernel_rfl
theorem p_26_4_e : exec env 200000 0 0 (fs (fs (sn (sn (sn (sn c26.body)))))) s_26_4_d = some (.normal, s_26_4_e) := by kernel_rfl
theorem p_26_4_r0 : rounds env 200000 c26_l0 8 s_26_4_e.fr s_26_4_e.H = some (s_26_4_r0.fr, s_26_4_r0.H) := by kernel_rfl
theorem p_26_4_r1 : rounds env 200000 c26_l0 8 s_26_4_r0.fr s_26_4_r0.H = some (s_26_4_r1.fr, s_26_4_r1.H) := by kernel_rfl
theorem p_26_4_f : exec env 200000 0 0 (.loop c26_l0) s_26_4_r1 = some (.exit 0, s_26_4_f) := by kernel_rfl
theorem p_26_4_g : exec env 200000 0 0 (sn (sn (sn (sn (sn c26.body))))) s_26_4_f = some (.ret, s_26_4_g) := by kernel_rfl
theorem p_26_4_v : (resOf s_26_4_g.fr s_26_4_g.H c26.res).bind (fun vs => leave 0 0 0 vs s_26_4_g.H) = some (v_26_4, []) := by kernel_rfl
end Go.Proofs.YtbkhffakhggdaaaDoor.Code
