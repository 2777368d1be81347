import Derived.Test.YtfdbmpokhfjdoaaGreatDoorA23Lit
import Derived.KernelRfl
set_option linter.unusedSimpArgs false
set_option linter.unusedVariables false
namespace Go.Am
open Go Go.Proofs
set_option maxRecDepth 100000
theorem A23_piece1 : (lv Tryz.prog S23c 100000).call 51 A23_a1 A23_s1 (fun v σ => sel (AV.eqK A23_v1 v) (Hp.weakK A23_s1 σ A23_l1) false) = true := by kernel_rfl
end Go.Am
