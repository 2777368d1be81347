import Derived.Test.YtfdbmpokhfjdoaaGreatDoorA23Pc0
import Derived.Test.YtfdbmpokhfjdoaaGreatDoorA23Pc1
import Derived.Test.YtfdbmpokhfjdoaaGreatDoorA23Pc2
set_option linter.unusedSimpArgs false
set_option linter.unusedVariables false
namespace Go.Am
open Go Go.Proofs
noncomputable def A23_F3 : SumF := noF
theorem A23_ok3 {args : AV} {σ : Hp} {k : KV} (hk : A23_F3 args σ k = true) : ∃ v σ', k v σ' = true ∧ CallOK Tryz.prog 51 σ args v σ' := no_ok hk
noncomputable def A23_F2 : SumF := orF A23_s2.nx (pieceF A23_a2 A23_s2 A23_v2 A23_l2) A23_F3
theorem A23_ok2 {args : AV} {σ : Hp} {k : KV} (hk : A23_F2 args σ k = true) : ∃ v σ', k v σ' = true ∧ CallOK Tryz.prog 51 σ args v σ' := or_ok (fun h => piece_ok M0 S23c_ok A23_piece2 h) A23_ok3 hk
noncomputable def A23_F1 : SumF := orF A23_s1.nx (pieceF A23_a1 A23_s1 A23_v1 A23_l1) A23_F2
theorem A23_ok1 {args : AV} {σ : Hp} {k : KV} (hk : A23_F1 args σ k = true) : ∃ v σ', k v σ' = true ∧ CallOK Tryz.prog 51 σ args v σ' := or_ok (fun h => piece_ok M0 S23c_ok A23_piece1 h) A23_ok2 hk
noncomputable def A23_F0 : SumF := orF A23_s0.nx (pieceF A23_a0 A23_s0 A23_v0 A23_l0) A23_F1
theorem A23_ok0 {args : AV} {σ : Hp} {k : KV} (hk : A23_F0 args σ k = true) : ∃ v σ', k v σ' = true ∧ CallOK Tryz.prog 51 σ args v σ' := or_ok (fun h => piece_ok M0 S23c_ok A23_piece0 h) A23_ok1 hk
end Go.Am
