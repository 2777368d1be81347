import Derived.Test.YtfdbmpokhfjdoaaGreatDoorA23All
set_option linter.unusedVariables false
set_option linter.unusedSimpArgs false
namespace Go.Am
open Go Go.Proofs Go.RowKit
set_option maxRecDepth 100000
theorem okWide_one {P : Program} {w : World} {r : Reach} {base : Nat} {t : TypeId} {v : Value} (h : Cell.okWide P w r base t v) : v.oneCell' = true := by
  cases v with
  | agg cs =>
    unfold Cell.okWide Cell.ok at h
    split at h <;> simp_all
  | tuple cs =>
    unfold Cell.okWide Cell.ok at h
    split at h <;> simp_all
  | _ => rfl
noncomputable def S23p : Nat → Option SumF := withF 51 A23_F0 S23c
theorem S23p_ok : SumOK Tryz.prog S23p := with_ok S23c_ok A23_ok0
/-- awake of layer 23. -/
theorem awake23 : (lv Tryz.prog S23p 100000).call 43 .nil σ0 (fun v _ => isTrue v) = true := by kernel_rfl
/-- The summaries, and awake. -/
noncomputable def S23a : Nat → Option SumF := withF 43 yesF S23c
theorem S23a_ok : SumOK Tryz.prog S23a := with_ok S23c_ok (fun hk => yes_ok M0 S23p_ok awake23 hk)
theorem nil23 : (lv Tryz.prog S23a 100000).call 10 (.cons .opq (.cons .opq .nil)) σ0 (fun v _ => isTrue v) = true := by kernel_rfl
theorem slice_one {w : World} {r : Reach} {base : Nat} {v : Value} (h : Value.okWide Tryz.prog w r base 27 v) : v.oneCell' = true := by
  unfold Value.okWide at h
  rw [Tryz.underlying27] at h
  exact okWide_one h
theorem walk_tableNil {v0 v1 : Value} {w : World} {r : Reach} {base : Nat} (h0 : Value.okWide Tryz.prog w r base 27 v0) (h1 : Value.okWide Tryz.prog w r base 27 v1) :
    Calls Tryz.prog 10 #[v0, v1] w fun e w' => e = .returned (.bool true) ∧ Below w.heap.size w w' := by
  have hl : LR (fun _ => none) (csz w.heap) (.cons .opq (.cons .opq .nil)) [v0, v1] := LR.cons (.opq _ (slice_one h0)) (LR.cons (.opq _ (slice_one h1)) LR.nil)
  have h := nil23
  generalize 100000 = N at h
  exact calls_of_run M0 S23a_ok h hl
end Go.Am
