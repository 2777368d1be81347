import Derived.Test.YtpjibkdeaogjjaaGreatDoorSmX
import Derived.Test.YtpjibkdeaogjjaaGreatDoorAmQ7
import Derived.Test.YtpjibkdeaogjjaaGreatDoorAmS27
import Derived.KernelRfl
set_option linter.unusedSimpArgs false
set_option linter.unusedVariables false
namespace Go.Am
open Go Go.Proofs
set_option maxRecDepth 100000
/-- The machines: of one order, of all orders. -/
noncomputable def N0 : Lv := lv Tryz.prog SC 100000
noncomputable def L1 : Lv := lvQ Tryz.prog SC N0 (unitQ Tryz.prog false) 100000
noncomputable def LA : Lv := lvQ Tryz.prog SC N0 (unitQ Tryz.prog true) 100000
theorem N0_ok : LvOK Tryz.prog N0 := lv_ok M0 SC_ok _
theorem L1_e : LvE L1 := lvQ_e SC_ok N0_ok unitQ_e _
theorem LA_ok : LvQ Tryz.prog LA := lvQ_ok M0 SC_ok N0_ok unitQ_ok _
/-- Books' functions that go through maps: owed, busy, slices.Sorted. -/
noncomputable def SW : Nat → Option SumF := withF 25 (permF L1 LA 25) (withF 29 (permF L1 LA 29) (withF 48 (permF L1 LA 48) SC))
theorem SW_ok : SumOK Tryz.prog SW := with_ok (with_ok (with_ok SC_ok (perm_ok L1_e LA_ok)) (perm_ok L1_e LA_ok)) (perm_ok L1_e LA_ok)
theorem okWide_one {P : Program} {w : World} {r : Reach} {base : Nat} {t : TypeId} {v : Value} (h : Cell.okWide P w r base t v) : v.oneCell' = true := by
  cases v with
  | agg cs =>
    unfold Cell.okWide Cell.ok at h
    split at h <;> simp_all
  | tuple cs =>
    unfold Cell.okWide Cell.ok at h
    split at h <;> simp_all
  | _ => rfl
theorem workNone26 : (lv Tryz.prog SW 100000).call 3 (.cons .opq (.cons .opq .nil)) σ0 (fun v _ => isTrue v) = true := by kernel_rfl
theorem int_one {w : World} {r : Reach} {base : Nat} {v : Value} (h : Value.okWide Tryz.prog w r base 2 v) : v.oneCell' = true := by
  unfold Value.okWide at h
  rw [Tryz.underlying2] at h
  exact okWide_one h
theorem slice_one {w : World} {r : Reach} {base : Nat} {v : Value} (h : Value.okWide Tryz.prog w r base 22 v) : v.oneCell' = true := by
  unfold Value.okWide at h
  rw [Tryz.underlying22] at h
  exact okWide_one h
open Go.RowKit in
theorem walk_workNone {v0 v1 : Value} {w : World} {r : Reach} {base : Nat} (h0 : Value.okWide Tryz.prog w r base 2 v0) (h1 : Value.okWide Tryz.prog w r base 22 v1) :
    Calls Tryz.prog 3 #[v0, v1] w fun e w' => e = .returned (.bool true) ∧ Below w.heap.size w w' := by
  have hl : LR (fun _ => none) (csz w.heap) (.cons .opq (.cons .opq .nil)) [v0, v1] := LR.cons (.opq _ (int_one h0)) (LR.cons (.opq _ (slice_one h1)) LR.nil)
  have h := workNone26
  generalize 100000 = N at h
  exact calls_of_run M0 SW_ok h hl
end Go.Am
