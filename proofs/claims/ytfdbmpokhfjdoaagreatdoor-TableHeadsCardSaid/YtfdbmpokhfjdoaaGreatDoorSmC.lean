import Derived.Test.YtfdbmpokhfjdoaaGreatDoorSmA
import Derived.Test.YtfdbmpokhfjdoaaGreatDoorSmB
import Derived.Test.YtfdbmpokhfjdoaaGreatDoorAmS27
set_option linter.unusedSimpArgs false
set_option linter.unusedVariables false
namespace Go.Am
open Go Go.Proofs
noncomputable def syncR : ResW := (resW Tryz.prog (cxOf Tryz.prog 93) Tryz.f93.results.toList).getD .nil
noncomputable def syncCode : CodeW :=
  .mk (cSeq (codeW Tryz.prog (cxOf Tryz.prog 93) (seqL syncBody)) (.mk (cSeq (codeW Tryz.prog (cxOf Tryz.prog 93) (seqL (seqR syncBody))) (.mk (cSeq (codeW Tryz.prog (cxOf Tryz.prog 93) (seqL (seqR (seqR syncBody)))) (.mk (cSeq (.mk syncPatch) (codeW Tryz.prog (cxOf Tryz.prog 93) (seqR (seqR (seqR (seqR syncBody)))))))))))) 
noncomputable def syncF : SumF := fun args σ k => enterK (lv Tryz.prog (fun _ => none) 12) 93 (.mk syncCode syncR) args σ k
theorem sync_cw2 {ih : Lv} (H : LvOK Tryz.prog ih) : CW Tryz.prog ih 93 syncCode syncBody := by
  rw [syncBody_eq]
  exact CW.seq (CW.code H M0 93 _) (CW.seq (CW.code H M0 93 _) (CW.seq (CW.code H M0 93 _) (CW.seq sync_cw (CW.code H M0 93 _))))
theorem R93 : resW Tryz.prog (cxOf Tryz.prog 93) Tryz.f93.results.toList = some syncR := by
  have h : (resW Tryz.prog (cxOf Tryz.prog 93) Tryz.f93.results.toList).isSome = true := by kernel_rfl
  unfold syncR
  cases hh : resW Tryz.prog (cxOf Tryz.prog 93) Tryz.f93.results.toList with
  | none => rw [hh] at h; cases h
  | some r => rfl
theorem P93 : Tryz.prog.funcs[93]? = some Tryz.f93 := by kernel_rfl
theorem B93 : Tryz.f93.body = some syncBody := by kernel_rfl
theorem N93n : ¬ Tryz.f93.name = "runtime.NumGoroutine" := of_decide_eq_false (by kernel_rfl)
theorem sync_ok {args : AV} {σ : Hp} {k : KV} (hk : syncF args σ k = true) : ∃ v σ', k v σ' = true ∧ CallOK Tryz.prog 93 σ args v σ' :=
  enter_cw (fn := Tryz.f93) (b := syncBody) P93 B93 N93n R93 (sync_cw2 (lv_ok M0 (fun f F h => by cases h) 12)) (show enterK (lv Tryz.prog (fun _ => none) 12) 93 (.mk syncCode syncR) args σ k = true from hk)
/-- The summaries of the program's functions. -/
noncomputable def S : Nat → Option SumF := fun f => bif Nat.beq f 244 then some trimRB else bif Nat.beq f 93 then some syncF else none
theorem S_ok : SumOK Tryz.prog S := by
  intro f F h args σ k hk
  unfold S at h
  cases h1 : Nat.beq f 244 with
  | true =>
    rw [h1] at h
    simp only [cond_true, Option.some.injEq] at h
    subst h
    rw [Nat.eq_of_beq_eq_true h1]
    exact trim_ok hk
  | false =>
    rw [h1] at h
    cases h2 : Nat.beq f 93 with
    | true =>
      rw [h2] at h
      simp only [cond_true, cond_false, Option.some.injEq] at h
      subst h
      rw [Nat.eq_of_beq_eq_true h2]
      exact sync_ok hk
    | false => rw [h2] at h; cases h


end Go.Am
