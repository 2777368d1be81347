import Derived.Test.YtfdbmpokhfjdoaaGreatDoorSmC
import Derived.KernelRfl
set_option linter.unusedSimpArgs false
set_option linter.unusedVariables false
namespace Go.Am
open Go Go.Proofs
set_option maxRecDepth 100000
theorem awake22 : (lv Tryz.prog S 100000).call 14 .nil σ0 (fun v _ => isTrue v) = true := by kernel_rfl
/-- The summaries, and the closed calls of layer 22. -/
noncomputable def S22 : Nat → Option SumF := fun f => bif Nat.beq f 14 then some yesF else S f
theorem S22_ok : SumOK Tryz.prog S22 := by
  intro f F h args σ k hk
  unfold S22 at h
  cases h1 : Nat.beq f 14 with
  | true =>
    rw [h1] at h
    simp only [cond_true, Option.some.injEq] at h
    subst h
    rw [Nat.eq_of_beq_eq_true h1]
    exact yes_ok M0 S_ok awake22 hk
  | false =>
    rw [h1] at h
    exact S_ok f F h hk
/-- A record of which the kind alone is known. -/
noncomputable def recK (n : Nat) : AV := .rn 4 (opqR 4) (.rn 1 (.r1 (.nat .u8 n)) (opqR 6))
theorem recK_get (n i : Nat) (h : i < 11) : (recK n).rget i = some (if i = 4 then .nat .u8 n else .opq) := by
  have : i = 0 ∨ i = 1 ∨ i = 2 ∨ i = 3 ∨ i = 4 ∨ i = 5 ∨ i = 6 ∨ i = 7 ∨ i = 8 ∨ i = 9 ∨ i = 10 := by omega
  rcases this with rfl | rfl | rfl | rfl | rfl | rfl | rfl | rfl | rfl | rfl | rfl <;> rfl
theorem okWide_one {P : Program} {w : World} {r : Reach} {base : Nat} {t : TypeId} {v : Value} (h : Cell.okWide P w r base t v) : v.oneCell' = true := by
  cases v with
  | agg cs =>
    unfold Cell.okWide Cell.ok at h
    split at h <;> simp_all
  | tuple cs =>
    unfold Cell.okWide Cell.ok at h
    split at h <;> simp_all
  | _ => rfl
theorem okWide_u8 {P : Program} {w : World} {r : Reach} {base : Nat} {t : TypeId} {v : Value} (ht : P.underlying t = some (.int .u8)) (h : Cell.okWide P w r base t v) : ∃ n : Nat, v = .int .u8 (Int.ofNat n) := by
  unfold Cell.okWide Cell.ok at h
  rw [ht] at h
  cases v with
  | int k n =>
    obtain ⟨rfl, hn⟩ : k = .u8 ∧ IntKind.u8.has n := h
    cases n with
    | ofNat m => exact ⟨m, rfl⟩
    | negSucc m =>
      unfold IntKind.has at hn
      have := hn.1
      simp [IntKind.min, IntKind.signed] at this
  | _ => exact h.elim
theorem record_av {w : World} {r : Reach} {base : Nat} {v : Value} (h : Value.okWide Tryz.prog w r base 33 v) : ∃ n : Nat, ∀ (φ : Emb) (κ : Nat → Nat), VR φ κ (.agg 11 (recK n)) v := by
  unfold Value.okWide at h
  rw [Tryz.underlying33] at h
  obtain ⟨cs, rfl, hsz, ts, hts, _, hcs⟩ := h
  have hsz' : cs.size = 11 := hsz.trans (by kernel_rfl)
  have hts' : ts = [2, 2, 2, 2, 26, 3, 27, 27, 27, 30, 31] := Option.some.inj (hts.symm.trans (show Tryz.prog.cellTypes Tryz.prog.depth 33 = some [2, 2, 2, 2, 26, 3, 27, 27, 27, 30, 31] by kernel_rfl))
  subst hts'
  obtain ⟨u, hu, hk⟩ := hcs 4 cs[4] (Array.getElem?_eq_getElem (by omega))
  cases hu
  obtain ⟨n, hn⟩ := okWide_u8 (by kernel_rfl) hk
  refine ⟨n, fun φ κ => .agg 11 _ cs hsz' (fun i => if i = 4 then .nat .u8 n else .opq) (fun i hi => recK_get n i hi) (fun i hi => ?_) (fun i hi => ?_)⟩
  · by_cases h4 : i = 4
    · subst h4
      rw [if_pos rfl, hn]
      exact .nat _ _
    · rw [if_neg h4]
      obtain ⟨u, _, hc⟩ := hcs i cs[i] (Array.getElem?_eq_getElem hi)
      exact .opq _ (okWide_one hc)
  · by_cases h4 : i = 4
    · rw [if_pos h4]; trivial
    · rw [if_neg h4]; trivial
theorem none22 (n : Nat) : (lv Tryz.prog S22 100000).call 6 (.cons .nil (.cons (.agg 11 (recK n)) .nil)) σ0 (fun v _ => isTrue v) = true := by kernel_rfl
end Go.Am
