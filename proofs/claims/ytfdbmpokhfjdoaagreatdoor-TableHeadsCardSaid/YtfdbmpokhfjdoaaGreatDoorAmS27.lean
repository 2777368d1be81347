import Derived.Test.YtfdbmpokhfjdoaaGreatDoorAmS26
import Derived.Below
set_option linter.unusedVariables false
set_option linter.unusedSimpArgs false
/-! Soundness, 27: what a whole run says of the program. -/
namespace Go.Am
open Go Go.RowKit
noncomputable def σ0 : Hp := ⟨PT.e, ⟨.x0, .x0, .x0, .x0, .x0⟩⟩
noncomputable def isTrue (v : AV) : Bool := v.asBool fun b => b
theorem isTrue_true {v : AV} (h : isTrue v = true) : v = .bool true := by
  obtain ⟨b, rfl, hb⟩ := AV.asBool_true h
  rw [hb]
theorem rel0 {P : Program} {σ : Hp} (w : World) : Rel P (fun b => b < w.heap.size) (fun _ => none) σ w.heap :=
  ⟨fun _ _ h => (by cases h), fun _ _ _ h => (by cases h), fun _ _ _ h => (by cases h), fun _ _ _ _ _ _ _ h => (by cases h), fun _ _ _ _ _ h => (by cases h)⟩
/-- A run from an empty heap: the call returns true and leaves all that was there. -/
theorem calls_of_run {P : Program} {S : Nat → Option SumF} (hm : P.follows .mixedOrders = true) (hS : SumOK P S) {n f : Nat} {args : AV} {σ : Hp} (h : (lv P S n).call f args σ (fun v _ => isTrue v) = true) {xs : Array Value} {w : World} (hl : LR (fun _ => none) (csz w.heap) args xs.toList) :
    Calls P f xs w fun e w' => e = .returned (.bool true) ∧ Below w.heap.size w w' := by
  obtain ⟨v, σ', hk, _, hc⟩ := (lv_ok hm hS n).call h
  obtain rfl := isTrue_true hk
  refine callsIn_wide.1 ((hc (rel0 w) (fun _ h => h) hl).mono ?_)
  rintro e w' ⟨r, rfl, φ', _, hx, hv, h1, h2, h3⟩
  cases hv with
  | bool _ => exact ⟨rfl, h1, h2, h3, hx.size, hx.low⟩
/-- What a function without parameters answers: true. -/
noncomputable def yesF : SumF := fun args σ k => args.asCons (k (.bool true) σ) fun _ _ => false
theorem yes_ok {P : Program} {S : Nat → Option SumF} (hm : P.follows .mixedOrders = true) (hS : SumOK P S) {n f : Nat} {σ0 : Hp} (h : (lv P S n).call f .nil σ0 (fun v _ => isTrue v) = true) {args : AV} {σ : Hp} {k : KV} (hk : yesF args σ k = true) : ∃ v σ', k v σ' = true ∧ CallOK P f σ args v σ' := by
  obtain ⟨v, σ', hk1, hcall, hc⟩ := (lv_ok hm hS n).call h
  obtain rfl := isTrue_true hk1
  have hk' : args.asCons (k (.bool true) σ) (fun _ _ => false) = true := hk
  rcases AV.asCons_true hk' with ⟨rfl, hk2⟩ | ⟨_, _, _, hk2⟩
  · refine ⟨_, _, hk2, hcall, fun {B φ w xs} r hB hl => ?_⟩
    refine (hc (rel0 w) (fun _ h => h) (by have := hl.nil_inv; rw [this]; exact LR.nil)).mono ?_
    rintro e w' ⟨x, rfl, φ', _, hx, hv, h1, h2, h3⟩
    refine ⟨x, rfl, φ, r.more hx.size hx.csz hx.low, ⟨φ.le_refl, Nat.le_refl _, fun β y q1 q2 => absurd (q2.symm.trans q1) (by simp), fun _ _ _ => .inl rfl, hx.size, hx.csz, fun b hb => hx.low b (hB b hb)⟩, ?_, h1, h2, h3⟩
    cases hv with
    | bool _ => exact .bool _
  · cases hk2
/-- Cells of which nothing is known. -/
noncomputable def opqR : Nat → AV := Nat.rec .r0 (fun _ r => .rn 1 (.r1 .opq) r)
theorem opqR_get : ∀ (n i : Nat), i < n → (opqR n).rget i = some .opq
  | 0, i, h => by omega
  | n + 1, i, h => by
    show AV.rget (.rn 1 (.r1 .opq) (opqR n)) i = _
    rcases i with _ | i
    · simp [AV.rget]
    · have := opqR_get n i (by omega)
      simp [AV.rget, this]
end Go.Am
