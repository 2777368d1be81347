import Derived.Test.YtfdbmpokhfjdoaaGreatDoorAmS25
import Derived.Test.YtfdbmpokhfjdoaaGreatDoorChecked
import Derived.WalkKit
import Derived.LoopTactic
set_option linter.unusedVariables false
set_option linter.unusedSimpArgs false
namespace Go.Proofs
open Go Go.RowKit
set_option maxHeartbeats 1000000 in
theorem Tryz.mark_walk (k i : Nat) (w : World) (h : 1000003 * (k + 7) + i ≤ 9223372036854775807) :
    Calls Tryz.prog 190 #[.int .i64 k, .int .i64 i] w fun e w' => e = .returned (.int .i64 ((1000003 * (k + 7) + i : Nat) : Int)) ∧ w' = w := by
  go_enter Tryz.func190, Tryz.ntmps190
  go_wp2
  go_ret
  exact ⟨by congr 2, rfl⟩
def markV (k i : Nat) : Nat := (1000003 * (k + 7) + i) * 11400714819323198485 % 18446744073709551616 / 72057594037927936
set_option maxHeartbeats 1000000 in
theorem Tryz.markByte_walk (k i : Nat) (w : World) (h : 1000003 * (k + 7) + i ≤ 9223372036854775807) :
    Calls Tryz.prog 112 #[.int .i64 k, .int .i64 i] w fun e w' => e = .returned (.int .u8 (markV k i : Int)) ∧ w' = w := by
  go_enter Tryz.func112, Tryz.ntmps112
  go_wp2
  go_ret
  refine ⟨?_, rfl⟩
  congr 2
  unfold markV
  simp [IntKind.wrap, IntKind.signed, IntKind.bits]
  omega
end Go.Proofs
namespace Go.Am
open Go Go.Proofs
noncomputable def markByteF : SumF := fun args σ K => args.asCons false fun a r => r.asCons false fun b r => r.asCons (AV.of_i64 a (fun k => AV.of_i64 b (fun i =>
  sel (Nat.ble (Nat.add (Nat.mul 1000003 (Nat.add k 7)) i) 9223372036854775807) (forceN (Nat.div (Nat.mod (Nat.mul (Nat.add (Nat.mul 1000003 (Nat.add k 7)) i) 11400714819323198485) 18446744073709551616) 72057594037927936) fun n => K (.nat .u8 n) σ) false) fun _ => false) fun _ => false) fun _ _ => false
theorem markByte_ok {args : AV} {σ : Hp} {k : KV} (hk : markByteF args σ k = true) : ∃ v σ', k v σ' = true ∧ CallOK Tryz.prog 112 σ args v σ' := by
  have hcall : ∀ xs w, (callFunc 112 xs).run Tryz.prog w = .ok (.enter 112 xs) w := fun xs w => by
    unfold callFunc
    simp [Tryz.func112]
    rfl
  rcases AV.asCons_true hk with ⟨_, h⟩ | ⟨a, r, rfl, hk1⟩
  · cases h
  rcases AV.asCons_true hk1 with ⟨_, h⟩ | ⟨b, r, rfl, hk2⟩
  · cases h
  rcases AV.asCons_true hk2 with ⟨rfl, hk3⟩ | ⟨_, _, _, h⟩
  case inr => cases h
  rcases acc_true (q := .i64) rfl hk3 with ⟨n, rfl, hk4⟩ | ⟨_, _, h⟩
  case inr => cases h
  rcases acc_true (q := .i64) rfl hk4 with ⟨i, rfl, hk5⟩ | ⟨_, _, h⟩
  case inr => cases h
  obtain ⟨hle, hk6⟩ := sel_yes hk5
  rw [forceN_eq] at hk6
  refine ⟨_, _, hk6, hcall, fun {B φ w xs} r hB hl => ?_⟩
  obtain ⟨y, ys, e, hy, h1⟩ := hl.cons_inv
  obtain ⟨z, zs, rfl, hz, h2⟩ := h1.cons_inv
  have := h2.nil_inv
  subst this
  cases hy with
  | nat _ _ =>
  cases hz with
  | nat _ _ =>
  have hxs : xs = #[.int .i64 (Int.ofNat n), .int .i64 (Int.ofNat i)] := Array.toList_inj.1 (by simpa using e)
  subst hxs
  refine (callsIn_wide.2 (Tryz.markByte_walk n i w (Nat.le_of_ble_eq_true hle))).mono ?_
  rintro e' w' ⟨rfl, rfl⟩
  exact ⟨_, rfl, φ, r, .refl _ _ _ _, .nat _ _, rfl, rfl, rfl⟩
end Go.Am
