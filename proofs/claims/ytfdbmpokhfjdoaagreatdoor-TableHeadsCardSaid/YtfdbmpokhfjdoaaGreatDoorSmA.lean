import Derived.Test.YtfdbmpokhfjdoaaGreatDoorAmS25
import Derived.Test.YtfdbmpokhfjdoaaGreatDoorChecked
import Derived.WalkKit
import Derived.LoopTactic
import Derived.Deep.LoopGhost
set_option linter.unusedVariables false
set_option linter.unusedSimpArgs false
namespace Go.Am
open Go Go.Proofs Go.RowKit
set_option maxHeartbeats 4000000 in
set_option maxRecDepth 1000000 in
theorem trim_walk (p : Option Addr) (n c : Nat) (f : Nat → Nat) (w : World) (hnc : n ≤ c) (hbig : n ≤ 9223372036854775807) (hf : ∀ i, f i < 256) (h1 : 0 < n → ∃ b o, p = some ⟨b, o, none⟩ ∧ ∀ i, i < n → w.cell? ⟨b, o + i, none⟩ = some (.int .u8 (f i))) :
    Calls Tryz.prog 244 #[.slice p n c, .int .u8 0] w fun e w' => (∃ k, k ≤ n ∧ e = .returned (.slice p k c) ∧ (k = 0 ∨ f (k - 1) ≠ 0) ∧ ∀ j, k ≤ j → j < n → f j = 0) ∧ w' = w := by
  have H1 : Aside _ := h1
  clear h1
  have HF : Aside _ := hf
  clear hf
  go_enter Tryz.func244, Tryz.ntmps244
  go_wp2
  go_loopg [0] n (fun kx s0 wr => ∃ k : Nat, k ≤ n ∧ k ≤ kx ∧ s0 = .slice p k c ∧ wr = w ∧ Aside (∀ j : Nat, k ≤ j → j < n → f j = 0))
  case atStart => exact ⟨n, Nat.le_refl _, Nat.le_refl _, rfl, rfl, fun j h1 h2 => absurd h2 (by omega)⟩
  case round =>
    obtain ⟨k, hkn, hkx, rfl, rfl, I⟩ := hrel
    by_cases h0 : 0 < k
    · obtain ⟨t, rfl⟩ : ∃ t, k = t + 1 := ⟨k - 1, by omega⟩
      obtain ⟨blk, o, rfl, hc⟩ := H1.out (by omega)
      have hct := hc t (by omega)
      have HX : Aside (f t < 256) := HF.out t
      clear hc
      have hqz : ((t + 1 : Nat) : Int) = (t : Int) + 1 := by omega
      have htz : ((t : Int)).toNat = t := by omega
      have htc : (t : Int) < ((t : Int) + 1) := by omega
      by_cases hin : f t = 0
      · have hxe : ((f t : Nat) : Int) = 0 := by omega
        have HI : Aside (f t = 0) := hin
        clear hin
        go_wp2
        go_roundg t
        case measure => omega
        case rel =>
          have I2 : Aside (∀ j : Nat, t ≤ j → j < n → f j = 0) := fun j hj hy => by
            by_cases e : j = t
            · subst e; exact HI.out
            · exact I.out j (by omega) hy
          exact ⟨t, by omega, Nat.le_refl _, by first | rfl | simp, rfl, I2⟩
      · have hxe : ¬ ((f t : Nat) : Int) = 0 := by omega
        have hbe : (((f t : Nat) : Int) == 0) = false := by simpa using hxe
        have HI : Aside (f t ≠ 0) := hin
        clear hin
        go_wp2
        go_ret
        exact ⟨⟨t + 1, by omega, by first | rfl | simp, .inr (by simpa using HI.out), I.out⟩, rfl⟩
    · obtain rfl : k = 0 := by omega
      go_wp2
      go_ret
      exact ⟨⟨0, by omega, by first | rfl | simp, .inl rfl, I.out⟩, rfl⟩
theorem byteAt_top {N : Nat} (h : N ≠ 0) : byteAt N (Nat.log2 N / 8) ≠ 0 ∧ ∀ j, Nat.log2 N / 8 < j → byteAt N j = 0 := by
  have h1 := Nat.log2_self_le h
  have h2 := Nat.lt_log2_self (n := N)
  refine ⟨?_, fun j hj => ?_⟩
  · unfold byteAt
    rw [Nat.shiftRight_eq_div_pow]
    have e : 8 * (Nat.log2 N / 8) ≤ Nat.log2 N := Nat.mul_div_le _ _
    have hp : 0 < 2 ^ (8 * (Nat.log2 N / 8)) := Nat.two_pow_pos _
    have h3 : 1 ≤ N / 2 ^ (8 * (Nat.log2 N / 8)) := (Nat.one_le_div_iff hp).2 (Nat.le_trans (Nat.pow_le_pow_right (by decide) e) h1)
    have h4 : N / 2 ^ (8 * (Nat.log2 N / 8)) < 256 := by
      rw [Nat.div_lt_iff_lt_mul hp]
      have : (256 : Nat) = 2 ^ 8 := rfl
      rw [this, ← Nat.pow_add]
      exact Nat.lt_of_lt_of_le h2 (Nat.pow_le_pow_right (by decide) (by omega))
    rw [Nat.mod_eq_of_lt h4]
    omega
  · unfold byteAt
    rw [Nat.shiftRight_eq_div_pow, Nat.div_eq_of_lt]
    exact Nat.lt_of_lt_of_le h2 (Nat.pow_le_pow_right (by decide) (by omega))
theorem byteAt_mod {N n i : Nat} (h : i < n) : byteAt (N % 2 ^ (8 * n)) i = byteAt N i := by
  have := byteAt_sub N 0 n i h
  simpa using this
noncomputable def trimRB : SumF := fun args σ k =>
  args.asCons false fun s r => r.asCons false fun c r => r.asCons (AV.of_u8 c (fun c => sel (Nat.beq c 0)
    (s.asSl (k .snil σ) fun β off len ex cp es => sel (Nat.beq len 0) (k s σ) (sel (Nat.ble len 9223372036854775807) (loadBlkN σ β off len fun r => r.asRb fun _ N =>
      forceN (Nat.mod N (Nat.pow 2 (Nat.mul 8 len))) fun N => sel (Nat.beq N 0) (k (.slice β off 0 ex cp es) σ) (k (.slice β off (Nat.succ (Nat.div (Nat.log2 N) 8)) ex cp es) σ)) false)) false) fun _ => false) fun _ _ => false
theorem trim_ok {args : AV} {σ : Hp} {k : KV} (hk : trimRB args σ k = true) : ∃ v σ', k v σ' = true ∧ CallOK Tryz.prog 244 σ args v σ' := by
  have hcall : ∀ xs w, (callFunc 244 xs).run Tryz.prog w = .ok (.enter 244 xs) w := fun xs w => by
    unfold callFunc
    simp [Tryz.func244]
    rfl
  rcases AV.asCons_true hk with ⟨_, h⟩ | ⟨s, r, rfl, hk1⟩
  · cases h
  rcases AV.asCons_true hk1 with ⟨_, h⟩ | ⟨c, r, rfl, hk2⟩
  · cases h
  rcases AV.asCons_true hk2 with ⟨rfl, hk3⟩ | ⟨_, _, _, h⟩
  case inr => cases h
  rcases acc_true (q := .u8) rfl hk3 with ⟨n, rfl, hk4⟩ | ⟨_, _, h⟩
  case inr => cases h
  obtain ⟨hn, hk5⟩ := sel_yes hk4
  have hn0 : n = 0 := Nat.eq_of_beq_eq_true hn
  subst hn0
  have two : ∀ {φ : Emb} {κ : Nat → Nat} {xs : Array Value}, LR φ κ (.cons s (.cons (.nat .u8 0) .nil)) xs.toList → ∃ sv, xs = #[sv, .int .u8 0] ∧ VR φ κ s sv := fun {φ κ xs} hl => by
    obtain ⟨y, ys, e, hy, h1⟩ := hl.cons_inv
    obtain ⟨z, zs, rfl, hz, h2⟩ := h1.cons_inv
    have := h2.nil_inv
    subst this
    cases hz
    exact ⟨y, Array.toList_inj.1 (by simpa using e), hy⟩
  rcases AV.asSl_true hk5 with ⟨rfl, hk6⟩ | ⟨β, off, len, ex, cp, es, rfl, hk6⟩
  · refine ⟨_, _, hk6, hcall, fun {B φ w xs} r hB hl => ?_⟩
    obtain ⟨sv, rfl, hs⟩ := two hl
    cases hs
    refine (callsIn_wide.2 (trim_walk none 0 0 (fun _ => 0) w (Nat.le_refl _) (by omega) (fun _ => by omega) (fun h => absurd h (by omega)))).mono ?_
    rintro e w' ⟨⟨kk, hkk, rfl, _⟩, rfl⟩
    obtain rfl : kk = 0 := by omega
    exact ⟨_, rfl, φ, r, .refl _ _ _ _, .snil, rfl, rfl, rfl⟩
  · rw [sel_true_iff] at hk6
    rcases hk6 with ⟨hl0, hk7⟩ | ⟨hl0, hk7⟩
    · have hlz : len = 0 := Nat.eq_of_beq_eq_true hl0
      subst hlz
      refine ⟨_, _, hk7, hcall, fun {B φ w xs} r hB hl => ?_⟩
      obtain ⟨sv, rfl, hs⟩ := two hl
      have hsv : ∃ a c, sv = .slice a 0 c := by cases hs <;> exact ⟨_, _, rfl⟩
      obtain ⟨a, c, rfl⟩ := hsv
      refine (callsIn_wide.2 (trim_walk a 0 c (fun _ => 0) w (Nat.zero_le _) (by omega) (fun _ => by omega) (fun h => absurd h (by omega)))).mono ?_
      rintro e w' ⟨⟨kk, hkk, rfl, _⟩, rfl⟩
      obtain rfl : kk = 0 := by omega
      exact ⟨_, rfl, φ, r, .refl _ _ _ _, hs, rfl, rfl, rfl⟩
    · obtain ⟨hbig, hk8⟩ := sel_yes hk7
      obtain ⟨rr, hk9, hload⟩ := loadBlkN_sound hk8
      obtain ⟨m, N, rfl, hk10⟩ := AV.asRb_true hk9
      rw [forceN_eq] at hk10
      have hlen : 0 < len := by
        rcases Nat.eq_zero_or_pos len with h | h
        · subst h; simp at hl0
        · exact h
      -- what both ends share
      have fin : ∀ k0, k0 ≤ len → (k0 = 0 ∨ byteAt (N % 2 ^ (8 * len)) (k0 - 1) ≠ 0) → (∀ j, k0 ≤ j → byteAt (N % 2 ^ (8 * len)) j = 0) → k (.slice β off k0 ex cp es) σ = true → ∃ v σ', k v σ' = true ∧ CallOK Tryz.prog 244 σ (.cons (.slice β off len ex cp es) (.cons (.nat .u8 0) .nil)) v σ' := fun k0 hk0 htop hrest hkk => by
        refine ⟨_, _, hkk, hcall, fun {B φ w xs} r hB hl => ?_⟩
        obtain ⟨sv, rfl, hs⟩ := two hl
        cases hs with
        | slice0 => exact absurd hlen (Nat.lt_irrefl _)
        | slice _ _ _ _ _ _ b d c' hβ hx hc hll hr =>
          obtain ⟨cs, e, fz, h1, h2, h3⟩ := hload r hβ
          have hlenl : ((cs.toList.drop (d + off)).take len).length = len := by simp; omega
          refine (callsIn_wide.2 (trim_walk (some ⟨b, d + off, none⟩) len c' (byteAt (N % 2 ^ (8 * len))) w (by omega) (Nat.le_of_ble_eq_true hbig) (fun i => byteAt_lt _ _) (fun _ => ⟨b, d + off, rfl, fun i hi => ?_⟩))).mono ?_
          · obtain ⟨v, q1, q2, q3⟩ := h3 i (by omega)
            rw [cell?_of h1]
            simp only [List.getElem_take, List.getElem_drop, Array.getElem_toList] at q3
            rw [Array.getElem?_eq_getElem (by omega)]
            congr 1
            unfold AV.rget at q1
            split at q1
            · cases q1
              rw [byteAt_mod hi]
              have hnv : ∀ {x : Value} {m : Nat}, VR φ (csz w.heap) (.nat .u8 m) x → x = .int .u8 (Int.ofNat m) := fun h => by cases h; rfl
              exact hnv q3
            · cases q1
          · rintro e' w' ⟨⟨kk, hkk1, rfl, hkk2, hkk3⟩, rfl⟩
            have : kk = k0 := by
              rcases Nat.lt_trichotomy kk k0 with h | h | h
              · rcases htop with h0 | h0
                · omega
                · exact absurd (hkk3 (k0 - 1) (by omega) (by omega)) h0
              · exact h
              · rcases hkk2 with h0 | h0
                · omega
                · exact absurd (hrest (kk - 1) (by omega)) h0
            subst this
            exact ⟨_, rfl, φ, r, .refl _ _ _ _, .slice β off kk ex cp es b d c' hβ hx hc (by omega) hr, rfl, rfl, rfl⟩
      rw [sel_true_iff] at hk10
      rcases hk10 with ⟨hN, hk11⟩ | ⟨hN, hk11⟩
      · have hNz : N % 2 ^ (8 * len) = 0 := Nat.eq_of_beq_eq_true hN
        exact fin 0 (Nat.zero_le _) (.inl rfl) (fun j _ => by rw [hNz]; exact byteAt_zero j) hk11
      · have hNz : N % 2 ^ (8 * len) ≠ 0 := fun h => by
          have h1 : Nat.beq (N % 2 ^ (8 * len)) 0 = true := by rw [h]; rfl
          have h2 : Nat.beq (N % 2 ^ (8 * len)) 0 = false := hN
          rw [h1] at h2; cases h2
        obtain ⟨t1, t2⟩ := byteAt_top hNz
        have hlt : Nat.log2 (N % 2 ^ (8 * len)) < 8 * len := (Nat.log2_lt hNz).2 (Nat.mod_lt _ (Nat.two_pow_pos _))
        exact fin _ (by simp only [Nat.succ_eq_add_one]; show Nat.log2 (N % 2 ^ (8 * len)) / 8 + 1 ≤ len; omega) (.inr (by simpa using t1)) (fun j hj => t2 j hj) hk11
end Go.Am
