import Derived.Test.YtfdbmpokhfjdoaaGreatDoorSmN
import Derived.Test.YtfdbmpokhfjdoaaGreatDoorSmP
import Derived.Lib.Bytealg
set_option linter.unusedVariables false
set_option linter.unusedSimpArgs false
namespace Go.Proofs
open Go Go.RowKit
/-- Bytes in the order of texts. -/
def cmpL (a b : List UInt8) : Int := if Op.bytesLess a b then -1 else if Op.bytesLess b a then 1 else 0
theorem cmpL_eq2 : ∀ (a b : List UInt8), Lib.compareBytes a b = cmpL a b
  | [], [] => by simp [Lib.compareBytes, cmpL, Op.bytesLess]
  | [], _ :: _ => by simp [Lib.compareBytes, cmpL, Op.bytesLess]
  | _ :: _, [] => by simp [Lib.compareBytes, cmpL, Op.bytesLess]
  | a :: l, b :: m => by
    unfold Lib.compareBytes
    rw [cmpL_eq2 l m]
    unfold cmpL
    simp only [Op.bytesLess]
    rcases Nat.lt_trichotomy a.toNat b.toNat with h | h | h
    · have h1 : a < b := h
      have h2 : ¬ b < a := fun h' => by have : b.toNat < a.toNat := h'; omega
      simp [h1, h2]
    · have e : a = b := UInt8.toNat_inj.1 h
      subst e
      simp
    · have h1 : b < a := h
      have h2 : ¬ a < b := fun h' => by have : a.toNat < b.toNat := h'; omega
      have h3 : ¬ a = b := fun e => by subst e; omega
      have h4 : ¬ b = a := fun e => h3 e.symm
      simp [h1, h2, h3, h4]
theorem run_loadBytes {P : Program} {w : World} {b : Nat} : ∀ (xs : List UInt8) (o : Nat) (acc : ByteArray), (∀ i (h : i < xs.length), w.cell? ⟨b, o + i, none⟩ = some (.int .u8 (xs[i].toNat : Int))) →
    (Extern.Bytes.loadBytes ⟨b, o, none⟩ xs.length acc).run P w = .ok ⟨(acc.data.toList ++ xs).toArray⟩ w := by
  intro xs
  induction xs with
  | nil => intro o acc h; simp [Extern.Bytes.loadBytes]
  | cons x xs ih =>
    intro o acc h
    have h0 := h 0 (by simp)
    simp only [Nat.add_zero, List.getElem_cons_zero] at h0
    have hl : (load ⟨b, o, none⟩).run P w = .ok (.int .u8 (x.toNat : Int)) w := by
      simp [load, Sem.run, h0]
    show (Extern.Bytes.loadBytes ⟨b, o, none⟩ (xs.length + 1) acc).run P w = _
    unfold Extern.Bytes.loadBytes
    simp only [Sem.run_bind, hl, Result.andThen_ok]
    have := ih (o + 1) (acc.push (x.toNat : Int).toNat.toUInt8) fun i hi => by
      have := h (i + 1) (by simp; omega)
      simp only [List.getElem_cons_succ] at this
      rw [← this]
      congr 2
      omega
    rw [Am.Addr.add_none, this]
    simp [ByteArray.push]
set_option maxHeartbeats 1000000 in
set_option maxRecDepth 100000 in
theorem Tryz.compare_walk (p q : Option Addr) (c c2 : Nat) (xs ys : List UInt8) (w : World) (h1 : xs ≠ [] → ∃ b o, p = some ⟨b, o, none⟩ ∧ ∀ i (h : i < xs.length), w.cell? ⟨b, o + i, none⟩ = some (.int .u8 (xs[i].toNat : Int)))
    (h2 : ys ≠ [] → ∃ b o, q = some ⟨b, o, none⟩ ∧ ∀ i (h : i < ys.length), w.cell? ⟨b, o + i, none⟩ = some (.int .u8 (ys[i].toNat : Int))) :
    Calls Tryz.prog 138 #[.slice p xs.length c, .slice q ys.length c2] w fun e w' => e = .returned (.int .i64 (cmpL xs ys)) ∧ w' = w := by
  have key : ∀ (p : Option Addr) (c : Nat) (xs : List UInt8), (xs ≠ [] → ∃ b o, p = some ⟨b, o, none⟩ ∧ ∀ i (h : i < xs.length), w.cell? ⟨b, o + i, none⟩ = some (.int .u8 (xs[i].toNat : Int))) → (Extern.Bytes.bytesOf (.slice p xs.length c)).run Tryz.prog w = .ok ⟨xs.toArray⟩ w := fun p c xs h => by
    cases p with
    | none =>
      by_cases hx : xs = []
      · subst hx; rfl
      · obtain ⟨b, o, e, _⟩ := h hx; cases e
    | some a =>
      by_cases hx : xs = []
      · subst hx; simp [Extern.Bytes.bytesOf, Extern.Bytes.loadBytes]; rfl
      · obtain ⟨b, o, e, hc⟩ := h hx
        cases e
        have := run_loadBytes (P := Tryz.prog) xs o .empty hc
        simpa [Extern.Bytes.bytesOf] using this
  have hrun : (Extern.BytealgCompare.compare #[.slice p xs.length c, .slice q ys.length c2]).run Tryz.prog w = .ok (.int .i64 (cmpL xs ys)) w := by
    show (do pure (goInt (Extern.BytealgCompare.cmp (← Extern.Bytes.bytesOf (.slice p xs.length c)) (← Extern.Bytes.bytesOf (.slice q ys.length c2)))) : Sem Value).run Tryz.prog w = _
    simp only [Sem.run_bind, key p c xs h1, key q c2 ys h2, Result.andThen_ok, Sem.run_pure, Lib.cmp_eq, cmpL_eq2]
    rfl
  clear key h1 h2
  go_enter Tryz.func138, Tryz.ntmps138
  go_wp2
  rw [run_callFunc_extern Tryz.func204 (by kernel_rfl) (by kernel_rfl) (by kernel_rfl) (e := Extern.BytealgCompare.compare) (by kernel_rfl), hrun]
  simp only [Result.andThen]
  rw [Oper.upon_value]
  go_wp2
  go_ret
  exact ⟨rfl, rfl⟩
end Go.Proofs
namespace Go.Am
open Go Go.Proofs
/-- A slice of bytes: how many, packed. -/
noncomputable def bytesK (σ : Hp) (s : AV) (k : Nat → Nat → Bool) : Bool := s.asSl (k 0 0) fun β off len _ _ _ =>
  sel (Nat.beq len 0) (k 0 0) (loadBlkN σ β off len fun r => r.asRb fun n N => sel (Nat.beq n len) (forceN (Nat.mod N (Nat.pow 2 (Nat.mul 8 n))) fun N => k n N) false)
/-- What a slice of bytes is. -/
def BytesAt (w : World) (xs : List UInt8) (sv : Value) : Prop := ∃ p c, sv = .slice p xs.length c ∧ (xs ≠ [] → ∃ b o, p = some ⟨b, o, none⟩ ∧ ∀ i (h : i < xs.length), w.cell? ⟨b, o + i, none⟩ = some (.int .u8 (xs[i].toNat : Int)))
theorem bytesK_true {P : Program} {σ : Hp} {s : AV} {k : Nat → Nat → Bool} (hk0 : bytesK σ s k = true) : ∃ xs : List UInt8, k xs.length (packL xs) = true ∧
    ∀ {B : Fz} {φ : Emb} {w : World} {sv : Value}, Rel P B φ σ w.heap → VR φ (csz w.heap) s sv → BytesAt w xs sv := by
  rcases AV.asSl_true hk0 with ⟨rfl, hk⟩ | ⟨β, off, len, ex, c, es', rfl, hk'⟩
  · refine ⟨[], hk, fun {B φ w sv} r hv => ?_⟩
    cases hv
    exact ⟨_, _, rfl, fun h => absurd rfl h⟩
  · rw [sel_true_iff] at hk'
    rcases hk' with ⟨h1, hk⟩ | ⟨h1, hk⟩
    · have hl : len = 0 := Nat.eq_of_beq_eq_true h1
      subst hl
      refine ⟨[], hk, fun {B φ w sv} r hv => ?_⟩
      have : ∃ a c', sv = .slice a 0 c' := by cases hv <;> exact ⟨_, _, rfl⟩
      obtain ⟨a, c', rfl⟩ := this
      exact ⟨_, _, rfl, fun h => absurd rfl h⟩
    · obtain ⟨rr, hk2, hr⟩ := loadBlkN_sound hk
      obtain ⟨n, N, rfl, hk3⟩ := AV.asRb_true hk2
      obtain ⟨h2, hk4⟩ := sel_yes hk3
      have hn : n = len := Nat.eq_of_beq_eq_true h2
      subst hn
      rw [forceN_eq] at hk4
      let l : List UInt8 := (List.range n).map fun i => UInt8.ofNat (byteAt N i)
      have hll : l.length = n := by simp [l]
      have hpk : packL l = Nat.mod N (Nat.pow 2 (Nat.mul 8 n)) := by
        refine byteAt_ext (n := n) (by have := packL_lt l; rwa [hll] at this) (Nat.mod_lt _ (Nat.two_pow_pos _)) fun i hi => ?_
        rw [byteAt_packL _ _ (by omega)]
        have h0 := byteAt_sub N 0 n i hi
        simp only [Nat.mul_zero, Nat.shiftRight_zero, Nat.zero_add] at h0
        show _ = byteAt (N % 2 ^ (8 * n)) i
        rw [h0]
        have : byteAt N i < 256 := byteAt_lt _ _
        simp [l, Nat.mod_eq_of_lt this]
      refine ⟨l, by rw [hll, hpk]; exact hk4, fun {B φ w sv} r hxv => ?_⟩
      cases hxv with
      | slice0 => simp at h1
      | slice _ _ _ _ _ _ b d c' hβ hx1 hc hlc hrm =>
        obtain ⟨cs, e, fz, q1, q2, q3⟩ := hr r hβ
        refine ⟨some ⟨b, d + off, none⟩, c', by rw [hll], fun _ => ⟨b, d + off, rfl, fun j hj => ?_⟩⟩
        rw [cell?_of q1]
        rw [hll] at hj
        obtain ⟨v, p1, p2, p3⟩ := q3 j (by simp; omega)
        rw [rget_rb hj] at p1
        cases p1
        rw [List.getElem_take, List.getElem_drop, Array.getElem_toList] at p3
        have hj' : d + off + j < cs.size := by omega
        rw [Array.getElem?_eq_getElem hj']
        generalize cs[d + off + j] = X at p3
        cases p3
        have : byteAt N j < 256 := byteAt_lt _ _
        simp [l, Nat.mod_eq_of_lt this]
/-- bytes.Compare. -/
noncomputable def compareF : SumF := fun args σ k => args.asCons false fun a r => r.asCons false fun b r => r.asCons (bytesK σ a fun n N => bytesK σ b fun m M =>
  sel (strLt (Nat.succ n) n N m M) (k (.neg .i64 0) σ) (sel (strLt (Nat.succ m) m M n N) (k (.nat .i64 1) σ) (k (.nat .i64 0) σ))) fun _ _ => false
theorem compare_ok {args : AV} {σ : Hp} {k : KV} (hk : compareF args σ k = true) : ∃ v σ', k v σ' = true ∧ CallOK Tryz.prog 138 σ args v σ' := by
  have hcall : ∀ xs w, (callFunc 138 xs).run Tryz.prog w = .ok (.enter 138 xs) w := fun xs w => by
    unfold callFunc
    simp [Tryz.func138]
    rfl
  rcases AV.asCons_true hk with ⟨_, h⟩ | ⟨a, r, rfl, hk1⟩
  · cases h
  rcases AV.asCons_true hk1 with ⟨_, h⟩ | ⟨b, r, rfl, hk2⟩
  · cases h
  rcases AV.asCons_true hk2 with ⟨rfl, hk3⟩ | ⟨_, _, _, h⟩
  case inr => cases h
  obtain ⟨xs, hk4, hx⟩ := bytesK_true (P := Tryz.prog) hk3
  obtain ⟨ys, hk5, hy⟩ := bytesK_true (P := Tryz.prog) hk4
  rw [strLt_eq _ _ _ (Nat.lt_succ_self _), strLt_eq _ _ _ (Nat.lt_succ_self _)] at hk5
  have fin : ∀ v : AV, (∀ φ κ, VR φ κ v (.int .i64 (cmpL xs ys))) → k v σ = true → ∃ v σ', k v σ' = true ∧ CallOK Tryz.prog 138 σ (.cons a (.cons b .nil)) v σ' := fun v hv hkv => by
    refine ⟨v, σ, hkv, hcall, fun {B φ w vs} r hB hl => ?_⟩
    obtain ⟨y, ys', e, hy1, h1⟩ := hl.cons_inv
    obtain ⟨z, zs, rfl, hz1, h2⟩ := h1.cons_inv
    have := h2.nil_inv
    subst this
    obtain ⟨p, c, rfl, q1⟩ := hx r hy1
    obtain ⟨q, c2, rfl, q2⟩ := hy r hz1
    have hvs : vs = #[.slice p xs.length c, .slice q ys.length c2] := Array.toList_inj.1 (by simpa using e)
    subst hvs
    refine (callsIn_wide.2 (Tryz.compare_walk p q c c2 xs ys w q1 q2)).mono ?_
    rintro e' w' ⟨rfl, rfl⟩
    exact ⟨_, rfl, φ, r, .refl _ _ _ _, hv _ _, rfl, rfl, rfl⟩
  rw [sel_true_iff] at hk5
  rcases hk5 with ⟨h1, hk6⟩ | ⟨h1, hk6⟩
  · refine fin _ (fun φ κ => ?_) hk6
    have : cmpL xs ys = -1 := by unfold cmpL; rw [if_pos h1]
    rw [this]
    exact .neg .i64 0
  · rw [sel_true_iff] at hk6
    rcases hk6 with ⟨h2, hk7⟩ | ⟨h2, hk7⟩
    · refine fin _ (fun φ κ => ?_) hk7
      have : cmpL xs ys = 1 := by unfold cmpL; rw [if_neg (by rw [h1]; decide), if_pos h2]
      rw [this]
      exact .nat .i64 1
    · refine fin _ (fun φ κ => ?_) hk7
      have : cmpL xs ys = 0 := by unfold cmpL; rw [if_neg (by rw [h1]; decide), if_neg (by rw [h2]; decide)]
      rw [this]
      exact .nat .i64 0
/-- The summaries of layer 23's runs. -/
noncomputable def S23 : Nat → Option SumF := withF 112 markByteF SB
theorem S23_ok : SumOK Tryz.prog S23 := with_ok SB_ok markByte_ok
/-- The summaries of layer 23's runs, with bytes.Compare. -/
noncomputable def S23c : Nat → Option SumF := withF 138 compareF S23
theorem S23c_ok : SumOK Tryz.prog S23c := with_ok S23_ok compare_ok
end Go.Am
