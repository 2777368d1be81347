import Derived.Test.YtfdbmpokhfjdoaaGreatDoorAmS9
set_option linter.unusedVariables false
set_option linter.unusedSimpArgs false
/-! Soundness, 10: slices, places. -/
namespace Go.Am
open Go
section
variable {P : Program} {σ : Hp} {t : Regs} {ls : Ls} {k : AV → Bool}
/-- An operand that may lack. -/
def OptR (φ : Emb) (κ : Nat → Nat) (t : Regs) (ls : Ls) : Option OpdF → Option Value → Prop
  | none, none => True
  | some f, some v => VR φ κ (f t ls) v
  | _, _ => False
theorem optEv_true {x : Option OpdF} {d : Nat} {k : Nat → Bool} (h : optEv x t ls d k = true) : ∃ n, k n = true ∧ ∀ {φ κ xv}, OptR φ κ t ls x xv → (x = none ∧ xv = none ∧ n = d) ∨ (x.isSome = true ∧ ∃ q, xv = some (.int q (n : Int))) := by
  cases x with
  | none => exact ⟨d, h, fun {φ κ xv} hx => by cases xv with
                                                | none => exact .inl ⟨rfl, rfl, rfl⟩
                                                | some v => exact hx.elim⟩
  | some f =>
    obtain ⟨q, n, hf, h⟩ := AV.asNat_true h
    refine ⟨n, h, fun {φ κ xv} hx => .inr ⟨rfl, ?_⟩⟩
    cases xv with
    | none => exact hx.elim
    | some v =>
      have hx : VR φ κ (f t ls) v := hx
      rw [hf] at hx
      cases hx
      exact ⟨q, rfl⟩
theorem sliceBound_run {w : World} {q : IntKind} {n y : Nat} {c : BoundsCode} (h : n ≤ y) : (Instr.sliceBound (.int q (n : Int)) y c).run P w = .ok n w := by
  have : (0 : Int) ≤ (n : Int) ∧ (n : Int) ≤ (y : Int) := by omega
  simp [Instr.sliceBound, asIntOf, this]
theorem sliceBounds_run {w : World} {b : Bool} {len cap l h m : Nat} {lov hiv mxv : Option Value} (hl : (lov = none ∧ l = 0) ∨ ∃ q, lov = some (.int q (l : Int))) (hh : (hiv = none ∧ mxv = none ∧ h = len) ∨ ∃ q, hiv = some (.int q (h : Int)))
    (hm : (mxv = none ∧ m = cap) ∨ ∃ q, mxv = some (.int q (m : Int))) (h1 : l ≤ h) (h2 : h ≤ m) (h3 : m ≤ cap) : (Instr.sliceBounds b len cap lov hiv mxv).run P w = .ok (l, h, m) w := by
  rcases hm with ⟨rfl, rfl⟩ | ⟨qm, rfl⟩
  · rcases hh with ⟨rfl, _, rfl⟩ | ⟨qh, rfl⟩ <;> rcases hl with ⟨rfl, rfl⟩ | ⟨ql, rfl⟩ <;> simp [Instr.sliceBounds, sliceBound_run, h1, h2, h3]
  · rcases hh with ⟨_, h0, _⟩ | ⟨qh, rfl⟩
    · cases h0
    · rcases hl with ⟨rfl, rfl⟩ | ⟨ql, rfl⟩ <;> simp [Instr.sliceBounds, sliceBound_run, h1, h2, h3]
/-- What a slice of cells comes to. -/
theorem sliceK_s {β : Ad} {off len : Nat} {ex : Bool} {c es : Nat} {lo hi mx : Option OpdF} (hmx : (mx.isSome && hi.isNone) = false) (hk : sliceK β off len ex c es t ls lo hi mx k = true) :
    ∃ v, k v = true ∧ ∀ {φ κ lov hiv mxv}, OptR φ κ t ls lo lov → OptR φ κ t ls hi hiv → OptR φ κ t ls mx mxv → ∀ {a : Option Addr} {c' : Nat}, VR φ κ (.slice β off len ex c es) (.slice a len c') →
      ∃ l h m, (∀ (P : Program) (w : World) (b : Bool), (Instr.sliceBounds b len c' lov hiv mxv).run P w = .ok (l, h, m) w) ∧ VR φ κ v (.slice (if m = l then a else a.map (·.add (l * es))) (h - l) (m - l)) := by
  unfold sliceK at hk
  obtain ⟨l, hk, hl⟩ := optEv_true hk
  obtain ⟨h, hk, hh⟩ := optEv_true hk
  obtain ⟨h1, hk⟩ := sel_yes hk
  have hlh : l ≤ h := Nat.le_of_ble_eq_true h1
  -- the slice that comes of it
  have fin : ∀ {φ κ} (ex' : Bool) (c2 m : Nat) {a : Option Addr} {c' : Nat}, VR φ κ (.slice β off len ex c es) (.slice a len c') → h ≤ c2 → c2 ≤ m → m ≤ c' → (ex' = true → m = c2) →
      VR φ κ (.slice β (Nat.add off (Nat.mul l es)) (Nat.sub h l) ex' (Nat.sub c2 l) es) (.slice (if m = l then a else a.map (·.add (l * es))) (h - l) (m - l)) := fun {φ κ} ex' c2 m a c' hv q1 q2 q3 q4 => by
    simp only [Nat.add_eq, Nat.mul_eq, Nat.sub_eq]
    by_cases hml : m = l
    · rw [if_pos hml, show h - l = 0 by omega, show c2 - l = 0 by omega, show m - l = 0 by omega]
      cases hv with
      | slice _ _ _ _ _ _ b d _ hβ hx hc hll hr => exact .slice0 β _ ex' es b d (d + off) hβ
      | slice0 _ _ _ _ b d q hβ => exact .slice0 β _ ex' es b d q hβ
    · rw [if_neg hml]
      cases hv with
      | slice _ _ _ _ _ _ b d _ hβ hx hc hll hr =>
        simp only [Option.map_some, Addr.add_none]
        rw [Nat.add_assoc]
        refine .slice β _ _ ex' _ es b d _ hβ (fun he => by rw [q4 he]) ⟨by omega, by omega⟩ (by omega) ?_
        have : l * es + (m - l) * es = m * es := by rw [← Nat.add_mul]; congr 1; omega
        have h2 : m * es ≤ c' * es := Nat.mul_le_mul_right _ q3
        omega
      | slice0 => omega
  cases mx with
  | none =>
    obtain ⟨h2, hk⟩ := sel_yes hk
    have hhc : h ≤ c := Nat.le_of_ble_eq_true h2
    refine ⟨_, hk, fun {φ κ lov hiv mxv} r1 r2 r3 a c' hv => ?_⟩
    have hmn : mxv = none := by cases mxv with
      | none => rfl
      | some v => exact r3.elim
    subst hmn
    have hcc : c ≤ c' ∧ (ex = true → c' = c) := by cases hv with
      | slice _ _ _ _ _ _ b d _ hβ hx hc hll hr => exact ⟨hc.1, hx⟩
      | slice0 => exact ⟨Nat.le_refl _, fun _ => rfl⟩
    refine ⟨l, h, c', fun P w b => sliceBounds_run ?_ ?_ (.inl ⟨rfl, rfl⟩) hlh (by omega) (Nat.le_refl _), fin ex c c' hv hhc hcc.1 (Nat.le_refl _) hcc.2⟩
    · rcases hl r1 with ⟨_, h3, h4⟩ | ⟨_, h3⟩
      · exact .inl ⟨h3, h4⟩
      · exact .inr h3
    · rcases hh r2 with ⟨_, h3, h4⟩ | ⟨_, h3⟩
      · exact .inl ⟨h3, rfl, h4⟩
      · exact .inr h3
  | some mf =>
    obtain ⟨q, m, hm, hk⟩ := AV.asNat_true hk
    obtain ⟨h2, hk⟩ := sel_yes hk
    obtain ⟨h3, hk⟩ := sel_yes hk
    have hhm : h ≤ m := Nat.le_of_ble_eq_true h2
    have hmc : m ≤ c := Nat.le_of_ble_eq_true h3
    refine ⟨_, hk, fun {φ κ lov hiv mxv} r1 r2 r3 a c' hv => ?_⟩
    have hmn : mxv = some (.int q (m : Int)) := by
      cases mxv with
      | none => exact r3.elim
      | some v =>
        have r3 : VR φ κ (mf t ls) v := r3
        rw [hm] at r3
        cases r3; rfl
    subst hmn
    have hcc : c ≤ c' := by cases hv with
      | slice _ _ _ _ _ _ b d _ hβ hx hc hll hr => exact hc.1
      | slice0 => exact Nat.le_refl _
    refine ⟨l, h, m, fun P w b => sliceBounds_run ?_ ?_ (.inr ⟨q, rfl⟩) hlh hhm (by omega), fin true m m hv hhm (Nat.le_refl _) (by omega) (fun _ => rfl)⟩
    · rcases hl r1 with ⟨_, h3, h4⟩ | ⟨_, h3⟩
      · exact .inl ⟨h3, h4⟩
      · exact .inr h3
    · rcases hh r2 with ⟨h3, _⟩ | ⟨_, h3⟩
      · subst h3; simp at hmx
      · exact .inr h3
theorem rSlice_s {T E : TypeId} {es : Nat} {x : OpdF} {lo hi mx : Option OpdF} (hmx : (mx.isSome && hi.isNone) = false) (hk : rSlice es x lo hi mx t ls σ k = true) (hT : P.underlying T = some (.slice E)) (hE : szOf P E = some es) :
    ∃ v, k v = true ∧ ∀ {φ w xv lov hiv mxv}, VR φ (csz w.heap) (x t ls) xv → OptR φ (csz w.heap) t ls lo lov → OptR φ (csz w.heap) t ls hi hiv → OptR φ (csz w.heap) t ls mx mxv → RdS P φ w v (Instr.sliceAt T xv lov hiv mxv) := by
  rcases AV.asSl_true hk with ⟨hx, hk⟩ | ⟨β, off, len, ex, c, es', hx, hk⟩
  · unfold nilSliceK at hk
    obtain ⟨l, hk, hl⟩ := optEv_true hk
    obtain ⟨h, hk, hh⟩ := optEv_true hk
    obtain ⟨m, hk, hm⟩ := optEv_true hk
    obtain ⟨h1, hk⟩ := sel_yes hk
    obtain ⟨h2, hk⟩ := sel_yes hk
    obtain ⟨h3, hk⟩ := sel_yes hk
    have e1 : l = 0 := Nat.eq_of_beq_eq_true h1
    have e2 : h = 0 := Nat.eq_of_beq_eq_true h2
    have e3 : m = 0 := Nat.eq_of_beq_eq_true h3
    refine ⟨_, hk, fun {φ w xv lov hiv mxv} hxv r1 r2 r3 => ?_⟩
    rw [hx] at hxv
    cases hxv
    have hb : (Instr.sliceBounds true 0 0 lov hiv mxv).run P w = .ok (0, 0, 0) w := by
      refine sliceBounds_run ?_ ?_ ?_ (Nat.le_refl _) (Nat.le_refl _) (Nat.le_refl _)
      · rcases hl r1 with ⟨_, h3, h4⟩ | ⟨_, h3⟩
        · exact .inl ⟨h3, rfl⟩
        · rw [e1] at h3; exact .inr h3
      · rcases hh r2 with ⟨h3, h4, _⟩ | ⟨_, h3⟩
        · rcases hm r3 with ⟨_, h5, _⟩ | ⟨h5, _⟩
          · exact .inl ⟨h4, h5, rfl⟩
          · subst h3; simp [h5] at hmx
        · rw [e2] at h3; exact .inr h3
      · rcases hm r3 with ⟨_, h3, h4⟩ | ⟨_, h3⟩
        · exact .inl ⟨h3, rfl⟩
        · rw [e3] at h3; exact .inr h3
    refine ⟨.slice none 0 0, ?_, .snil⟩
    simp [Instr.sliceAt, Instr.slice, underlying, hT, hb, szOf_run hE]
  · replace hk := sel_yes hk
    obtain ⟨h1, hk⟩ := hk
    have he : es = es' := Nat.eq_of_beq_eq_true h1
    subst he
    obtain ⟨v, hv, hs⟩ := sliceK_s hmx hk
    refine ⟨v, hv, fun {φ w xv lov hiv mxv} hxv r1 r2 r3 => ?_⟩
    rw [hx] at hxv
    have : ∃ a c', xv = .slice a len c' := by cases hxv <;> exact ⟨_, _, rfl⟩
    obtain ⟨a, c', rfl⟩ := this
    obtain ⟨l, h, m, hb, hv⟩ := hs r1 r2 r3 hxv
    refine ⟨_, ?_, hv⟩
    have hb := hb P w true
    simp [Instr.sliceAt, Instr.slice, underlying, hT, hb, szOf_run hE]
theorem rSliceA_s {T A E : TypeId} {n es : Nat} {x : OpdF} {lo hi mx : Option OpdF} (hmx : (mx.isSome && hi.isNone) = false) (hk : rSliceA n es x lo hi mx t ls σ k = true)
    (hT : P.underlying T = some (.array n E) ∨ (P.underlying T = some (.pointer A) ∧ P.underlying A = some (.array n E))) (hE : szOf P E = some es) :
    ∃ v, k v = true ∧ ∀ {B φ w xv lov hiv mxv}, Rel P B φ σ w.heap → VR φ (csz w.heap) (x t ls) xv → OptR φ (csz w.heap) t ls lo lov → OptR φ (csz w.heap) t ls hi hiv → OptR φ (csz w.heap) t ls mx mxv → RdS P φ w v (Instr.sliceAt T xv lov hiv mxv) := by
  obtain ⟨β, off, hx, hk⟩ := AV.asPtr_true hk
  obtain ⟨n', c, st, pl, sh, olds, hg, hk⟩ := Hp.cellsK_true hk
  obtain ⟨h1, hk⟩ := sel_yes hk
  have hle : off + n * es ≤ n' := Nat.le_of_ble_eq_true h1
  obtain ⟨hnM0, hk⟩ := sel_yes hk
  have hnM : n ≤ 9223372036854775807 := Nat.le_of_ble_eq_true hnM0
  obtain ⟨v, hv, hs⟩ := sliceK_s hmx hk
  refine ⟨v, hv, fun {B φ w xv lov hiv mxv} r hxv r1 r2 r3 => ?_⟩
  rw [hx] at hxv
  cases hxv with
  | ptr _ _ b d hβ =>
    obtain ⟨cs, e, fz, hw, hsz, _, _⟩ := r.cells hβ hg
    have hsl : VR φ (csz w.heap) (.slice β off n true n es) (.slice (some ⟨b, d + off, none⟩) n n) := .slice β off n true n es b d n hβ (fun _ => rfl) ⟨Nat.le_refl _, hnM⟩ (Nat.le_refl _) (by rw [csz_cells hw]; omega)
    obtain ⟨l, h, m, hb, hv⟩ := hs r1 r2 r3 hsl
    refine ⟨_, ?_, hv⟩
    have hb := hb P w false
    rcases hT with hT | ⟨hT, hA⟩
    · simp [Instr.sliceAt, underlying, hT, hb, szOf_run hE, Instr.sureAddr]
      split <;> rfl
    · simp [Instr.sliceAt, Instr.slice, underlying, hT, hA, hb, szOf_run hE, asAddr]
      split <;> rfl
theorem rSliceS_s {T : TypeId} {x : OpdF} {lo hi : Option OpdF} (hk : rSliceS x lo hi t ls σ k = true) (hT : P.underlying T = some .string) :
    ∃ v, k v = true ∧ ∀ {φ w xv lov hiv}, VR φ (csz w.heap) (x t ls) xv → OptR φ (csz w.heap) t ls lo lov → OptR φ (csz w.heap) t ls hi hiv → RdS P φ w v (Instr.sliceAt T xv lov hiv none) := by
  obtain ⟨n, N, hx, hk⟩ := AV.asStr_true hk
  obtain ⟨l, hk, hl⟩ := optEv_true hk
  obtain ⟨h, hk, hh⟩ := optEv_true hk
  obtain ⟨h1, hk⟩ := sel_yes hk
  obtain ⟨h2, hk⟩ := sel_yes hk
  have q1 : l ≤ h := Nat.le_of_ble_eq_true h1
  have q2 : h ≤ n := Nat.le_of_ble_eq_true h2
  refine ⟨_, hk, fun {φ w xv lov hiv} hxv r1 r2 => ?_⟩
  rw [hx] at hxv
  obtain ⟨s, rfl, rfl, rfl⟩ := hxv.str_inv
  have hb : (Instr.sliceBounds false s.size s.size lov hiv none).run P w = .ok (l, h, s.size) w := by
    refine sliceBounds_run ?_ ?_ (.inl ⟨rfl, rfl⟩) q1 (by rw [ba_size]; exact q2) (Nat.le_refl _)
    · rcases hl r1 with ⟨_, h3, h4⟩ | ⟨_, h3⟩
      · exact .inl ⟨h3, h4⟩
      · exact .inr h3
    · rcases hh r2 with ⟨_, h3, h4⟩ | ⟨_, h3⟩
      · exact .inl ⟨h3, rfl, by rw [ba_size]; exact h4⟩
      · exact .inr h3
  refine ⟨.string (s.extract l h), by simp [Instr.sliceAt, Instr.slice, underlying, hT, hb], ?_⟩
  have hd : (s.extract l h).data.toList = (s.data.toList.take h).drop l := by
    rw [ByteArray.data_extract, Array.toList_extract, List.extract_eq_take_drop, List.drop_take]
  refine .str' _ ?_ ?_
  · rw [hd]; simp only [List.length_drop, List.length_take, Nat.sub_eq, Nat.min_eq_left q2]
  · rw [hd, packL_sub _ _ _ q1 q2]; rfl
theorem rIdxa_s {T E : TypeId} {es : Nat} {x i : OpdF} (hk : rIdxa es x i t ls σ k = true) (hT : P.underlying T = some (.slice E)) (hE : szOf P E = some es) :
    ∃ v, k v = true ∧ ∀ {φ w xv iv}, VR φ (csz w.heap) (x t ls) xv → VR φ (csz w.heap) (i t ls) iv → RdS P φ w v (Instr.indexAt T xv iv) := by
  obtain ⟨q, i', hi, hk⟩ := AV.asNat_true hk
  rcases AV.asSl_true hk with ⟨_, hk⟩ | ⟨β, off, len, ex, c, es', hx, hk⟩
  · cases hk
  · replace hk := sel_yes hk
    obtain ⟨h1, hk⟩ := hk
    have he : es = es' := Nat.eq_of_beq_eq_true h1
    subst he
    obtain ⟨h2, hk⟩ := sel_yes hk
    have hlt : i' < len := Nat.le_of_ble_eq_true h2
    refine ⟨_, hk, fun {φ w xv iv} hxv hiv => ?_⟩
    rw [hx] at hxv; rw [hi] at hiv
    cases hiv
    cases hxv with
    | slice _ _ _ _ _ _ b d c' hβ hx hc hll hr =>
      refine ⟨.pointer (some ⟨b, d + (off + i' * es), none⟩), ?_, .ptr β _ b d hβ⟩
      simp [Instr.indexAt, underlying, hT, asIntOf, hlt, szOf_run hE, Addr.add_none, Nat.add_assoc]
    | slice0 => omega
theorem rIdxaA_s {T E : TypeId} {n es : Nat} {x i : OpdF} (hk : rIdxaA n es x i t ls σ k = true) (hT : P.underlying T = some (.array n E)) (hE : szOf P E = some es) :
    ∃ v, k v = true ∧ ∀ {φ w xv iv}, VR φ (csz w.heap) (x t ls) xv → VR φ (csz w.heap) (i t ls) iv → RdS P φ w v (Instr.indexAt T xv iv) := by
  obtain ⟨q, i', hi, hk⟩ := AV.asNat_true hk
  obtain ⟨β, off, hx, hk⟩ := AV.asPtr_true hk
  obtain ⟨h2, hk⟩ := sel_yes hk
  have hlt : i' < n := Nat.le_of_ble_eq_true h2
  refine ⟨_, hk, fun {φ w xv iv} hxv hiv => ?_⟩
  rw [hx] at hxv; rw [hi] at hiv
  cases hiv
  cases hxv with
  | ptr _ _ b d hβ =>
    refine ⟨.pointer (some ⟨b, d + (off + i' * es), none⟩), ?_, .ptr β _ b d hβ⟩
    simp [Instr.indexAt, underlying, hT, asIntOf, hlt, szOf_run hE, Addr.add_none, Nat.add_assoc, Instr.sureAddr]
theorem rS2ap_s {T E : TypeId} {n : Nat} {x : OpdF} (hk : rS2ap n x t ls σ k = true) (hT : P.underlying T = some (.array n E)) :
    ∃ v, k v = true ∧ ∀ {φ w xv}, VR φ (csz w.heap) (x t ls) xv → RdS P φ w v (Instr.arrayAt T xv) := by
  rcases AV.asSl_true hk with ⟨_, hk⟩ | ⟨β, off, len, ex, c, es', hx, hk⟩
  · cases hk
  · obtain ⟨h1, hk⟩ := sel_no hk
    obtain ⟨h2, hk⟩ := sel_yes hk
    have hle : n ≤ len := Nat.le_of_ble_eq_true h2
    refine ⟨_, hk, fun {φ w xv} hxv => ?_⟩
    rw [hx] at hxv
    cases hxv with
    | slice _ _ _ _ _ _ b d c' hβ hx hc hll hr =>
      refine ⟨.pointer (some ⟨b, d + off, none⟩), ?_, .ptr β _ b d hβ⟩
      have : ¬ len < n := by omega
      simp [Instr.arrayAt, underlying, hT, this]
    | slice0 => simp at h1
theorem nthK_true {k : AV → Bool} {l : AV} {i : Nat} (h : AV.nthK k l i = true) : ∃ v, k v = true ∧ ∀ {φ κ xs}, LR φ κ l xs → ∃ x, xs[i]? = some x ∧ VR φ κ v x := by
  induction l generalizing i with
  | cons a l _ ih =>
    cases i with
    | zero => exact ⟨a, h, fun hl => by obtain ⟨y, ys, rfl, h1, _⟩ := hl.cons_inv; exact ⟨y, rfl, h1⟩⟩
    | succ i =>
      obtain ⟨v, hv, hh⟩ := ih h
      exact ⟨v, hv, fun hl => by obtain ⟨y, ys, rfl, _, h2⟩ := hl.cons_inv; simpa using hh h2⟩
  | _ => cases h
theorem rExtract_s {x : OpdF} {i : Nat} (hk : rExtract x i t ls σ k = true) :
    ∃ v, k v = true ∧ ∀ {φ w xv}, VR φ (csz w.heap) (x t ls) xv → RdS P φ w v (Instr.extract xv i) := by
  obtain ⟨l, hx, hk⟩ := AV.asTup_true hk
  obtain ⟨v, hv, hh⟩ := nthK_true hk
  · refine ⟨v, hv, fun {φ w xv} hxv => ?_⟩
    rw [hx] at hxv
    obtain ⟨xs, rfl, hl⟩ := hxv.tup_inv
    obtain ⟨y, h1, h2⟩ := hh hl
    refine ⟨y, ?_, h2⟩
    have : xs[i]? = some y := by simpa using h1
    simp [Instr.extract, this]
end
end Go.Am
