import Derived.Test.YtfdbmpokhfjdoaaGreatDoorAmS11
set_option linter.unusedVariables false
set_option linter.unusedSimpArgs false
/-! Soundness, 12: likeness; what is built. -/
namespace Go.Am
open Go
/-- Equality of two values, by the model. -/
theorem binOp_eq {op : BinOp} {T : TypeId} {x y : Value} (ho : op = .eql ∨ op = .neq) (hx : (∀ k n, x ≠ .int k n) ∧ (∀ k n, x ≠ .float k n) ∧ (∀ k a b, x ≠ .complex k a b) ∧ ∀ s, x ≠ .string s) {P : Program} {w : World} {b : Bool} (h : (Op.equal T x y).run P w = .ok b w) :
    (binOp op T x y).run P w = .ok (.bool (Bool.xor (decide (op = .neq)) b)) w := by
  obtain ⟨h1, h2, h3, h4⟩ := hx
  rcases ho with rfl | rfl <;> cases x <;> first | exact absurd rfl (h1 _ _) | exact absurd rfl (h2 _ _) | exact absurd rfl (h3 _ _ _) | exact absurd rfl (h4 _) | simp [binOp, h]
section
variable {P : Program} {σ : Hp} {t : Regs} {ls : Ls} {k : AV → Bool}
theorem rBoolEq_s {T : TypeId} {ne : Bool} {op : BinOp} (ho : op = .eql ∨ op = .neq) (hne : ne = decide (op = .neq)) {x y : OpdF} (hT : P.underlying T = some .bool) (hk : rBoolEq ne x y t ls σ k = true) :
    ∃ v, k v = true ∧ ∀ {φ w xv yv}, VR φ (csz w.heap) (x t ls) xv → VR φ (csz w.heap) (y t ls) yv → (∃ a, xv = .bool a) ∧ RdS P φ w v (binOp op T xv yv) := by
  obtain ⟨a, hx, hk⟩ := AV.asBool_true hk
  obtain ⟨b, hy, hk⟩ := AV.asBool_true hk
  refine ⟨_, hk, fun {φ w xv yv} hxv hyv => ?_⟩
  rw [hx] at hxv; rw [hy] at hyv; cases hxv; cases hyv
  refine ⟨⟨_, rfl⟩, _, binOp_eq ho (by simp) (b := a == b) ?_, ?_⟩
  · show (Op.equalIn (9999 + 1) T _ _).run P w = _
    unfold Op.equalIn
    simp [underlying, hT]
  · rw [← hne]
    have : Bool.not (Bool.xor a b) = (a == b) := by cases a <;> cases b <;> rfl
    rw [this]; exact .bool _
theorem isNilP_true {v : AV} {k : Bool → Bool} (h : v.isNilP k = true) : ∃ b, k b = true ∧ ∀ {φ κ x}, VR φ κ v x → (b = true ∧ x = .pointer none) ∨ (b = false ∧ ∃ a, x = .pointer (some a)) := by
  cases v <;> simp only [AV.isNilP, Bool.false_eq_true] at h <;> refine ⟨_, h, fun {φ κ x} hx => ?_⟩ <;> cases hx <;> simp
/-- Not a number, nor a text. -/
def NoNum (x : Value) : Prop := (∀ k n, x ≠ .int k n) ∧ (∀ k n, x ≠ .float k n) ∧ (∀ k a b, x ≠ .complex k a b) ∧ ∀ s, x ≠ .string s
def nilVal : TypeDesc → Value | .slice _ => .slice none 0 0 | .map _ _ => .map none | .func _ _ _ => .nilFunc | _ => .nilIface
structure NilG (g : AV → (Bool → Bool) → Bool) (d : TypeDesc) : Prop where
  ok : ∀ {v : AV} {k : Bool → Bool}, g v k = true → ∃ b, k b = true ∧ ∀ {φ κ x}, VR φ κ v x → NoNum x ∧ NoNum (nilVal d) ∧ ∀ {P : Program} {w : World} {T : TypeId}, P.underlying T = some d → (Op.equal T x (nilVal d)).run P w = .ok b w ∧ (Op.equal T (nilVal d) x).run P w = .ok b w
theorem equal_eq (T : TypeId) (x y : Value) : Op.equal T x y = Op.equalIn (9999 + 1) T x y := rfl
theorem nilG_S (e : TypeId) : NilG AV.isNilS (.slice e) := ⟨fun {v k} h => by
  cases v <;> simp only [AV.isNilS, Bool.false_eq_true] at h <;> refine ⟨_, h, fun {φ κ x} hx => ?_⟩ <;> cases hx <;> refine ⟨by simp [NoNum], by simp [NoNum, nilVal], fun hT => ?_⟩ <;> rw [equal_eq, equal_eq] <;> unfold Op.equalIn <;> simp [nilVal, underlying, hT]⟩
theorem nilG_M (a b : TypeId) : NilG AV.isNilM (.map a b) := ⟨fun {v k} h => by
  cases v <;> simp only [AV.isNilM, Bool.false_eq_true] at h <;> refine ⟨_, h, fun {φ κ x} hx => ?_⟩ <;> cases hx <;> refine ⟨by simp [NoNum], by simp [NoNum, nilVal], fun hT => ?_⟩ <;> rw [equal_eq, equal_eq] <;> unfold Op.equalIn <;> simp [nilVal, underlying, hT]⟩
theorem nilG_F (a b : Array TypeId) (c : Bool) : NilG AV.isNilF (.func a b c) := ⟨fun {v k} h => by
  cases v <;> simp only [AV.isNilF, Bool.false_eq_true] at h <;> refine ⟨_, h, fun {φ κ x} hx => ?_⟩ <;> cases hx <;> refine ⟨by simp [NoNum], by simp [NoNum, nilVal], fun hT => ?_⟩ <;> rw [equal_eq, equal_eq] <;> unfold Op.equalIn <;> simp [nilVal, underlying, hT]⟩
theorem nilG_I (ms : Array (String × TypeId)) : NilG AV.isNilI (.interface ms) := ⟨fun {v k} h => by
  cases v <;> simp only [AV.isNilI, Bool.false_eq_true] at h <;> refine ⟨_, h, fun {φ κ x} hx => ?_⟩ <;> cases hx <;> refine ⟨by simp [NoNum], by simp [NoNum, nilVal], fun hT => ?_⟩ <;> rw [equal_eq, equal_eq] <;> unfold Op.equalIn <;> simp [nilVal, underlying, hT]⟩
theorem rNilEq_s {g : AV → (Bool → Bool) → Bool} {d : TypeDesc} (hg : NilG g d) {T : TypeId} {ne : Bool} {op : BinOp} (ho : op = .eql ∨ op = .neq) (hne : ne = decide (op = .neq)) {x : OpdF} (hT : P.underlying T = some d) (hk : rNilEq g ne x t ls σ k = true) :
    ∃ v, k v = true ∧ ∀ {φ w xv}, VR φ (csz w.heap) (x t ls) xv → RdS P φ w v (binOp op T xv (nilVal d)) ∧ RdS P φ w v (binOp op T (nilVal d) xv) := by
  obtain ⟨b, hk, hb⟩ := hg.ok hk
  refine ⟨_, hk, fun {φ w xv} hxv => ?_⟩
  obtain ⟨n1, n2, h⟩ := hb hxv
  obtain ⟨h1, h2⟩ := h (w := w) hT
  subst hne
  exact ⟨⟨_, binOp_eq ho n1 h1, .bool _⟩, ⟨_, binOp_eq ho n2 h2, .bool _⟩⟩
theorem ptrEqK_true {x y : AV} {k : Bool → Bool} (h : ptrEqK σ x y k = true) : ∃ b, k b = true ∧ ∀ {T E : TypeId} {n : Nat}, P.underlying T = some (.pointer E) → szOf P E = some (n + 1) →
    ∀ {B φ w xv yv}, Rel P B φ σ w.heap → VR φ (csz w.heap) x xv → VR φ (csz w.heap) y yv → (∃ a, xv = .pointer a) ∧ (Op.equal T xv yv).run P w = .ok b w := by
  have e1 : ∀ T x y, Op.equal T x y = Op.equalIn (9999 + 1) T x y := fun _ _ _ => rfl
  unfold ptrEqK at h
  replace h := isNilP_true h
  obtain ⟨nx, h, hx⟩ := h
  replace h := isNilP_true h
  obtain ⟨ny, h, hy⟩ := h
  rw [sel_true_iff] at h
  rcases h with ⟨rfl, h⟩ | ⟨rfl, h⟩
  · rw [boolK_eq] at h
    refine ⟨ny, h, fun {T E n} hT hE {B φ w xv yv} r hxv hyv => ?_⟩
    have ha : xv = .pointer none := by
      rcases hx hxv with ⟨_, h⟩ | ⟨h, _⟩
      · exact h
      · cases h
    subst ha
    refine ⟨⟨_, rfl⟩, ?_⟩
    rw [e1]
    rcases hy hyv with ⟨e2, h'⟩ | ⟨e2, h'⟩ <;> rw [e2]
    · subst h'; unfold Op.equalIn; simp [underlying, hT]
    · obtain ⟨q, rfl⟩ := h'; unfold Op.equalIn; simp [underlying, hT]
  · rw [sel_true_iff] at h
    rcases h with ⟨rfl, h⟩ | ⟨rfl, h⟩
    · refine ⟨false, h, fun {T E n} hT hE {B φ w xv yv} r hxv hyv => ?_⟩
      rcases hx hxv with ⟨h, _⟩ | ⟨_, h⟩
      · cases h
      rcases hy hyv with ⟨_, h'⟩ | ⟨h', _⟩
      · obtain ⟨q, rfl⟩ := h; subst h'
        refine ⟨⟨_, rfl⟩, ?_⟩
        rw [e1]; unfold Op.equalIn; simp [underlying, hT]
      · cases h'
    · replace h := AV.asPtr_true h
      obtain ⟨β, o, rfl, h⟩ := h
      replace h := AV.asPtr_true h
      obtain ⟨γ, q, rfl, h⟩ := h
      rw [Ad.beqK_eq] at h
      by_cases hβγ : β = γ
      · subst hβγ
        rw [if_pos rfl, boolK_eq] at h
        refine ⟨_, h, fun {T E n} hT hE {B φ w xv yv} r hxv hyv => ?_⟩
        cases hxv with
        | ptr _ _ b d hβ =>
          cases hyv with
          | ptr _ _ b' d' hβ' =>
            rw [hβ] at hβ'; cases hβ'
            refine ⟨⟨_, rfl⟩, ?_⟩
            rw [e1]; unfold Op.equalIn
            have : (Nat.beq o q) = decide ((⟨b, d + o, none⟩ : Addr) = ⟨b, d + q, none⟩) := by rw [Bool.eq_iff_iff]; simp
            rw [this]
            simp [underlying, hT, szOf_run hE, sameAddr]
            rw [Bool.eq_iff_iff]; simp
      · rw [if_neg hβγ] at h
        replace h := Hp.cellsK_true h
        obtain ⟨n1, c1, st1, pl1, sh1, ol1, hg1, h⟩ := h
        replace h := sel_yes h
        obtain ⟨h1, h⟩ := h
        replace h := sel_yes h
        obtain ⟨rfl, h⟩ := h
        replace h := Hp.cellsK_true h
        obtain ⟨n2, c2, st2, pl2, sh2, ol2, hg2, h⟩ := h
        replace h := sel_yes h
        obtain ⟨h2, h⟩ := h
        replace h := sel_yes h
        obtain ⟨rfl, h⟩ := h
        have es1 : st1 = 0 := Nat.eq_of_beq_eq_true h1
        have es2 : st2 = 0 := Nat.eq_of_beq_eq_true h2
        refine ⟨_, h, fun {T E n} hT hE {B φ w xv yv} r hxv hyv => ?_⟩
        subst es1 es2
        cases hxv with
        | ptr _ _ b d hβ =>
          cases hyv with
          | ptr _ _ b' d' hβ' =>
            refine ⟨⟨_, rfl⟩, ?_⟩
            have hne : b ≠ b' := by
              rintro rfl
              rcases r.inj _ _ _ _ _ _ _ hβ hβ' hβγ hg1 hg2 with h | h | h | h
              · exact h
              · exact h
              · exact r.live_olds hβ' hg2 (fun h => h) (by simp [Blk.stale]) hβ hg1 h
              · exact r.live_olds hβ hg1 (fun h => h) (by simp [Blk.stale]) hβ' hg2 h
            obtain ⟨cs1, e1', fz1, hw1, _, hf1, _⟩ := r.cells hβ hg1
            obtain ⟨cs2, e2', fz2, hw2, _, hf2, _⟩ := r.cells hβ' hg2
            have f1 := hf1.1 rfl
            have f2 := hf2.1 rfl
            subst f1 f2
            rw [e1]; unfold Op.equalIn
            simp [underlying, hT, szOf_run hE, sameAddr, hne, World.frozen?, hw1, hw2, noView, viewAt, World.shape?, mayBeOne, stringish]
theorem rPtrEq_s {T E : TypeId} {n : Nat} {ne : Bool} {op : BinOp} (ho : op = .eql ∨ op = .neq) (hne : ne = decide (op = .neq)) {x y : OpdF} (hT : P.underlying T = some (.pointer E)) (hE : szOf P E = some (n + 1)) (hk : rPtrEq ne x y t ls σ k = true) :
    ∃ v, k v = true ∧ ∀ {B φ w xv yv}, Rel P B φ σ w.heap → VR φ (csz w.heap) (x t ls) xv → VR φ (csz w.heap) (y t ls) yv → (∃ a, xv = .pointer a) ∧ RdS P φ w v (binOp op T xv yv) := by
  obtain ⟨b, hk, hb⟩ := ptrEqK_true (P := P) hk
  refine ⟨_, hk, fun {B φ w xv yv} r hxv hyv => ?_⟩
  obtain ⟨⟨a, rfl⟩, this⟩ := hb hT hE r hxv hyv
  subst hne
  exact ⟨⟨_, rfl⟩, _, binOp_eq ho (by simp) this, .bool _⟩
theorem asInt_true' {v : AV} {k : IntKind → Int → Bool} (h : v.asInt k = true) : ∃ q n, k q n = true ∧ ∀ {φ κ x}, VR φ κ v x → x = .int q n := by
  rcases AV.asInt_true h with ⟨q, n, rfl, h⟩ | ⟨q, n, rfl, h⟩ <;> exact ⟨q, _, h, fun hx => by cases hx; rfl⟩
theorem rMax_s {x y : OpdF} {ts : Array TypeId} {ty : TypeId} (hk : rMax x y t ls σ k = true) :
    ∃ v, k v = true ∧ ∀ {φ w xv yv}, VR φ (csz w.heap) (x t ls) xv → VR φ (csz w.heap) (y t ls) yv → RdS P φ w v (Builtin.max_ ts ty #[xv, yv]) := by
  have key : ∀ (p : IntKind) (a b : Int) (P : Program) (w : World), (Builtin.max_ ts ty #[.int p a, .int p b]).run P w = .ok (.int p (if b > a then b else a)) w := fun p a b P w => by simp [Builtin.max_, Builtin.max2]
  obtain ⟨p, a, hk1, hx⟩ := asInt_true' hk
  obtain ⟨q, b, hk2, hy⟩ := asInt_true' hk1
  obtain ⟨h1, hk3⟩ := sel_yes hk2
  rw [kEq_eq, decide_eq_true_iff] at h1
  rw [sel_true_iff, ltI_eq] at hk3
  rcases hk3 with ⟨h2, hk4⟩ | ⟨h2, hk4⟩
  · refine ⟨_, hk4, fun {φ w xv yv} hxv hyv => ?_⟩
    have e1 := hx hxv
    have e2 := hy hyv
    subst e1 e2 h1
    exact ⟨_, by rw [key, if_pos (of_decide_eq_true h2)], hyv⟩
  · refine ⟨_, hk4, fun {φ w xv yv} hxv hyv => ?_⟩
    have e1 := hx hxv
    have e2 := hy hyv
    subst e1 e2 h1
    exact ⟨_, by rw [key, if_neg (of_decide_eq_false h2)], hxv⟩
end
end Go.Am
