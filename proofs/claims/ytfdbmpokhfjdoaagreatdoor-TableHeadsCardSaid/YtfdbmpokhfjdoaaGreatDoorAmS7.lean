import Derived.Test.YtfdbmpokhfjdoaaGreatDoorAmS6
set_option linter.unusedVariables false
set_option linter.unusedSimpArgs false
/-! Soundness, 7: operations that only read. -/
namespace Go.Am
open Go
/-- A read's answer. -/
def RdS (P : Program) (φ : Emb) (w : World) (v : AV) (s : Sem Value) : Prop := ∃ r, s.run P w = .ok r w ∧ VR φ (csz w.heap) v r
theorem RdS.pure {P : Program} {φ : Emb} {w : World} {v : AV} {s : Sem Value} {r : Value} (h : s.run P w = .ok r w) (hv : VR φ (csz w.heap) v r) : RdS P φ w v s := ⟨r, h, hv⟩
theorem aggOf_run {P : Program} {w : World} {T : TypeId} {b : Bool} (h : aggOf P T = some b) : (isAgg T).run P w = .ok b w := by
  unfold aggOf at h
  cases hu : P.underlying T with
  | none => rw [hu] at h; cases h
  | some d =>
    rw [hu] at h
    simp only [Option.map_some, Option.some.injEq] at h
    cases d <;> simp_all [isAgg, underlying]
theorem szOf_info {P : Program} {T : TypeId} {n : Nat} (h : szOf P T = some n) : ∃ i, P.info? T = some i ∧ i.size = n := by
  unfold szOf at h
  cases hi : P.info? T with
  | none => rw [hi] at h; cases h
  | some i => rw [hi] at h; exact ⟨i, rfl, Option.some.inj h⟩
theorem szOf_run {P : Program} {w : World} {T : TypeId} {n : Nat} (h : szOf P T = some n) : (sizeOf T).run P w = .ok n w := by
  obtain ⟨i, hi, rfl⟩ := szOf_info h
  simp [sizeOf, typeInfo, hi]
theorem und_run {P : Program} {w : World} {T : TypeId} {d : TypeDesc} (h : P.underlying T = some d) : (underlying T).run P w = .ok d w := by simp [underlying, h]
theorem zeroOf_run {P : Program} {w : World} {T : TypeId} {v : Value} (h : zeroOf P T = some v) : (zeroValue T).run P w = .ok v w := by
  unfold zeroOf at h
  cases hi : P.info? T with
  | none => rw [hi] at h; cases h
  | some i =>
    rw [hi] at h
    simp only [Option.bind_some] at h
    simp [zeroValue, typeInfo, hi, h]
section
variable {P : Program} {σ : Hp} {t : Regs} {ls : Ls} {k : AV → Bool}
theorem rLoad1_s {a : OpdF} {T : TypeId} (hk : rLoad1 a t ls σ k = true) (hT : aggOf P T = some false) :
    ∃ v, k v = true ∧ ∀ {B φ w av}, Rel P B φ σ w.heap → VR φ (csz w.heap) (a t ls) av → RdS P φ w v (Instr.loadAt T av) := by
  obtain ⟨β, off, ha, hk⟩ := AV.asPtr_true hk
  obtain ⟨v, hk, hl⟩ := loadBlk_sound hk
  refine ⟨v, hk, fun {B φ w av} r hav => ?_⟩
  rw [ha] at hav
  cases hav with
  | ptr _ _ b d hβ =>
    obtain ⟨cs, e, fz, x, h1, h2, h3, h4⟩ := hl r hβ
    refine ⟨x, ?_, h4⟩
    simp [Instr.loadAt, Instr.sureAddr, loadVar, aggOf_run hT, cell?_of h1, h2]
theorem rLoadN_s {a : OpdF} {T : TypeId} {n : Nat} (hk : rLoadN n a t ls σ k = true) (hT : aggOf P T = some true) (hn : szOf P T = some n) :
    ∃ v, k v = true ∧ ∀ {B φ w av}, Rel P B φ σ w.heap → VR φ (csz w.heap) (a t ls) av → RdS P φ w v (Instr.loadAt T av) := by
  obtain ⟨β, off, ha, hk⟩ := AV.asPtr_true hk
  obtain ⟨v, hk, hl⟩ := loadBlkN_sound hk
  refine ⟨_, hk, fun {B φ w av} r hav => ?_⟩
  rw [ha] at hav
  cases hav with
  | ptr _ _ b d hβ =>
    obtain ⟨cs, e, fz, h1, h2, h3⟩ := hl r hβ
    have hlen : ((cs.toList.drop (d + off)).take n).length = n := by simp; omega
    have hrun := Reads.run (P := P) (.inr ⟨b, d + off, cs, e, fz, rfl, h1, h2, rfl⟩) (size := 1) (k := n) (len := 0) (cap := 0) (Nat.mul_one _)
    simp only [Builtin.firstCells, Nat.mul_one] at hrun
    refine ⟨.agg ((cs.toList.drop (d + off)).take n).toArray, ?_, ?_⟩
    · simp only [Instr.loadAt, Instr.sureAddr, loadVar, Sem.run_bind, aggOf_run hT, Sem.run_pure, Result.andThen_ok, if_true, szOf_run hn, hrun]
    · have := CR.agg (xs := ((cs.toList.drop (d + off)).take n).toArray) h3
      rwa [show ((cs.toList.drop (d + off)).take n).toArray.size = n by simpa using hlen] at this
theorem rPick_s {c a b : OpdF} (hk : rPick c a b t ls σ k = true) :
    ∃ v, k v = true ∧ ∀ {φ w cv av bv}, VR φ (csz w.heap) (c t ls) cv → VR φ (csz w.heap) (a t ls) av → VR φ (csz w.heap) (b t ls) bv → RdS P φ w v (do pure (if ← asBool cv then av else bv)) := by
  obtain ⟨x, hc, hk⟩ := AV.asBool_true hk
  rw [sel_eq] at hk
  refine ⟨if x then a t ls else b t ls, by cases x <;> simpa using hk, fun {φ w cv av bv} h1 h2 h3 => ?_⟩
  rw [hc] at h1
  cases h1
  refine ⟨if x then av else bv, by simp [asBool], by cases x <;> simpa⟩
theorem chkK_true {v : AV} {k : Bool} (h : v.chkK k = true) : k = true ∧ ∀ φ κ x, VR φ κ v x → (∀ nm a b, x ≠ .func (.method nm) a b) ∧ x ≠ .pointer none ∧ x ≠ .nilIface ∧ x ≠ .nilFunc := by
  cases v <;> simp only [AV.chkK, Bool.false_eq_true] at h <;> refine ⟨h, fun φ κ x hx => ?_⟩ <;> cases hx <;> refine ⟨?_, ?_, ?_, ?_⟩ <;> simp
theorem rNot_s {x : OpdF} (hk : rNot x t ls σ k = true) : ∃ v, k v = true ∧ ∀ {φ w xv}, VR φ (csz w.heap) (x t ls) xv → RdS P φ w v (Op.unary .not xv) := by
  obtain ⟨b, hb, hk⟩ := AV.asBool_true hk
  refine ⟨_, hk, fun {φ w xv} hx => ?_⟩
  rw [hb] at hx; cases hx
  exact ⟨.bool !b, rfl, .bool _⟩
theorem avI_true {q : IntKind} {n : Int} {k : AV → Bool} (h : avI q n k = true) : ∃ v, k v = true ∧ ∀ φ κ, VR φ κ v (.int q n) := by
  cases n with
  | ofNat m => exact ⟨_, h, fun φ κ => .nat q m⟩
  | negSucc m => exact ⟨_, h, fun φ κ => .neg q m⟩
theorem wrapI_true {q : IntKind} {n : Int} {k : AV → Bool} (h : wrapI q n k = true) : ∃ v, k v = true ∧ ∀ φ κ, VR φ κ v (.int q (q.wrap n)) := avI_true h
theorem rNeg_s {x : OpdF} (hk : rNeg x t ls σ k = true) : ∃ v, k v = true ∧ ∀ {φ w xv}, VR φ (csz w.heap) (x t ls) xv → RdS P φ w v (Op.unary .neg xv) := by
  rcases AV.asInt_true hk with ⟨q, n, hx, hk⟩ | ⟨q, n, hx, hk⟩ <;> obtain ⟨v, hk, hv⟩ := wrapI_true hk <;> refine ⟨v, hk, fun {φ w xv} hxv => ?_⟩ <;> rw [hx] at hxv <;> cases hxv <;>
    exact ⟨_, rfl, hv _ _⟩
theorem rLenT_s {x : OpdF} {T : TypeId} {ty : TypeId} (hk : rLenT x t ls σ k = true) (hT : P.underlying T = some .string) :
    ∃ v, k v = true ∧ ∀ {φ w xv}, VR φ (csz w.heap) (x t ls) xv → RdS P φ w v (Builtin.len_ #[T] ty #[xv]) := by
  obtain ⟨n, N, hx, hk⟩ := AV.asStr_true hk
  refine ⟨_, hk, fun {φ w xv} hxv => ?_⟩
  rw [hx] at hxv
  cases hxv with
  | str s _ _ hn hN =>
    refine ⟨goInt s.size, by simp [Builtin.len_, underlying, hT], ?_⟩
    rw [← hn, Array.length_toList]
    exact .nat .i64 s.size
theorem rLenS_s {x : OpdF} {T E : TypeId} {ty : TypeId} (hk : rLenS x t ls σ k = true) (hT : P.underlying T = some (.slice E)) :
    ∃ v, k v = true ∧ ∀ {φ w xv}, VR φ (csz w.heap) (x t ls) xv → RdS P φ w v (Builtin.len_ #[T] ty #[xv]) := by
  rcases AV.asSl_true hk with ⟨hx, hk⟩ | ⟨β, off, len, ex, c, es', hx, hk⟩
  · refine ⟨_, hk, fun {φ w xv} hxv => ?_⟩
    rw [hx] at hxv
    cases hxv
    exact ⟨goInt 0, by simp [Builtin.len_, underlying, hT], .nat .i64 0⟩
  · refine ⟨_, hk, fun {φ w xv} hxv => ?_⟩
    rw [hx] at hxv
    have : ∃ a c', xv = .slice (some a) len c' := by cases hxv <;> exact ⟨_, _, rfl⟩
    obtain ⟨a, c', rfl⟩ := this
    exact ⟨goInt len, by simp [Builtin.len_, underlying, hT], .nat .i64 len⟩
theorem rCap_s {x : OpdF} {T E : TypeId} {ty : TypeId} (hk : rCap x t ls σ k = true) (hT : P.underlying T = some (.slice E)) :
    ∃ v, k v = true ∧ ∀ {φ w xv}, VR φ (csz w.heap) (x t ls) xv → RdS P φ w v (Builtin.cap_ #[T] ty #[xv]) := by
  rcases AV.asSl_true hk with ⟨hx, hk⟩ | ⟨β, off, len, ex, c, es', hx, hk⟩
  · refine ⟨_, hk, fun {φ w xv} hxv => ?_⟩
    rw [hx] at hxv
    cases hxv
    exact ⟨goInt 0, by simp [Builtin.cap_, underlying, hT], .nat .i64 0⟩
  · obtain ⟨rfl, hk⟩ := sel_yes hk
    refine ⟨_, hk, fun {φ w xv} hxv => ?_⟩
    rw [hx] at hxv
    have : ∃ a, xv = .slice (some a) len c := by
      cases hxv with
      | slice _ _ _ _ _ _ b d c' h hx hc hl hr => rw [hx rfl]; exact ⟨_, rfl⟩
      | slice0 => exact ⟨_, rfl⟩
    obtain ⟨a, rfl⟩ := this
    exact ⟨goInt c, by simp [Builtin.cap_, underlying, hT], .nat .i64 c⟩
theorem rFaddr_s {x : OpdF} {T : TypeId} {fs : Array Field} {f : Field} {i m : Nat} (hk : rFaddr f.offset x t ls σ k = true) (hT : P.underlying T = some (.struct fs)) (hf : fs[i]? = some f) (hm : szOf P f.type = some (m + 1)) :
    ∃ v, k v = true ∧ ∀ {φ w xv}, VR φ (csz w.heap) (x t ls) xv → RdS P φ w v (Instr.fieldAt T xv i) := by
  obtain ⟨β, o, hx, hk⟩ := AV.asPtr_true hk
  refine ⟨_, hk, fun {φ w xv} hxv => ?_⟩
  rw [hx] at hxv
  cases hxv with
  | ptr _ _ b d hβ =>
    refine ⟨.pointer (some ⟨b, d + (o + f.offset), none⟩), ?_, .ptr β _ b d hβ⟩
    simp [Instr.fieldAt, underlying, hT, hf, Instr.sureAddr, fieldPlace, szOf_run hm, Addr.add_none, Nat.add_assoc]
end
end Go.Am
