import Derived.Test.YtfdbmpokhfjdoaaGreatDoorAmS7
set_option linter.unusedVariables false
set_option linter.unusedSimpArgs false
/-! Soundness, 8: numbers. -/
namespace Go.Am
open Go
/-- What an operation on two numbers of one kind does. -/
def intSem (op : BinOp) (q : IntKind) (x y : Int) : Sem Value :=
  match op with
  | .add | .sub | .mul => Op.intArith op q x y
  | .quo | .rem => Op.intDiv op q x y
  | .and | .or | .xor | .andNot => Op.intBits op q x y
  | _ => Op.intCmp op x y
theorem binOp_int {op : BinOp} {T : TypeId} {q : IntKind} {x y : Int} (h1 : op ≠ .shl) (h2 : op ≠ .shr) : binOp op T (.int q x) (.int q y) = intSem op q x y := by
  cases op <;> first | exact absurd rfl h1 | exact absurd rfl h2 | simp [binOp, intSem]
theorem eqGuard_int {P : Program} {w : World} {op : BinOp} {T : TypeId} {X Y : Operand} {q : IntKind} {x : Int} {y : Value} : (eqGuard op T X Y (.int q x) y).run P w = .ok () w := by
  cases op <;> simp [eqGuard]
theorem acc_true {q : IntKind} {acc : AccF} (ha : accW q = .mk acc) {v : AV} {k1 k2 : Nat → Bool} (h : acc v k1 k2 = true) : (∃ n, v = .nat q n ∧ k1 n = true) ∨ ∃ n, v = .neg q n ∧ k2 n = true := by
  cases q <;> simp only [accW, AccW.mk.injEq] at ha <;> subst ha <;> cases v <;>
    first
    | (simp only [AV.of_i8, AV.of_i16, AV.of_i32, AV.of_i64, AV.of_u8, AV.of_u16, AV.of_u32, AV.of_u64, Bool.false_eq_true] at h; done)
    | (rename_i p n; cases p <;> simp only [AV.of_i8, AV.of_i16, AV.of_i32, AV.of_i64, AV.of_u8, AV.of_u16, AV.of_u32, AV.of_u64, Bool.false_eq_true] at h <;> first | exact .inl ⟨n, rfl, h⟩ | exact .inr ⟨n, rfl, h⟩)
theorem kMax_lt (q : IntKind) : kMax q < 2 ^ q.bits := by cases q <;> decide
theorem wrap_nat {q : IntKind} {n : Nat} (h : n ≤ kMax q) : q.wrap (n : Int) = n := by
  cases q <;> simp only [kMax] at h <;> simp only [IntKind.wrap, IntKind.bits, IntKind.signed] <;> simp <;> omega
theorem wrap_uns {q : IntKind} (hq : q.signed = false) (n : Nat) : q.wrap (n : Int) = ((n % (kMax q + 1) : Nat) : Int) := by
  cases q <;> simp only [IntKind.signed, Bool.true_eq_false] at hq <;> simp only [IntKind.wrap, IntKind.bits, IntKind.signed, kMax] <;> simp
def NumOK (q : IntKind) (s : Sem Value) (v : AV) : Prop := ∀ (P : Program) (φ : Emb) (w : World), RdS P φ w v s
theorem NumOK.of {q : IntKind} {s : Sem Value} {v : AV} (r : Value) (h : s = Pure.pure r) (hv : ∀ φ κ, VR φ κ v r) : NumOK q s v := fun P φ w => ⟨r, by rw [h]; rfl, hv _ _⟩
theorem upTo_true {q : IntKind} {m : Nat} {k : AV → Bool} (h : upTo q (kMax q) m k = true) : ∃ v, k v = true ∧ ∀ φ κ, VR φ κ v (.int q (q.wrap (m : Int))) := by
  unfold upTo at h
  rw [sel_true_iff] at h
  rcases h with ⟨h1, h⟩ | ⟨_, h⟩
  · exact ⟨_, h, fun φ κ => by rw [wrap_nat (Nat.le_of_ble_eq_true h1)]; exact .nat q m⟩
  · exact wrapI_true h
theorem addU_s {q : IntKind} (hq : q.signed = false) {a b : Nat} {k : AV → Bool} (h : addU q (kMax q + 1) a b k = true) : ∃ v, k v = true ∧ NumOK q (intSem .add q a b) v :=
  ⟨_, h, .of (.int q (q.wrap ((a + b : Nat) : Int))) rfl fun φ κ => by rw [wrap_uns hq]; exact .nat q _⟩
theorem mulU_s {q : IntKind} (hq : q.signed = false) {a b : Nat} {k : AV → Bool} (h : mulU q (kMax q + 1) a b k = true) : ∃ v, k v = true ∧ NumOK q (intSem .mul q a b) v :=
  ⟨_, h, .of (.int q (q.wrap ((a * b : Nat) : Int))) rfl fun φ κ => by rw [wrap_uns hq]; exact .nat q _⟩
theorem addS_s {q : IntKind} {a b : Nat} {k : AV → Bool} (h : addS q (kMax q) a b k = true) : ∃ v, k v = true ∧ NumOK q (intSem .add q a b) v :=
  let ⟨v, h1, h2⟩ := upTo_true h; ⟨v, h1, .of (.int q (q.wrap ((a + b : Nat) : Int))) rfl h2⟩
theorem mulS_s {q : IntKind} {a b : Nat} {k : AV → Bool} (h : mulS q (kMax q) a b k = true) : ∃ v, k v = true ∧ NumOK q (intSem .mul q a b) v :=
  let ⟨v, h1, h2⟩ := upTo_true h; ⟨v, h1, .of (.int q (q.wrap ((a * b : Nat) : Int))) rfl h2⟩
theorem subN_s {q : IntKind} {a b : Nat} {k : AV → Bool} (h : subN q (kMax q) a b k = true) : ∃ v, k v = true ∧ NumOK q (intSem .sub q a b) v := by
  unfold subN at h
  rw [sel_true_iff] at h
  rcases h with ⟨h1, h⟩ | ⟨h1, h⟩
  · obtain ⟨v, h2, h3⟩ := upTo_true h
    have := Nat.le_of_ble_eq_true h1
    exact ⟨v, h2, .of (.int q (q.wrap ((a - b : Nat) : Int))) (by simp only [intSem, Op.intArith]; congr 3; omega) h3⟩
  · obtain ⟨v, h2, h3⟩ := wrapI_true h
    have := ble_false h1
    refine ⟨v, h2, .of _ ?_ h3⟩
    simp only [intSem, Op.intArith]
    congr 3
    simp only [Nat.sub_eq]
    omega
theorem quoN_s {q : IntKind} {a b : Nat} {k : AV → Bool} (h : quoN q (kMax q) a b k = true) : ∃ v, k v = true ∧ NumOK q (intSem .quo q a b) v := by
  obtain ⟨h1, h⟩ := sel_no h
  obtain ⟨v, h2, h3⟩ := upTo_true h
  have hb : b ≠ 0 := fun hb => by subst hb; simp at h1
  refine ⟨v, h2, .of (.int q (q.wrap ((a / b : Nat) : Int))) ?_ h3⟩
  simp only [intSem, Op.intDiv]
  rw [if_neg (by omega)]
  rfl
theorem remN_s {q : IntKind} {a b : Nat} {k : AV → Bool} (h : remN q a b k = true) : ∃ v, k v = true ∧ NumOK q (intSem .rem q a b) v := by
  obtain ⟨h1, h⟩ := sel_no h
  have hb : b ≠ 0 := fun hb => by subst hb; simp at h1
  refine ⟨_, h, .of (.int q ((a % b : Nat) : Int)) ?_ fun φ κ => .nat q _⟩
  simp only [intSem, Op.intDiv]
  rw [if_neg (by omega)]
  rfl
theorem bits_lt {q : IntKind} {n : Nat} (h : n ≤ kMax q) : n < 2 ^ q.bits := Nat.lt_of_le_of_lt h (kMax_lt q)
theorem kMax_pow (q : IntKind) : ∃ e, kMax q + 1 = 2 ^ e ∧ e ≤ q.bits := by
  cases q <;> first | exact ⟨7, by decide, by decide⟩ | exact ⟨8, by decide, by decide⟩ | exact ⟨15, by decide, by decide⟩ | exact ⟨16, by decide, by decide⟩ | exact ⟨31, by decide, by decide⟩ | exact ⟨32, by decide, by decide⟩ | exact ⟨63, by decide, by decide⟩ | exact ⟨64, by decide, by decide⟩
theorem ofInt_toNat {q : IntKind} {n : Nat} (h : n ≤ kMax q) : (BitVec.ofInt q.bits (n : Int)).toNat = n := by
  rw [BitVec.ofInt_natCast, BitVec.toNat_ofNat, Nat.mod_eq_of_lt (bits_lt h)]
theorem bitN_true {q : IntKind} {B : Nat} {f : Nat → Nat → Nat} {a b : Nat} {k : AV → Bool} (h : bitN q B f a b k = true) : a ≤ B ∧ b ≤ B ∧ k (.nat q (f a b)) = true := by
  obtain ⟨h1, h⟩ := sel_yes h
  obtain ⟨h2, h⟩ := sel_yes h
  exact ⟨Nat.le_of_ble_eq_true h1, Nat.le_of_ble_eq_true h2, h⟩
theorem and_s {q : IntKind} {a b : Nat} {k : AV → Bool} (h : bitN q (kMax q) Nat.land a b k = true) : ∃ v, k v = true ∧ NumOK q (intSem .and q a b) v := by
  obtain ⟨h1, h2, h⟩ := bitN_true h
  obtain ⟨e, he, _⟩ := kMax_pow q
  refine ⟨_, h, .of (.int q (q.wrap ((Nat.land a b : Nat) : Int))) ?_ fun φ κ => ?_⟩
  · simp only [intSem, Op.intBits, BitVec.toNat_and, ofInt_toNat h1, ofInt_toNat h2]; rfl
  · rw [wrap_nat]
    · exact .nat q _
    · have : a &&& b < 2 ^ e := Nat.and_lt_two_pow _ (by omega)
      show a &&& b ≤ _; omega
theorem or_s {q : IntKind} {a b : Nat} {k : AV → Bool} (h : bitN q (kMax q) Nat.lor a b k = true) : ∃ v, k v = true ∧ NumOK q (intSem .or q a b) v := by
  obtain ⟨h1, h2, h⟩ := bitN_true h
  obtain ⟨e, he, _⟩ := kMax_pow q
  refine ⟨_, h, .of (.int q (q.wrap ((Nat.lor a b : Nat) : Int))) ?_ fun φ κ => ?_⟩
  · simp only [intSem, Op.intBits, BitVec.toNat_or, ofInt_toNat h1, ofInt_toNat h2]; rfl
  · rw [wrap_nat]
    · exact .nat q _
    · have : a ||| b < 2 ^ e := Nat.or_lt_two_pow (by omega) (by omega)
      show a ||| b ≤ _; omega
theorem xor_s {q : IntKind} {a b : Nat} {k : AV → Bool} (h : bitN q (kMax q) Nat.xor a b k = true) : ∃ v, k v = true ∧ NumOK q (intSem .xor q a b) v := by
  obtain ⟨h1, h2, h⟩ := bitN_true h
  obtain ⟨e, he, _⟩ := kMax_pow q
  refine ⟨_, h, .of (.int q (q.wrap ((Nat.xor a b : Nat) : Int))) ?_ fun φ κ => ?_⟩
  · simp only [intSem, Op.intBits, BitVec.toNat_xor, ofInt_toNat h1, ofInt_toNat h2]; rfl
  · rw [wrap_nat]
    · exact .nat q _
    · have : a ^^^ b < 2 ^ e := Nat.xor_lt_two_pow (by omega) (by omega)
      show a ^^^ b ≤ _; omega
theorem andNot_s {q : IntKind} {a b : Nat} {k : AV → Bool} (h : bitN q (kMax q) (fun a b => Nat.sub a (Nat.land a b)) a b k = true) : ∃ v, k v = true ∧ NumOK q (intSem .andNot q a b) v := by
  obtain ⟨h1, h2, h⟩ := bitN_true h
  refine ⟨_, h, .of (.int q (q.wrap ((a - (a &&& b) : Nat) : Int))) ?_ fun φ κ => ?_⟩
  · simp only [intSem, Op.intBits]
    have key : (BitVec.ofInt q.bits (a : Int) &&& ~~~BitVec.ofInt q.bits (b : Int)).toNat = a - (a &&& b) := by
      have e1 : (BitVec.ofInt q.bits (a : Int) &&& ~~~BitVec.ofInt q.bits (b : Int)).toNat + (BitVec.ofInt q.bits (a : Int) &&& BitVec.ofInt q.bits (b : Int)).toNat = (BitVec.ofInt q.bits (a : Int)).toNat := by
        generalize BitVec.ofInt q.bits (a : Int) = x
        generalize BitVec.ofInt q.bits (b : Int) = y
        have hd : (x &&& ~~~y) &&& (x &&& y) = 0#_ := by
          apply BitVec.eq_of_getLsbD_eq; intro i hi
          simp only [BitVec.getLsbD_and, BitVec.getLsbD_not, BitVec.getLsbD_zero, hi]
          cases x.getLsbD i <;> cases y.getLsbD i <;> simp
        have ho : (x &&& ~~~y) ||| (x &&& y) = x := by
          apply BitVec.eq_of_getLsbD_eq; intro i hi
          simp only [BitVec.getLsbD_and, BitVec.getLsbD_not, BitVec.getLsbD_or, hi]
          cases x.getLsbD i <;> cases y.getLsbD i <;> simp
        have ha := BitVec.add_eq_or_of_and_eq_zero _ _ hd
        rw [ho] at ha
        rw [← BitVec.toNat_add_of_and_eq_zero hd, ha]
      have e2 : (BitVec.ofInt q.bits (a : Int) &&& BitVec.ofInt q.bits (b : Int)).toNat = a &&& b := by rw [BitVec.toNat_and, ofInt_toNat h1, ofInt_toNat h2]
      rw [ofInt_toNat h1, e2] at e1
      omega
    rw [key]
  · rw [wrap_nat (by omega)]; exact .nat q _

theorem eqI_eq (a b : Int) : eqI a b = (a == b) := by
  cases a <;> cases b <;> simp only [eqI] <;> rw [Bool.eq_iff_iff] <;> simp only [Nat.beq_eq, beq_iff_eq, Int.ofNat_eq_natCast, Bool.false_eq_true] <;> constructor <;> intro h <;> first | exact h.elim | omega
theorem ltI_eq (a b : Int) : ltI a b = decide (a < b) := by
  cases a <;> cases b <;> simp only [ltI] <;> rw [Bool.eq_iff_iff] <;> simp only [Nat.ble_eq, decide_eq_true_eq, Int.ofNat_eq_natCast, Int.negSucc_eq, Bool.false_eq_true, true_iff, false_iff] <;> omega
theorem cmpN_s {q : IntKind} {op : BinOp} {f : Nat → Nat → Bool} (hf : ∀ a b : Nat, intSem op q a b = Pure.pure (.bool (f a b))) {a b : Nat} {k : AV → Bool} (h : cmpN f a b k = true) : ∃ v, k v = true ∧ NumOK q (intSem op q a b) v :=
  ⟨_, h, .of _ (hf a b) fun φ κ => .bool _⟩
theorem cmpS_s {q : IntKind} {op : BinOp} {f : Int → Int → Bool} (hf : ∀ a b : Int, intSem op q a b = Pure.pure (.bool (f a b))) {a b : Int} {k : AV → Bool} (h : cmpS f a b k = true) : ∃ v, k v = true ∧ NumOK q (intSem op q a b) v :=
  ⟨_, h, .of _ (hf a b) fun φ κ => .bool _⟩
theorem addI_s {q : IntKind} {a b : Int} {k : AV → Bool} (h : addI q a b k = true) : ∃ v, k v = true ∧ NumOK q (intSem .add q a b) v := let ⟨v, h1, h2⟩ := wrapI_true h; ⟨v, h1, .of _ rfl h2⟩
theorem subI_s {q : IntKind} {a b : Int} {k : AV → Bool} (h : subI q a b k = true) : ∃ v, k v = true ∧ NumOK q (intSem .sub q a b) v := let ⟨v, h1, h2⟩ := wrapI_true h; ⟨v, h1, .of _ rfl h2⟩
theorem mulI_s {q : IntKind} {a b : Int} {k : AV → Bool} (h : mulI q a b k = true) : ∃ v, k v = true ∧ NumOK q (intSem .mul q a b) v := let ⟨v, h1, h2⟩ := wrapI_true h; ⟨v, h1, .of _ rfl h2⟩
theorem quoI_s {q : IntKind} {a b : Int} {k : AV → Bool} (h : quoI q a b k = true) : ∃ v, k v = true ∧ NumOK q (intSem .quo q a b) v := by
  obtain ⟨h1, h⟩ := sel_no h
  obtain ⟨v, h2, h3⟩ := wrapI_true h
  rw [eqI_eq] at h1
  have hb : ¬ b = 0 := by simpa using h1
  exact ⟨v, h2, .of _ (by simp only [intSem, Op.intDiv]; rw [if_neg hb]) h3⟩
theorem remI_s {q : IntKind} {a b : Int} {k : AV → Bool} (h : remI q a b k = true) : ∃ v, k v = true ∧ NumOK q (intSem .rem q a b) v := by
  obtain ⟨h1, h⟩ := sel_no h
  obtain ⟨v, h2, h3⟩ := avI_true h
  rw [eqI_eq] at h1
  have hb : ¬ b = 0 := by simpa using h1
  exact ⟨v, h2, .of _ (by simp only [intSem, Op.intDiv]; rw [if_neg hb]) h3⟩
/-- What is asked of the two ways to do a sum. -/
structure BinOK (q : IntKind) (op : BinOp) (f : FastF) (g : SlowF) : Prop where
  fast : ∀ {a b : Nat} {k : AV → Bool}, f a b k = true → ∃ v, k v = true ∧ NumOK q (intSem op q a b) v
  slow : ∀ {a b : Int} {k : AV → Bool}, g a b k = true → ∃ v, k v = true ∧ NumOK q (intSem op q a b) v
theorem rBinI_s {q : IntKind} {op : BinOp} {acc : AccF} (ha : accW q = .mk acc) {f : FastF} {g : SlowF} (hf : BinOK q op f g) {x y : OpdF} {t : Regs} {ls : Ls} {σ : Hp} {k : AV → Bool} (hk : rBinI acc f g x y t ls σ k = true) :
    ∃ v, k v = true ∧ ∀ (P : Program) {φ w xv yv}, VR φ (csz w.heap) (x t ls) xv → VR φ (csz w.heap) (y t ls) yv → ∃ n m, xv = .int q n ∧ yv = .int q m ∧ RdS P φ w v (intSem op q n m) := by
  unfold rBinI at hk
  rcases acc_true ha hk with ⟨a, h1, hk⟩ | ⟨a, h1, hk⟩ <;> rcases acc_true ha hk with ⟨b, h2, hk⟩ | ⟨b, h2, hk⟩
  · obtain ⟨v, hv, h3⟩ := hf.fast hk
    refine ⟨v, hv, fun P φ w xv yv hx hy => ?_⟩
    rw [h1] at hx; rw [h2] at hy; cases hx; cases hy
    exact ⟨_, _, rfl, rfl, h3 P φ w⟩
  all_goals
    obtain ⟨v, hv, h3⟩ := hf.slow hk
    refine ⟨v, hv, fun P φ w xv yv hx hy => ?_⟩
    rw [h1] at hx; rw [h2] at hy; cases hx; cases hy
    exact ⟨_, _, rfl, rfl, h3 P φ w⟩
theorem noS_s {q : IntKind} {op : BinOp} {a b : Int} {k : AV → Bool} (h : noS a b k = true) : ∃ v, k v = true ∧ NumOK q (intSem op q a b) v := by cases h
/-- Of a shift. -/
theorem wrapI_nat {q : IntKind} {n : Nat} {k : AV → Bool} (h : wrapI q (.ofNat n) k = true) : ∃ v, k v = true ∧ ∀ φ κ, VR φ κ v (.int q (q.wrap (n : Int))) := wrapI_true h
theorem wrap_mod (q : IntKind) (n : Int) : q.wrap (n % 2 ^ q.bits) = q.wrap n := by
  simp only [IntKind.wrap, Int.emod_emod_of_dvd _ (Int.dvd_refl _)]
theorem kBits_eq (q : IntKind) : kBits q = q.bits := rfl
theorem shl_s {q : IntKind} {acc : AccF} (ha : accW q = .mk acc) {x y : OpdF} {t : Regs} {ls : Ls} {σ : Hp} {k : AV → Bool} (hk : rShift acc (shlN q (kBits q) (2 ^ kBits q)) x y t ls σ k = true) :
    ∃ v, k v = true ∧ ∀ (P : Program) {φ w xv yv}, VR φ (csz w.heap) (x t ls) xv → VR φ (csz w.heap) (y t ls) yv → ∃ n q' m, xv = .int q n ∧ yv = .int q' m ∧ RdS P φ w v (Op.shift .shl q n q' m) := by
  unfold rShift at hk
  rcases acc_true ha hk with ⟨a, h1, hk⟩ | ⟨a, h1, hk⟩
  · obtain ⟨q', b, h2, hk⟩ := AV.asNat_true hk
    unfold shlN at hk
    rw [sel_true_iff] at hk
    rcases hk with ⟨h3, hk⟩ | ⟨h3, hk⟩
    · obtain ⟨v, hv, h4⟩ := wrapI_nat hk
      refine ⟨v, hv, fun P φ w xv yv hx hy => ?_⟩
      rw [h1] at hx; rw [h2] at hy; cases hx; cases hy
      refine ⟨_, _, _, rfl, rfl, .int q (q.wrap ((a : Int) * 2 ^ b)), ?_, ?_⟩
      · have hle : b ≤ q.bits := Nat.le_of_ble_eq_true h3
        have h0 : ¬ ((b : Int) < 0) := by omega
        simp [Op.shift, Nat.min_eq_left hle, h0]
      · have := h4 φ (csz w.heap)
        rw [show ((Nat.mod (Nat.shiftLeft a b) (2 ^ kBits q) : Nat) : Int) = ((a : Int) * 2 ^ b) % 2 ^ q.bits by
          show (((a <<< b) % 2 ^ q.bits : Nat) : Int) = _
          rw [Nat.shiftLeft_eq]; simp, wrap_mod] at this
        exact this
    · obtain ⟨v, hv, h4⟩ := wrapI_nat hk
      refine ⟨v, hv, fun P φ w xv yv hx hy => ?_⟩
      rw [h1] at hx; rw [h2] at hy; cases hx; cases hy
      refine ⟨_, _, _, rfl, rfl, .int q (q.wrap ((a : Int) * 2 ^ q.bits)), ?_, ?_⟩
      · have hle : q.bits ≤ b := Nat.le_of_lt (ble_false h3)
        have h0 : ¬ ((b : Int) < 0) := by omega
        simp [Op.shift, Nat.min_eq_right hle, h0]
      · have := h4 φ (csz w.heap)
        rw [← wrap_mod] at this ⊢
        simpa using this
  · cases hk
theorem shr_s {q : IntKind} {acc : AccF} (ha : accW q = .mk acc) {x y : OpdF} {t : Regs} {ls : Ls} {σ : Hp} {k : AV → Bool} (hk : rShift acc (shrN q (kBits q)) x y t ls σ k = true) :
    ∃ v, k v = true ∧ ∀ (P : Program) {φ w xv yv}, VR φ (csz w.heap) (x t ls) xv → VR φ (csz w.heap) (y t ls) yv → ∃ n q' m, xv = .int q n ∧ yv = .int q' m ∧ RdS P φ w v (Op.shift .shr q n q' m) := by
  unfold rShift at hk
  have key : ∀ a c : Nat, Int.fdiv (a : Int) (2 ^ c) = ((Nat.shiftRight a c : Nat) : Int) := fun a c => by
    rw [Int.fdiv_eq_ediv_of_nonneg _ (Int.pow_nonneg (by decide))]
    show _ = ((a >>> c : Nat) : Int)
    rw [Nat.shiftRight_eq_div_pow]; simp
  rcases acc_true ha hk with ⟨a, h1, hk⟩ | ⟨a, h1, hk⟩
  · obtain ⟨q', b, h2, hk⟩ := AV.asNat_true hk
    unfold shrN at hk
    rw [sel_true_iff] at hk
    rcases hk with ⟨h3, hk⟩ | ⟨h3, hk⟩
    · refine ⟨_, hk, fun P φ w xv yv hx hy => ?_⟩
      rw [h1] at hx; rw [h2] at hy; cases hx; cases hy
      refine ⟨_, _, _, rfl, rfl, .int q ((a : Int).fdiv (2 ^ b)), ?_, ?_⟩
      · have hle : b ≤ q.bits := Nat.le_of_ble_eq_true h3
        have h0 : ¬ ((b : Int) < 0) := by omega
        simp [Op.shift, Nat.min_eq_left hle, h0]
      · rw [key]; exact .nat q _
    · refine ⟨_, hk, fun P φ w xv yv hx hy => ?_⟩
      rw [h1] at hx; rw [h2] at hy; cases hx; cases hy
      refine ⟨_, _, _, rfl, rfl, .int q ((a : Int).fdiv (2 ^ q.bits)), ?_, ?_⟩
      · have hle : q.bits ≤ b := Nat.le_of_lt (ble_false h3)
        have h0 : ¬ ((b : Int) < 0) := by omega
        simp [Op.shift, Nat.min_eq_right hle, h0]
      · rw [key]; exact .nat q _
  · cases hk
/-- All that two numbers of a kind may be asked. -/
theorem intW_s {P : Program} {T : TypeId} {q : IntKind} {op : BinOp} {x y : OpdF} {f : RdF} {dep : Bool} (ho : intW q op x y = .rd f dep) {t : Regs} {ls : Ls} {σ : Hp} {k : AV → Bool} (hk : f t ls σ k = true) :
    ∃ v, k v = true ∧ ∀ {φ w xv yv}, VR φ (csz w.heap) (x t ls) xv → VR φ (csz w.heap) (y t ls) yv → (∃ q' n, xv = .int q' n) ∧ RdS P φ w v (binOp op T xv yv) := by
  unfold intW at ho
  cases ha : accW q with
  | mk acc =>
    rw [ha] at ho
    have fin : ∀ {f g}, BinOK q op f g → op ≠ .shl → op ≠ .shr → rBinI acc f g x y t ls σ k = true → ∃ v, k v = true ∧ ∀ {φ w xv yv}, VR φ (csz w.heap) (x t ls) xv → VR φ (csz w.heap) (y t ls) yv → (∃ q' n, xv = .int q' n) ∧ RdS P φ w v (binOp op T xv yv) := fun hf h1 h2 hk => by
      obtain ⟨v, hv, h3⟩ := rBinI_s ha hf hk
      refine ⟨v, hv, fun hx hy => ?_⟩
      obtain ⟨n, m, rfl, rfl, h4⟩ := h3 P hx hy
      exact ⟨⟨_, _, rfl⟩, by rw [binOp_int h1 h2]; exact h4⟩
    cases op
    case shl =>
      simp only [OpW.rd.injEq] at ho
      obtain ⟨rfl, _⟩ := ho
      obtain ⟨v, hv, h3⟩ := shl_s ha hk
      refine ⟨v, hv, fun hx hy => ?_⟩
      obtain ⟨n, q', m, rfl, rfl, h4⟩ := h3 P hx hy
      exact ⟨⟨_, _, rfl⟩, h4⟩
    case shr =>
      simp only [OpW.rd.injEq] at ho
      obtain ⟨rfl, _⟩ := ho
      obtain ⟨v, hv, h3⟩ := shr_s ha hk
      refine ⟨v, hv, fun hx hy => ?_⟩
      obtain ⟨n, q', m, rfl, rfl, h4⟩ := h3 P hx hy
      exact ⟨⟨_, _, rfl⟩, h4⟩
    case add =>
      cases hq : q.signed <;> simp only [hq, if_true, if_false, Bool.false_eq_true, OpW.rd.injEq] at ho <;> obtain ⟨rfl, _⟩ := ho
      · exact fin ⟨addU_s hq, addI_s⟩ (by simp) (by simp) hk
      · exact fin ⟨addS_s, addI_s⟩ (by simp) (by simp) hk
    case mul =>
      cases hq : q.signed <;> simp only [hq, if_true, if_false, Bool.false_eq_true, OpW.rd.injEq] at ho <;> obtain ⟨rfl, _⟩ := ho
      · exact fin ⟨mulU_s hq, mulI_s⟩ (by simp) (by simp) hk
      · exact fin ⟨mulS_s, mulI_s⟩ (by simp) (by simp) hk
    case sub => simp only [OpW.rd.injEq] at ho; obtain ⟨rfl, _⟩ := ho; exact fin ⟨subN_s, subI_s⟩ (by simp) (by simp) hk
    case quo => simp only [OpW.rd.injEq] at ho; obtain ⟨rfl, _⟩ := ho; exact fin ⟨quoN_s, quoI_s⟩ (by simp) (by simp) hk
    case rem => simp only [OpW.rd.injEq] at ho; obtain ⟨rfl, _⟩ := ho; exact fin ⟨remN_s, remI_s⟩ (by simp) (by simp) hk
    case and => simp only [OpW.rd.injEq] at ho; obtain ⟨rfl, _⟩ := ho; exact fin ⟨and_s, noS_s⟩ (by simp) (by simp) hk
    case or => simp only [OpW.rd.injEq] at ho; obtain ⟨rfl, _⟩ := ho; exact fin ⟨or_s, noS_s⟩ (by simp) (by simp) hk
    case xor => simp only [OpW.rd.injEq] at ho; obtain ⟨rfl, _⟩ := ho; exact fin ⟨xor_s, noS_s⟩ (by simp) (by simp) hk
    case andNot => simp only [OpW.rd.injEq] at ho; obtain ⟨rfl, _⟩ := ho; exact fin ⟨andNot_s, noS_s⟩ (by simp) (by simp) hk
    case eql => simp only [OpW.rd.injEq] at ho; obtain ⟨rfl, _⟩ := ho; exact fin ⟨cmpN_s fun a b => by simp only [intSem, Op.intCmp]; congr 2; rw [Bool.eq_iff_iff]; simp; omega, cmpS_s fun a b => by simp [intSem, Op.intCmp, eqI_eq]⟩ (by simp) (by simp) hk
    case neq => simp only [OpW.rd.injEq] at ho; obtain ⟨rfl, _⟩ := ho; exact fin ⟨cmpN_s fun a b => by simp only [intSem, Op.intCmp]; congr 2; rw [Bool.eq_iff_iff]; simp only [bne_iff_ne, ne_eq, Bool.not_eq_true', ← Bool.not_eq_true, Nat.beq_eq]; omega, cmpS_s fun a b => by simp [intSem, Op.intCmp, eqI_eq, bne]⟩ (by simp) (by simp) hk
    case lss => simp only [OpW.rd.injEq] at ho; obtain ⟨rfl, _⟩ := ho; exact fin ⟨cmpN_s fun a b => by simp only [intSem, Op.intCmp]; congr 2; rw [Bool.eq_iff_iff, Nat.ble_eq]; simp; omega, cmpS_s fun a b => by simp [intSem, Op.intCmp, ltI_eq]⟩ (by simp) (by simp) hk
    case leq => simp only [OpW.rd.injEq] at ho; obtain ⟨rfl, _⟩ := ho; exact fin ⟨cmpN_s fun a b => by simp only [intSem, Op.intCmp]; congr 2; rw [Bool.eq_iff_iff, Nat.ble_eq]; simp, cmpS_s fun a b => by simp only [intSem, Op.intCmp, ltI_eq]; congr 2; rw [Bool.eq_iff_iff]; simp⟩ (by simp) (by simp) hk
    case gtr => simp only [OpW.rd.injEq] at ho; obtain ⟨rfl, _⟩ := ho; exact fin ⟨cmpN_s fun a b => by simp only [intSem, Op.intCmp]; congr 2; rw [Bool.eq_iff_iff, Nat.ble_eq]; simp; omega, cmpS_s fun a b => by simp [intSem, Op.intCmp, ltI_eq]⟩ (by simp) (by simp) hk
    case geq => simp only [OpW.rd.injEq] at ho; obtain ⟨rfl, _⟩ := ho; exact fin ⟨cmpN_s fun a b => by simp only [intSem, Op.intCmp]; congr 2; rw [Bool.eq_iff_iff, Nat.ble_eq]; simp, cmpS_s fun a b => by simp only [intSem, Op.intCmp, ltI_eq]; congr 2; rw [Bool.eq_iff_iff]; simp⟩ (by simp) (by simp) hk
end Go.Am
