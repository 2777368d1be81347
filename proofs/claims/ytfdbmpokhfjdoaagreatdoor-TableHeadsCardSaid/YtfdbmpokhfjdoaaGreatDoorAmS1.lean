import Derived.Test.YtfdbmpokhfjdoaaGreatDoorAm3
set_option linter.unusedVariables false
set_option linter.unusedSimpArgs false
/-! Soundness, 1: plain facts on the machine's data. -/
namespace Go.Am
open Go

theorem sel_eq (c a b : Bool) : sel c a b = if c then a else b := by cases c <;> rfl
@[simp] theorem sel_true_iff (c a b : Bool) : sel c a b = true ↔ (c = true ∧ a = true) ∨ (c = false ∧ b = true) := by cases c <;> simp [sel]
theorem sel_yes {c a : Bool} (h : sel c a false = true) : c = true ∧ a = true := by cases c <;> simp_all [sel]
theorem sel_no {c a : Bool} (h : sel c false a = true) : c = false ∧ a = true := by cases c <;> simp_all [sel]
theorem boolK_eq (b : Bool) (k : Bool → Bool) : boolK b k = k b := by cases b <;> rfl
theorem forceN_eq (n : Nat) (k : Nat → Bool) : forceN n k = k n := by cases n <;> rfl

/-! ### Tries -/
theorem R8.at_set {α : Type} (t : R8 α) (d e : D8) (x : α) : (t.set d x).at e = if e = d then x else t.at e := by
  cases t; cases d <;> cases e <;> rfl
theorem R8.turn_eq {α : Type} (d : D8) (f : α → (α → Bool) → Bool) (t : R8 α) (k : R8 α → Bool) : R8.turn d f t k = f (t.at d) fun x => k (t.set d x) := by
  cases t; cases d <;> rfl
noncomputable def PT.upd {α : Type} (p : Ad) (t : PT α) (a : α) : PT α :=
  R8.set t p.d4 (R8.set (R8.at t p.d4) p.d3 (R8.set (R8.at (R8.at t p.d4) p.d3) p.d2 (R8.set (R8.at (R8.at (R8.at t p.d4) p.d3) p.d2) p.d1
    (R8.set (R8.at (R8.at (R8.at (R8.at t p.d4) p.d3) p.d2) p.d1) p.d0 (some a)))))
theorem PT.setK_eq {α : Type} (p : Ad) (t : PT α) (a : α) (k : PT α → Bool) : PT.setK p t a k = k (PT.upd p t a) := by
  cases p; simp only [PT.setK, R8.turn_eq, PT.upd]
theorem PT.get_upd {α : Type} (p q : Ad) (t : PT α) (a : α) : PT.get q (PT.upd p t a) = if q = p then some a else PT.get q t := by
  obtain ⟨p0, p1, p2, p3, p4⟩ := p
  obtain ⟨q0, q1, q2, q3, q4⟩ := q
  simp only [PT.upd, PT.get, R8.at_set, Ad.mk.injEq]
  by_cases h4 : q4 = p4
  · subst h4
    simp only [if_true, R8.at_set]
    by_cases h3 : q3 = p3
    · subst h3
      simp only [if_true, R8.at_set]
      by_cases h2 : q2 = p2
      · subst h2
        simp only [if_true, R8.at_set]
        by_cases h1 : q1 = p1
        · subst h1
          simp only [if_true, R8.at_set]
          by_cases h0 : q0 = p0 <;> simp [h0]
        · simp [h1]
      · simp [h2]
    · simp [h3]
  · simp [h4]
theorem PT.get_e {α : Type} (p : Ad) : PT.get p (PT.e : PT α) = none := by
  have h : ∀ {α : Type} (x : α) (d : D8), (R8.all x).at d = x := by intro α x d; cases d <;> rfl
  simp only [PT.get, PT.e, h]
theorem D8.incK_true {d : D8} {k : D8 → Bool} {c : Bool} (h : d.incK k c = true) : (∃ e : D8, e.toNat = d.toNat + 1 ∧ k e = true) ∨ (d.toNat = 7 ∧ c = true) := by
  cases d <;> simp only [D8.incK] at h <;> first | exact .inl ⟨_, rfl, h⟩ | exact .inr ⟨rfl, h⟩
theorem D8.x0_toNat : D8.x0.toNat = 0 := rfl
theorem Ad.succK_true {p : Ad} {k : Ad → Bool} (h : p.succK k = true) : ∃ q : Ad, q.toNat = p.toNat + 1 ∧ k q = true := by
  obtain ⟨p0, p1, p2, p3, p4⟩ := p
  simp only [Ad.succK] at h
  rcases D8.incK_true h with ⟨e, he, h⟩ | ⟨h0, h⟩
  · exact ⟨_, by simp only [Ad.toNat, he]; omega, h⟩
  rcases D8.incK_true h with ⟨e, he, h⟩ | ⟨h1, h⟩
  · exact ⟨_, by simp only [Ad.toNat, he, h0, D8.x0_toNat]; omega, h⟩
  rcases D8.incK_true h with ⟨e, he, h⟩ | ⟨h2, h⟩
  · exact ⟨_, by simp only [Ad.toNat, he, h0, h1, D8.x0_toNat]; omega, h⟩
  rcases D8.incK_true h with ⟨e, he, h⟩ | ⟨h3, h⟩
  · exact ⟨_, by simp only [Ad.toNat, he, h0, h1, h2, D8.x0_toNat]; omega, h⟩
  rcases D8.incK_true h with ⟨e, he, h⟩ | ⟨h4, h⟩
  · exact ⟨_, by simp only [Ad.toNat, he, h0, h1, h2, h3, D8.x0_toNat]; omega, h⟩
  · cases h
theorem D8.beq_iff (a b : D8) : D8.beq a b = true ↔ a = b := by cases a <;> cases b <;> simp [D8.beq]
theorem Ad.beqK_eq (p q : Ad) (yes no : Bool) : p.beqK q yes no = if p = q then yes else no := by
  obtain ⟨p0, p1, p2, p3, p4⟩ := p
  obtain ⟨q0, q1, q2, q3, q4⟩ := q
  have hr : ∀ (a b c : Bool), (Bool.rec (motive := fun _ => Bool) a b c) = if c then b else a := by intro a b c; cases c <;> rfl
  simp only [Ad.beqK, hr, D8.beq_iff, Ad.mk.injEq]
  by_cases h0 : p0 = q0 <;> by_cases h1 : p1 = q1 <;> by_cases h2 : p2 = q2 <;> by_cases h3 : p3 = q3 <;> by_cases h4 : p4 = q4 <;> simp [*]

/-! ### Heaps -/
noncomputable def Hp.get (σ : Hp) (β : Ad) : Option Blk := PT.get β σ.t
noncomputable def Hp.set (σ : Hp) (β : Ad) (b : Blk) : Hp := ⟨PT.upd β σ.t b, σ.nx⟩
theorem Hp.getK_true {σ : Hp} {β : Ad} {k : Blk → Bool} (h : σ.getK β k = true) : ∃ b, σ.get β = some b ∧ k b = true := by
  simp only [Hp.getK] at h
  simp only [Hp.get]
  cases hg : PT.get β σ.t with
  | none => rw [hg] at h; cases h
  | some b => rw [hg] at h; exact ⟨b, rfl, h⟩
theorem Hp.setK_eq (σ : Hp) (β : Ad) (b : Blk) (k : Hp → Bool) : σ.setK β b k = k (σ.set β b) := by simp only [Hp.setK, PT.setK_eq, Hp.set]
@[simp] theorem Hp.get_set (σ : Hp) (β γ : Ad) (b : Blk) : (σ.set β b).get γ = if γ = β then some b else σ.get γ := PT.get_upd _ _ _ _
@[simp] theorem Hp.nx_set (σ : Hp) (β : Ad) (b : Blk) : (σ.set β b).nx = σ.nx := rfl
/-- A block is made: the heap then. -/
structure Hp.Made (σ : Hp) (b : Blk) (σ' : Hp) : Prop where
  nx : σ'.nx.toNat = σ.nx.toNat + 1
  get : ∀ γ, σ'.get γ = if γ = σ.nx then some b else σ.get γ
theorem Hp.newK_true {σ : Hp} {b : Blk} {k : Ad → Hp → Bool} (h : σ.newK b k = true) : ∃ σ', σ.Made b σ' ∧ k σ.nx σ' = true := by
  simp only [Hp.newK, PT.setK_eq] at h
  obtain ⟨q, hq, h⟩ := Ad.succK_true h
  exact ⟨_, ⟨hq, fun γ => by simp only [Hp.get, PT.get_upd]⟩, h⟩
theorem Blk.cellsK_true {k : Nat → AV → Nat → Bool → Nat → List Ad → Bool} {b : Blk} (h : b.cellsK k = true) : ∃ n c st pl sh olds, b = .cells n c st pl sh olds ∧ k n c st pl sh olds = true := by
  cases b <;> simp only [Blk.cellsK, Bool.false_eq_true] at h
  exact ⟨_, _, _, _, _, _, rfl, h⟩
theorem Blk.mpK_true {k : AMap → Bool} {b : Blk} (h : b.mpK k = true) : ∃ m, b = .mp m ∧ k m = true := by
  cases b <;> simp only [Blk.mpK, Bool.false_eq_true] at h
  exact ⟨_, rfl, h⟩
theorem Blk.loopK_true {k : Nat → Jump → Nat → Regs → List Nat → Code → Code → Ad → Bool} {b : Blk} (h : b.loopK k = true) :
    ∃ st j fn t ps as body df, b = .loop st j fn t ps as body df ∧ k st j fn t ps as body df = true := by
  cases b <;> simp only [Blk.loopK, Bool.false_eq_true] at h
  exact ⟨_, _, _, _, _, _, _, _, rfl, h⟩
theorem Blk.defrK_true {k : Bool → Bool} {b : Blk} (h : b.defrK k = true) : ∃ o, b = .defr o ∧ k o = true := by
  cases b <;> simp only [Blk.defrK, Bool.false_eq_true] at h
  exact ⟨_, rfl, h⟩
theorem Hp.cellsK_true {σ : Hp} {β : Ad} {k : Nat → AV → Nat → Bool → Nat → List Ad → Bool} (h : σ.cellsK β k = true) :
    ∃ n c st pl sh olds, σ.get β = some (.cells n c st pl sh olds) ∧ k n c st pl sh olds = true := by
  obtain ⟨b, hb, h⟩ := Hp.getK_true h
  obtain ⟨n, c, st, pl, sh, olds, rfl, h⟩ := Blk.cellsK_true h
  exact ⟨_, _, _, _, _, _, hb, h⟩
theorem Hp.mpK_true {σ : Hp} {β : Ad} {k : AMap → Bool} (h : σ.mpK β k = true) : ∃ m, σ.get β = some (.mp m) ∧ k m = true := by
  obtain ⟨b, hb, h⟩ := Hp.getK_true h
  obtain ⟨m, rfl, h⟩ := Blk.mpK_true h
  exact ⟨_, hb, h⟩
noncomputable def killAll : List Ad → Hp → Hp
  | [], σ => σ
  | β :: l, σ => killAll l (σ.set β .dead)
theorem killK_eq (l : List Ad) (σ : Hp) (k : Hp → Bool) : killK l σ k = k (killAll l σ) := by
  induction l generalizing σ with
  | nil => rfl
  | cons β l ih => show (σ.setK β .dead fun σ => killK l σ k) = _; rw [Hp.setK_eq]; exact ih _
theorem killAll_nx (l : List Ad) (σ : Hp) : (killAll l σ).nx = σ.nx := by
  induction l generalizing σ with
  | nil => rfl
  | cons β l ih => simp only [killAll, ih, Hp.nx_set]
theorem killAll_get (l : List Ad) (σ : Hp) (γ : Ad) : (killAll l σ).get γ = if γ ∈ l then some .dead else σ.get γ := by
  induction l generalizing σ with
  | nil => simp [killAll]
  | cons β l ih =>
    simp only [killAll, ih, Hp.get_set, List.mem_cons]
    by_cases h : γ ∈ l <;> by_cases h' : γ = β <;> simp [h, h']

/-! ### Values -/
theorem AV.asInt_true {v : AV} {k : IntKind → Int → Bool} (h : v.asInt k = true) : (∃ q n, v = .nat q n ∧ k q (Int.ofNat n) = true) ∨ ∃ q n, v = .neg q n ∧ k q (Int.negSucc n) = true := by
  cases v <;> simp only [AV.asInt, Bool.false_eq_true] at h
  · exact .inl ⟨_, _, rfl, h⟩
  · exact .inr ⟨_, _, rfl, h⟩
theorem AV.asNat_true {v : AV} {k : Nat → Bool} (h : v.asNat k = true) : ∃ q n, v = .nat q n ∧ k n = true := by
  cases v <;> simp only [AV.asNat, Bool.false_eq_true] at h
  exact ⟨_, _, rfl, h⟩
theorem AV.asBool_true {v : AV} {k : Bool → Bool} (h : v.asBool k = true) : ∃ b, v = .bool b ∧ k b = true := by
  cases v <;> simp only [AV.asBool, Bool.false_eq_true] at h
  exact ⟨_, rfl, h⟩
theorem AV.asPtr_true {v : AV} {k : Ad → Nat → Bool} (h : v.asPtr k = true) : ∃ β o, v = .ptr β o ∧ k β o = true := by
  cases v <;> simp only [AV.asPtr, Bool.false_eq_true] at h
  exact ⟨_, _, rfl, h⟩
theorem AV.asSl_true {v : AV} {no : Bool} {k : Ad → Nat → Nat → Bool → Nat → Nat → Bool} (h : v.asSl no k = true) :
    (v = .snil ∧ no = true) ∨ ∃ β o l e c s, v = .slice β o l e c s ∧ k β o l e c s = true := by
  cases v <;> simp only [AV.asSl, Bool.false_eq_true] at h
  · exact .inl ⟨rfl, h⟩
  · exact .inr ⟨_, _, _, _, _, _, rfl, h⟩
theorem AV.asStr_true {v : AV} {k : Nat → Nat → Bool} (h : v.asStr k = true) : ∃ n N, v = .str n N ∧ k n N = true := by
  cases v <;> simp only [AV.asStr, Bool.false_eq_true] at h
  exact ⟨_, _, rfl, h⟩
theorem AV.asMp_true {v : AV} {no : Bool} {k : Ad → Bool} (h : v.asMp no k = true) : (v = .mnil ∧ no = true) ∨ ∃ β, v = .map β ∧ k β = true := by
  cases v <;> simp only [AV.asMp, Bool.false_eq_true] at h
  · exact .inl ⟨rfl, h⟩
  · exact .inr ⟨_, rfl, h⟩
theorem AV.asAgg_true {v : AV} {k : Nat → AV → Bool} (h : v.asAgg k = true) : ∃ n c, v = .agg n c ∧ k n c = true := by
  cases v <;> simp only [AV.asAgg, Bool.false_eq_true] at h
  exact ⟨_, _, rfl, h⟩
theorem AV.asTup_true {v : AV} {k : AV → Bool} (h : v.asTup k = true) : ∃ l, v = .tup l ∧ k l = true := by
  cases v <;> simp only [AV.asTup, Bool.false_eq_true] at h
  exact ⟨_, rfl, h⟩
theorem AV.asFn_true {v : AV} {k : Nat → AV → Bool} {l : Ad → Bool} (h : v.asFn k l = true) : (∃ f c, v = .func f c ∧ k f c = true) ∨ ∃ β, v = .yield β ∧ l β = true := by
  cases v <;> simp only [AV.asFn, Bool.false_eq_true] at h
  · exact .inl ⟨_, _, rfl, h⟩
  · exact .inr ⟨_, rfl, h⟩
theorem AV.asCons_true {v : AV} {no : Bool} {k : AV → AV → Bool} (h : v.asCons no k = true) : (v = .nil ∧ no = true) ∨ ∃ a l, v = .cons a l ∧ k a l = true := by
  cases v <;> simp only [AV.asCons, Bool.false_eq_true] at h
  · exact .inl ⟨rfl, h⟩
  · exact .inr ⟨_, _, rfl, h⟩
theorem AV.asRb_true {v : AV} {k : Nat → Nat → Bool} (h : v.asRb k = true) : ∃ n N, v = .rb n N ∧ k n N = true := by
  cases v <;> simp only [AV.asRb, Bool.false_eq_true] at h
  exact ⟨_, _, rfl, h⟩
theorem AV.guardK_true {v : AV} {no : Bool} {k : Bool → Bool} (h : v.guardK no k = true) : (v = .undef ∧ no = true) ∨ ∃ b, v = .bool b ∧ k b = true := by
  cases v <;> simp only [AV.guardK, Bool.false_eq_true] at h
  · exact .inl ⟨rfl, h⟩
  · exact .inr ⟨_, rfl, h⟩
theorem AV.byteK_true {v : AV} {k : Nat → Bool} (h : v.byteK k = true) : ∃ m, v = .nat .u8 m ∧ m ≤ 255 ∧ k m = true := by
  cases v <;> simp only [AV.byteK, Bool.false_eq_true] at h
  rename_i q n
  cases q <;> simp only [Bool.false_eq_true] at h
  obtain ⟨h1, h2⟩ := sel_yes h
  exact ⟨_, rfl, by simpa using h1, h2⟩

/-! ### Ropes -/
/-- A byte of packed ones. -/
def byteAt (N i : Nat) : Nat := (N >>> (8 * i)) % 256
def AV.rget : AV → Nat → Option AV
  | .r1 v, i => if i = 0 then some v else none
  | .rb n N, i => if i < n then some (.nat .u8 (byteAt N i)) else none
  | .rn h l r, i => if i < h then l.rget i else r.rget (i - h)
  | _, _ => none
theorem AV.rgetK_true {k : AV → Bool} {c : AV} {i : Nat} (h : AV.rgetK k c i = true) : ∃ v, c.rget i = some v ∧ k v = true := by
  induction c generalizing i with
  | r1 v _ =>
    cases i with
    | zero => exact ⟨v, rfl, h⟩
    | succ i => cases h
  | rb n N =>
    have h : sel (Nat.ble (Nat.succ i) n) (k (.nat .u8 (Nat.mod (Nat.shiftRight N (Nat.mul 8 i)) 256))) false = true := h
    obtain ⟨h1, h2⟩ := sel_yes h
    have : i < n := Nat.le_of_ble_eq_true h1
    exact ⟨_, by simp only [AV.rget, if_pos this]; rfl, h2⟩
  | rn m l r ihl ihr =>
    have h : sel (Nat.ble (Nat.succ i) m) (AV.rgetK k l i) (AV.rgetK k r (Nat.sub i m)) = true := h
    simp only [AV.rget]
    by_cases hi : i < m
    · rw [if_pos hi]
      have hb : Nat.ble (Nat.succ i) m = true := Nat.ble_eq_true_of_le hi
      rw [hb] at h
      exact ihl h
    · rw [if_neg hi]
      have hb : Nat.ble (Nat.succ i) m = false := by
        cases hb : Nat.ble (Nat.succ i) m
        · rfl
        · exact absurd (Nat.le_of_ble_eq_true hb) (by omega)
      rw [hb] at h
      exact ihr h
  | _ => cases h
theorem byteAt_lt (N i : Nat) : byteAt N i < 256 := Nat.mod_lt _ (by decide)
theorem testBit_byteAt (N i j : Nat) : (byteAt N i).testBit j = (decide (j < 8) && N.testBit (8 * i + j)) := by
  unfold byteAt
  rw [show (256 : Nat) = 2 ^ 8 from rfl, Nat.testBit_mod_two_pow, Nat.testBit_shiftRight]
/-- A byte is set. -/
theorem byteAt_set (N i m j : Nat) (hm : m ≤ 255) : byteAt (N ^^^ ((m ^^^ byteAt N i) <<< (8 * i))) j = if j = i then m else byteAt N j := by
  apply Nat.eq_of_testBit_eq
  intro b
  by_cases hj : j = i
  · subst hj
    rw [if_pos rfl, testBit_byteAt, Nat.testBit_xor, Nat.testBit_shiftLeft, Nat.testBit_xor, testBit_byteAt]
    by_cases hb : b < 8
    · have : 8 * j + b - 8 * j = b := by omega
      simp [hb, this, show 8 * j + b ≥ 8 * j by omega]
      cases N.testBit (8 * j + b) <;> cases m.testBit b <;> rfl
    · have hm' : m.testBit b = false := Nat.testBit_lt_two_pow (Nat.lt_of_lt_of_le (show m < 2 ^ 8 by omega) (Nat.pow_le_pow_right (by decide) (by omega)))
      simp [hb, hm']
  · rw [if_neg hj, testBit_byteAt, testBit_byteAt, Nat.testBit_xor, Nat.testBit_shiftLeft]
    by_cases hb : b < 8
    · simp only [hb, decide_true, Bool.true_and]
      by_cases hge : 8 * j + b ≥ 8 * i
      · have hji : j > i := by
          rcases Nat.lt_or_ge i j with h | h
          · exact h
          · exfalso; omega
        have hx : (m ^^^ byteAt N i).testBit (8 * j + b - 8 * i) = false := by
          rw [Nat.testBit_xor, testBit_byteAt]
          have h8 : ¬ (8 * j + b - 8 * i < 8) := by omega
          have hm' : m.testBit (8 * j + b - 8 * i) = false := Nat.testBit_lt_two_pow (Nat.lt_of_lt_of_le (show m < 2 ^ 8 by omega) (Nat.pow_le_pow_right (by decide) (by omega)))
          simp [h8, hm']
        simp [hx]
      · simp [hge]
    · simp [hb]
theorem byteAt_sub (N off n i : Nat) (h : i < n) : byteAt ((N >>> (8 * off)) % 2 ^ (8 * n)) i = byteAt N (off + i) := by
  apply Nat.eq_of_testBit_eq
  intro b
  rw [testBit_byteAt, testBit_byteAt, Nat.testBit_mod_two_pow, Nat.testBit_shiftRight]
  by_cases hb : b < 8
  · have h1 : 8 * i + b < 8 * n := by omega
    simp [hb, h1, show 8 * off + (8 * i + b) = 8 * (off + i) + b by omega]
  · simp [hb]
theorem byteAt_join (N M n i : Nat) : byteAt (N % 2 ^ (8 * n) + M <<< (8 * n)) i = if i < n then byteAt N i else byteAt M (i - n) := by
  have hlt : N % 2 ^ (8 * n) < 2 ^ (8 * n) := Nat.mod_lt _ (Nat.pos_of_ne_zero (by simp))
  have he : N % 2 ^ (8 * n) + M <<< (8 * n) = 2 ^ (8 * n) * M + N % 2 ^ (8 * n) := by rw [Nat.shiftLeft_eq, Nat.mul_comm M, Nat.add_comm]
  apply Nat.eq_of_testBit_eq
  intro b
  rw [he, testBit_byteAt, Nat.testBit_two_pow_mul_add _ hlt]
  by_cases hb : b < 8
  · by_cases hi : i < n
    · rw [if_pos hi, testBit_byteAt, Nat.testBit_mod_two_pow]
      have h1 : 8 * i + b < 8 * n := by omega
      simp [hb, h1]
    · rw [if_neg hi, testBit_byteAt]
      have h1 : ¬ 8 * i + b < 8 * n := by omega
      simp [hb, h1, show 8 * i + b - 8 * n = 8 * (i - n) + b by omega]
  · by_cases hi : i < n
    · rw [if_pos hi, testBit_byteAt]; simp [hb]
    · rw [if_neg hi, testBit_byteAt]; simp [hb]
theorem byteAt_zero (i : Nat) : byteAt 0 i = 0 := by simp [byteAt]

theorem ble_false {a b : Nat} (h : Nat.ble a b = false) : b < a := by
  rcases Nat.lt_or_ge b a with h' | h'
  · exact h'
  · rw [Nat.ble_eq_true_of_le h'] at h; cases h
theorem AV.plainK_true {v : AV} {k : Bool} (h : v.plainK k = true) : k = true := by
  cases v <;> simp only [AV.plainK, Bool.false_eq_true] at h <;> exact h
/-- What one cell may hold. -/
def AV.plain (v : AV) : Prop := v.plainK true = true
theorem AV.plainK_plain {v : AV} {k : Bool} (h : v.plainK k = true) : v.plain := by
  cases v <;> simp only [AV.plainK, Bool.false_eq_true] at h <;> rfl
theorem AV.rsetK_true {v c : AV} {i : Nat} {k : AV → Bool} (h : AV.rsetK v c i k = true) :
    ∃ c', k c' = true ∧ v.plain ∧ (∀ j, c'.rget j = if j = i then some v else c.rget j) ∧ (c.rget i).isSome = true := by
  induction c generalizing i k with
  | r1 u _ =>
    cases i with
    | zero =>
      have h : v.plainK (k (.r1 v)) = true := h
      refine ⟨.r1 v, AV.plainK_true h, AV.plainK_plain h, fun j => ?_, rfl⟩
      cases j <;> simp [AV.rget]
    | succ i => cases h
  | rb n N =>
    have h : sel (Nat.ble (Nat.succ i) n) (v.byteK fun m => forceN (Nat.xor N (Nat.shiftLeft (Nat.xor m (Nat.mod (Nat.shiftRight N (Nat.mul 8 i)) 256)) (Nat.mul 8 i))) fun N' => k (.rb n N')) false = true := h
    obtain ⟨h1, h2⟩ := sel_yes h
    have hi : i < n := Nat.le_of_ble_eq_true h1
    obtain ⟨m, rfl, hm, h3⟩ := AV.byteK_true h2
    rw [forceN_eq] at h3
    refine ⟨_, h3, by rfl, fun j => ?_, by simp [AV.rget, hi]⟩
    have hb := byteAt_set N i m j hm
    simp only [AV.rget]
    have he : Nat.xor N (Nat.shiftLeft (Nat.xor m (Nat.mod (Nat.shiftRight N (Nat.mul 8 i)) 256)) (Nat.mul 8 i)) = N ^^^ ((m ^^^ byteAt N i) <<< (8 * i)) := rfl
    rw [he, hb]
    by_cases hj : j = i
    · subst hj; simp [hi]
    · simp [hj]
  | rn a l r ihl ihr =>
    have h : sel (Nat.ble (Nat.succ i) a) (AV.rsetK v l i fun l' => k (.rn a l' r)) (AV.rsetK v r (Nat.sub i a) fun r' => k (.rn a l r')) = true := h
    rw [sel_true_iff] at h
    rcases h with ⟨h1, h⟩ | ⟨h1, h⟩
    · have hi : i < a := Nat.le_of_ble_eq_true h1
      obtain ⟨l', hk, hp, hg, hs⟩ := ihl h
      refine ⟨_, hk, hp, fun j => ?_, by simp [AV.rget, hi, hs]⟩
      simp only [AV.rget]
      by_cases hj : j < a
      · simp only [if_pos hj, hg]
      · have : j ≠ i := by omega
        simp [hj, this]
    · have hi : a < i + 1 := ble_false h1
      obtain ⟨r', hk, hp, hg, hs⟩ := ihr h
      have hia : ¬ i < a := by omega
      have hs : (r.rget (i - a)).isSome = true := hs
      refine ⟨_, hk, hp, fun j => ?_, by simp [AV.rget, hia, hs]⟩
      simp only [AV.rget]
      by_cases hj : j < a
      · have : j ≠ i := by omega
        simp [hj, this]
      · simp only [if_neg hj, hg]
        have he : (j - a = Nat.sub i a) ↔ j = i := by
          show j - a = i - a ↔ j = i
          omega
        simp only [he]
  | _ => cases h
theorem AV.rsubK_true {c : AV} {off n : Nat} {k : AV → Bool} (h : c.rsubK off n k = true) :
    ∃ c', k c' = true ∧ (∀ i, i < n → c'.rget i = c.rget (off + i) ∧ (c.rget (off + i)).isSome = true) := by
  induction c generalizing off n k with
  | r0 =>
    have h : sel (Nat.beq n 0) (k .r0) false = true := h
    obtain ⟨h1, h2⟩ := sel_yes h
    have : n = 0 := Nat.eq_of_beq_eq_true h1
    exact ⟨_, h2, fun i hi => by omega⟩
  | r1 v _ =>
    have h : sel (Nat.beq n 0) (k .r0) (sel (Nat.beq off 0) (sel (Nat.beq n 1) (k (.r1 v)) false) false) = true := h
    rw [sel_true_iff] at h
    rcases h with ⟨h1, h2⟩ | ⟨_, h⟩
    · have : n = 0 := Nat.eq_of_beq_eq_true h1
      exact ⟨_, h2, fun i hi => by omega⟩
    · obtain ⟨h1, h⟩ := sel_yes h
      obtain ⟨h2, h⟩ := sel_yes h
      have : off = 0 := Nat.eq_of_beq_eq_true h1
      have : n = 1 := Nat.eq_of_beq_eq_true h2
      refine ⟨_, h, fun i hi => ?_⟩
      have : i = 0 := by omega
      subst_vars
      exact ⟨rfl, rfl⟩
  | rb m N =>
    have h : sel (Nat.ble (Nat.add off n) m) (forceN (Nat.mod (Nat.shiftRight N (Nat.mul 8 off)) (Nat.pow 2 (Nat.mul 8 n))) fun N' => k (.rb n N')) false = true := h
    obtain ⟨h1, h2⟩ := sel_yes h
    have hle : off + n ≤ m := Nat.le_of_ble_eq_true h1
    rw [forceN_eq] at h2
    refine ⟨_, h2, fun i hi => ?_⟩
    have hb := byteAt_sub N off n i hi
    have hlt : off + i < m := by omega
    simp only [AV.rget, hi, hlt, if_true]
    exact ⟨congrArg (fun x => some (AV.nat .u8 x)) hb, rfl⟩
  | rn a l r ihl ihr =>
    have h : sel (Nat.ble (Nat.add off n) a) (l.rsubK off n k) (sel (Nat.ble a off) (r.rsubK (Nat.sub off a) n k)
      (l.rsubK off (Nat.sub a off) fun x => r.rsubK 0 (Nat.sub n (Nat.sub a off)) fun y => k (.rn (Nat.sub a off) x y))) = true := h
    rw [sel_true_iff] at h
    rcases h with ⟨h1, h⟩ | ⟨h1, h⟩
    · have hle : off + n ≤ a := Nat.le_of_ble_eq_true h1
      obtain ⟨c', hk, hg⟩ := ihl h
      refine ⟨c', hk, fun i hi => ?_⟩
      simp only [AV.rget, if_pos (show off + i < a by omega)]
      exact hg i hi
    · have hlt : a < off + n := ble_false h1
      rw [sel_true_iff] at h
      rcases h with ⟨h2, h⟩ | ⟨h2, h⟩
      · have hao : a ≤ off := Nat.le_of_ble_eq_true h2
        obtain ⟨c', hk, hg⟩ := ihr h
        refine ⟨c', hk, fun i hi => ?_⟩
        simp only [AV.rget, if_neg (show ¬ off + i < a by omega)]
        have := hg i hi
        rw [show (Nat.sub off a) + i = off + i - a by show off - a + i = _; omega] at this
        exact this
      · have hao : off < a := ble_false h2
        obtain ⟨x, h, hx⟩ := ihl h
        obtain ⟨y, hk, hy⟩ := ihr h
        refine ⟨_, hk, fun i hi => ?_⟩
        have hsub : Nat.sub a off = a - off := rfl
        simp only [AV.rget, hsub]
        by_cases hc : i < a - off
        · rw [if_pos hc, if_pos (show off + i < a by omega)]
          exact hx i hc
        · rw [if_neg hc, if_neg (show ¬ off + i < a by omega)]
          have := hy (i - (a - off)) (by show i - (a - off) < n - (a - off); omega)
          rw [show 0 + (i - (a - off)) = off + i - a by omega] at this
          exact this
  | _ => cases h
theorem isRb_true {v : AV} (h : isRb v = true) : ∃ n N, v = .rb n N := by cases v <;> simp only [isRb, Bool.false_eq_true] at h; exact ⟨_, _, rfl⟩
theorem isZ_true {v : AV} (h : isZ v = true) : v = .rb 1 0 := by
  cases v <;> simp only [isZ, Bool.false_eq_true] at h
  obtain ⟨h1, h2⟩ := sel_yes h
  rw [Nat.eq_of_beq_eq_true h1, Nat.eq_of_beq_eq_true h2]
theorem AV.rjoinK_true {h : Nat} {a b : AV} {k : AV → Bool} (hk : AV.rjoinK h a b k = true) :
    ∃ c, k c = true ∧ (∀ i, i < h → c.rget i = a.rget i) ∧ ∀ i, c.rget (h + i) = b.rget i := by
  have plain : k (.rn h a b) = true → ∃ c, k c = true ∧ (∀ i, i < h → c.rget i = a.rget i) ∧ ∀ i, c.rget (h + i) = b.rget i := fun hp =>
    ⟨_, hp, fun i hi => by simp [AV.rget, hi], fun i => by simp [AV.rget, show ¬ h + i < h by omega]⟩
  unfold AV.rjoinK at hk
  rw [sel_true_iff] at hk
  rcases hk with ⟨h1, hk⟩ | ⟨_, hk⟩
  · have : h = 0 := Nat.eq_of_beq_eq_true h1
    subst this
    exact ⟨_, hk, fun i hi => by omega, fun i => by simp⟩
  rw [sel_true_iff] at hk
  rcases hk with ⟨h1, hk⟩ | ⟨_, hk⟩
  · rw [sel_true_iff] at hk
    rcases hk with ⟨h2, hk⟩ | ⟨_, hk⟩
    · obtain ⟨n, N, rfl⟩ := isRb_true h1
      obtain ⟨m, M, rfl⟩ := isRb_true h2
      have hk2 : sel (Nat.beq n h) (forceN (Nat.add (Nat.mod N (Nat.pow 2 (Nat.mul 8 n))) (Nat.shiftLeft M (Nat.mul 8 n))) fun S => k (.rb (Nat.add n m) S)) false = true := hk
      clear hk
      obtain ⟨h3, hk3⟩ := sel_yes hk2
      have : n = h := Nat.eq_of_beq_eq_true h3
      subst this
      rw [forceN_eq] at hk3
      refine ⟨_, hk3, fun i hi => ?_, fun i => ?_⟩
      · have hb := byteAt_join N M n i
        rw [if_pos hi] at hb
        simp only [AV.rget, hi, if_true]
        rw [if_pos (show i < Nat.add n m by show i < n + m; omega)]
        exact congrArg (fun x => some (AV.nat .u8 x)) hb
      · have hb := byteAt_join N M n (n + i)
        rw [if_neg (by omega), show n + i - n = i by omega] at hb
        simp only [AV.rget]
        by_cases him : i < m
        · rw [if_pos him, if_pos (show n + i < Nat.add n m by show n + i < n + m; omega)]
          exact congrArg (fun x => some (AV.nat .u8 x)) hb
        · rw [if_neg him, if_neg (show ¬ n + i < Nat.add n m by show ¬ n + i < n + m; omega)]
    · exact plain hk
  · exact plain hk
theorem AV.repK_true {h : Nat} {z : AV} {m : Nat} {k : AV → Bool} (hk : AV.repK h z m k = true) :
    ∃ c, k c = true ∧ ∀ i, i < m * h → c.rget i = z.rget (i % h) := by
  unfold AV.repK at hk
  rw [sel_true_iff] at hk
  rcases hk with ⟨h1, hk⟩ | ⟨_, hk⟩
  · have := isZ_true h1
    subst this
    obtain ⟨h2, hk⟩ := sel_yes hk
    have : h = 1 := Nat.eq_of_beq_eq_true h2
    subst this
    exact ⟨_, hk, fun i hi => by simp [AV.rget, byteAt_zero, Nat.mod_one, show i < m by omega]⟩
  · have key : ∀ (m : Nat) (k : AV → Bool), (Nat.rec (motive := fun _ => (AV → Bool) → Bool) (fun k => k .r0) (fun _ ih k => ih fun r => k (.rn h z r)) m k) = true →
        ∃ c, k c = true ∧ ∀ i, i < m * h → c.rget i = z.rget (i % h) := by
      intro m
      induction m with
      | zero => exact fun k hk => ⟨_, hk, fun i hi => by omega⟩
      | succ m ih =>
        intro k hk
        obtain ⟨c, hk, hg⟩ := ih _ hk
        refine ⟨_, hk, fun i hi => ?_⟩
        simp only [AV.rget]
        by_cases hih : i < h
        · rw [if_pos hih, Nat.mod_eq_of_lt hih]
        · rw [if_neg hih, hg (i - h) (by rw [Nat.succ_mul] at hi; omega)]
          rw [show i = i - h + h by omega, Nat.add_mod_right, show i - h + h - h = i - h by omega]
    exact key m k hk
theorem spliceK_true {n : Nat} {c : AV} {off m : Nat} {src : AV} {k : AV → Bool} (h : spliceK n c off m src k = true) (hle : off + m ≤ n) :
    ∃ c', k c' = true ∧ ∀ i, i < n → c'.rget i = if off ≤ i ∧ i < off + m then src.rget (i - off) else c.rget i := by
  unfold spliceK at h
  rw [sel_true_iff] at h
  rcases h with ⟨h1, h⟩ | ⟨_, h⟩
  · have : m = n := Nat.eq_of_beq_eq_true h1
    have h0 : off = 0 := by omega
    subst this h0
    exact ⟨_, h, fun i hi => by simp [hi]⟩
  · obtain ⟨a, h, ha⟩ := AV.rsubK_true h
    obtain ⟨b, h, hb⟩ := AV.rsubK_true h
    obtain ⟨y, h, hy1, hy2⟩ := AV.rjoinK_true h
    obtain ⟨z, h, hz1, hz2⟩ := AV.rjoinK_true h
    refine ⟨z, h, fun i hi => ?_⟩
    by_cases h1 : i < off
    · rw [if_neg (by omega), hz1 i h1, (ha i h1).1, Nat.zero_add]
    · obtain ⟨j, rfl⟩ : ∃ j, i = off + j := ⟨i - off, by omega⟩
      rw [hz2]
      by_cases h2 : j < m
      · rw [if_pos (by omega), hy1 j h2, show off + j - off = j by omega]
      · obtain ⟨l, rfl⟩ : ∃ l, j = m + l := ⟨j - m, by omega⟩
        rw [if_neg (by omega), hy2, (hb l (by show l < n - (off + m); omega)).1]
        congr 1
        show off + m + l = _
        omega
end Go.Am
