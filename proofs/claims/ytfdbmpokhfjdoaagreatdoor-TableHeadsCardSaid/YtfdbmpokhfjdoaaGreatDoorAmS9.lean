import Derived.Test.YtfdbmpokhfjdoaaGreatDoorAmS8
import Derived.Laws.IdiomStrings
import Derived.Laws.Strings
set_option linter.unusedVariables false
set_option linter.unusedSimpArgs false
/-! Soundness, 9: texts. -/
namespace Go.Am
open Go
theorem byteAt_ext {n A B : Nat} (hA : A < 2 ^ (8 * n)) (hB : B < 2 ^ (8 * n)) (h : ∀ i, i < n → byteAt A i = byteAt B i) : A = B := by
  apply Nat.eq_of_testBit_eq
  intro j
  by_cases hj : j < 8 * n
  · have hi : j / 8 < n := by omega
    have h1 := testBit_byteAt A (j / 8) (j % 8)
    have h2 := testBit_byteAt B (j / 8) (j % 8)
    rw [h _ hi, h2] at h1
    have h8 : j % 8 < 8 := Nat.mod_lt _ (by decide)
    simp only [h8, decide_true, Bool.true_and, show 8 * (j / 8) + j % 8 = j by omega] at h1
    exact h1.symm
  · have : ∀ X, X < 2 ^ (8 * n) → X.testBit j = false := fun X hX => Nat.testBit_lt_two_pow (Nat.lt_of_lt_of_le hX (Nat.pow_le_pow_right (by decide) (by omega)))
    rw [this A hA, this B hB]
theorem packL_inj {a b : List UInt8} (hl : a.length = b.length) (h : packL a = packL b) : a = b := by
  apply List.ext_getElem hl
  intro i h1 h2
  have e1 := byteAt_packL a i h1
  have e2 := byteAt_packL b i h2
  rw [h, e2] at e1
  exact UInt8.toNat_inj.1 e1.symm
theorem packL_append (a b : List UInt8) : packL (a ++ b) = packL a + packL b <<< (8 * a.length) := by
  induction a with
  | nil => simp [packL]
  | cons x r ih =>
    simp only [List.cons_append, packL, ih, List.length_cons, Nat.shiftLeft_eq, Nat.mul_add, Nat.pow_add]
    simp only [Nat.mul_one]
    rw [show packL b * (2 ^ (8 * r.length) * 2 ^ 8) = 256 * (packL b * 2 ^ (8 * r.length)) by rw [Nat.mul_comm 256, Nat.mul_assoc]]
    omega
theorem packL_sub (l : List UInt8) (lo hi : Nat) (h1 : lo ≤ hi) (h2 : hi ≤ l.length) : packL ((l.take hi).drop lo) = (packL l >>> (8 * lo)) % 2 ^ (8 * (hi - lo)) := by
  have hlen : ((l.take hi).drop lo).length = hi - lo := by simp; omega
  refine byteAt_ext (n := hi - lo) (by rw [← hlen]; exact packL_lt _) (Nat.mod_lt _ (Nat.two_pow_pos _)) fun i hi' => ?_
  rw [byteAt_sub _ _ _ _ hi', byteAt_packL _ _ (by omega), byteAt_packL _ _ (by omega)]
  simp
theorem ba_ext {a b : ByteArray} (h : a.data.toList = b.data.toList) : a = b := by
  cases a; cases b; simp only [ByteArray.mk.injEq]; exact Array.toList_inj.1 h
theorem VR.str' {φ : Emb} {κ : Nat → Nat} (s : ByteArray) {n N : Nat} (hn : s.data.toList.length = n) (hN : packL s.data.toList = N) : VR φ κ (.str n N) (.string s) := .str s n N hn hN
theorem VR.str_inv {φ : Emb} {κ : Nat → Nat} {n N : Nat} {x : Value} (h : VR φ κ (.str n N) x) : ∃ s : ByteArray, x = .string s ∧ s.data.toList.length = n ∧ packL s.data.toList = N := by
  cases h with
  | str s _ _ h1 h2 => exact ⟨s, rfl, h1, h2⟩
theorem ba_size (s : ByteArray) : s.size = s.data.toList.length := by rw [Array.length_toList]; rfl
theorem strEq_eq (a b : List UInt8) : strEq a.length (packL a) b.length (packL b) = (a == b) := by
  unfold strEq
  rw [sel_eq, Bool.eq_iff_iff]
  by_cases hl : a.length = b.length
  · rw [if_pos (by simp [hl])]
    simp only [Nat.beq_eq, beq_iff_eq]
    exact ⟨packL_inj hl, fun h => by rw [h]⟩
  · rw [if_neg (by simp [hl])]
    simp only [Bool.false_eq_true, beq_iff_eq, false_iff]
    intro h; exact hl (by rw [h])
theorem strLt_eq : ∀ (d : Nat) (a b : List UInt8), a.length < d → strLt d a.length (packL a) b.length (packL b) = Op.bytesLess a b := by
  intro d
  induction d with
  | zero => intro a b h; omega
  | succ d ih =>
    intro a b h
    show sel (Nat.beq b.length 0) false (sel (Nat.beq a.length 0) true (sel (Nat.beq (Nat.mod (packL a) 256) (Nat.mod (packL b) 256)) (strLt d (Nat.sub a.length 1) (Nat.div (packL a) 256) (Nat.sub b.length 1) (Nat.div (packL b) 256)) (Nat.ble (Nat.succ (Nat.mod (packL a) 256)) (Nat.mod (packL b) 256)))) = _
    cases b with
    | nil => simp [sel_eq]; unfold Op.bytesLess; cases a <;> rfl
    | cons y b =>
      cases a with
      | nil => simp [sel_eq, Op.bytesLess]
      | cons x a =>
        have hx := x.toNat_lt
        have hy := y.toNat_lt
        have e1 : Nat.mod (packL (x :: a)) 256 = x.toNat := by show packL (x :: a) % 256 = _; simp only [packL]; omega
        have e2 : Nat.mod (packL (y :: b)) 256 = y.toNat := by show packL (y :: b) % 256 = _; simp only [packL]; omega
        have e3 : Nat.div (packL (x :: a)) 256 = packL a := by show packL (x :: a) / 256 = _; simp only [packL]; omega
        have e4 : Nat.div (packL (y :: b)) 256 = packL b := by show packL (y :: b) / 256 = _; simp only [packL]; omega
        rw [e1, e2, e3, e4]
        simp only [List.length_cons, Nat.sub_eq, Nat.add_sub_cancel, sel_eq]
        rw [if_neg (by simp), if_neg (by simp), ih a b (by simpa using h)]
        simp only [Op.bytesLess]
        by_cases hxy : x = y
        · subst hxy; simp
        · have hne : x.toNat ≠ y.toNat := fun h => hxy (UInt8.toNat_inj.1 h)
          rw [if_neg (by simpa using hne)]
          have : (x == y) = false := by simpa using hxy
          rw [this, Bool.false_and, Bool.or_false, Bool.eq_iff_iff, Nat.ble_eq]
          simp only [UInt8.lt_iff_toNat_lt, decide_eq_true_eq]
          exact Iff.rfl
theorem bytesLess_flip (a b : List UInt8) : Op.bytesLess b a = !(Op.bytesLess a b || a == b) := by
  induction a generalizing b with
  | nil => cases b <;> simp [Op.bytesLess]
  | cons x a ih =>
    cases b with
    | nil => simp [Op.bytesLess]
    | cons y b =>
      simp only [Op.bytesLess, ih b]
      by_cases hxy : x = y
      · subst hxy; simp
      · have h1 : (x == y) = false := by simpa using hxy
        have h2 : (y == x) = false := by simpa using Ne.symm hxy
        have h3 : ((x :: a) == (y :: b)) = false := by simp [hxy]
        rw [h1, h2, h3]
        have hne : x.toNat ≠ y.toNat := fun h => hxy (UInt8.toNat_inj.1 h)
        simp only [Bool.false_and, Bool.or_false]
        rw [Bool.eq_iff_iff]
        simp [UInt8.lt_iff_toNat_lt]
        omega
section
variable {P : Program} {σ : Hp} {t : Regs} {ls : Ls} {k : AV → Bool}
theorem rStr_s {op : BinOp} {F : Nat → Nat → Nat → Nat → Bool} (hF : ∀ a b : ByteArray, Op.stringOp op a b = Pure.pure (.bool (F a.data.toList.length (packL a.data.toList) b.data.toList.length (packL b.data.toList)))) {x y : OpdF} (hk : rStr F x y t ls σ k = true) :
    ∃ v, k v = true ∧ ∀ {φ w xv yv}, VR φ (csz w.heap) (x t ls) xv → VR φ (csz w.heap) (y t ls) yv → ∃ a b, xv = .string a ∧ yv = .string b ∧ RdS P φ w v (Op.stringOp op a b) := by
  obtain ⟨n, N, h1, hk⟩ := AV.asStr_true hk
  obtain ⟨m, M, h2, hk⟩ := AV.asStr_true hk
  refine ⟨_, hk, fun {φ w xv yv} hx hy => ?_⟩
  rw [h1] at hx; rw [h2] at hy
  obtain ⟨a, rfl, rfl, rfl⟩ := hx.str_inv
  obtain ⟨b, rfl, rfl, rfl⟩ := hy.str_inv
  exact ⟨a, b, rfl, rfl, _, by rw [hF]; rfl, .bool _⟩
theorem rCat_s {x y : OpdF} (hk : rCat x y t ls σ k = true) :
    ∃ v, k v = true ∧ ∀ {φ w xv yv}, VR φ (csz w.heap) (x t ls) xv → VR φ (csz w.heap) (y t ls) yv → ∃ a b, xv = .string a ∧ yv = .string b ∧ RdS P φ w v (Op.stringOp .add a b) := by
  obtain ⟨n, N, h1, hk⟩ := AV.asStr_true hk
  obtain ⟨m, M, h2, hk⟩ := AV.asStr_true hk
  obtain ⟨h3, hk⟩ := sel_yes hk
  have hle : n + m ≤ 9223372036854775807 := Nat.le_of_ble_eq_true h3
  refine ⟨_, hk, fun {φ w xv yv} hx hy => ?_⟩
  rw [h1] at hx; rw [h2] at hy
  obtain ⟨a, rfl, rfl, rfl⟩ := hx.str_inv
  obtain ⟨b, rfl, rfl, rfl⟩ := hy.str_inv
  refine ⟨a, b, rfl, rfl, .string (a ++ b), ?_, ?_⟩
  · have : ¬ (((a.size + b.size : Nat) : Int) > IntKind.i64.max) := by
      rw [ba_size, ba_size]
      simp only [IntKind.max, IntKind.signed, IntKind.bits, if_true]
      omega
    simp only [Op.stringOp]
    rw [if_neg this]
    rfl
  · have hd : (a ++ b).data.toList = a.data.toList ++ b.data.toList := by
      rw [ByteArray.data_append, Array.toList_append]
    exact .str' _ (by rw [hd, List.length_append]; rfl) (by rw [hd, packL_append]; rfl)
theorem strW_s {T : TypeId} {op : BinOp} {x y : OpdF} {f : RdF} {dep : Bool} (ho : strW op x y = .rd f dep) (hk : f t ls σ k = true) :
    ∃ v, k v = true ∧ ∀ {φ w xv yv}, VR φ (csz w.heap) (x t ls) xv → VR φ (csz w.heap) (y t ls) yv → (∃ a, xv = .string a) ∧ RdS P φ w v (binOp op T xv yv) := by
  have conv : ∀ {xv yv : Value} {φ : Emb} {w : World} {v : AV}, op ≠ .shl → op ≠ .shr → (∃ a b, xv = .string a ∧ yv = .string b ∧ RdS P φ w v (Op.stringOp op a b)) → (∃ a, xv = .string a) ∧ RdS P φ w v (binOp op T xv yv) := fun {xv yv φ w v} h1 h2 ⟨a, b, e1, e2, h⟩ => by
    subst e1 e2
    refine ⟨⟨_, rfl⟩, ?_⟩
    have : binOp op T (.string a) (.string b) = Op.stringOp op a b := by cases op <;> first | exact absurd rfl h1 | exact absurd rfl h2 | rfl
    rw [this]; exact h
  have tl : ∀ s : ByteArray, s.toList = s.data.toList := ByteArray.toList_eq
  unfold strW at ho
  cases op <;> simp only [OpW.rd.injEq, reduceCtorEq] at ho <;> obtain ⟨rfl, _⟩ := ho
  · obtain ⟨v, hv, h⟩ := rCat_s hk
    exact ⟨v, hv, fun hx hy => conv (by simp) (by simp) (h hx hy)⟩
  · obtain ⟨v, hv, h⟩ := rStr_s (P := P) (op := .eql) (fun a b => by simp only [Op.stringOp, tl, strEq_eq]) hk
    exact ⟨v, hv, fun hx hy => conv (by simp) (by simp) (h hx hy)⟩
  · obtain ⟨v, hv, h⟩ := rStr_s (P := P) (op := .neq) (fun a b => by simp only [Op.stringOp, tl, strEq_eq]) hk
    exact ⟨v, hv, fun hx hy => conv (by simp) (by simp) (h hx hy)⟩
  · obtain ⟨v, hv, h⟩ := rStr_s (P := P) (op := .lss) (fun a b => by simp only [Op.stringOp, tl]; rw [strLt_eq _ _ _ (Nat.lt_succ_self _)]) hk
    exact ⟨v, hv, fun hx hy => conv (by simp) (by simp) (h hx hy)⟩
  · obtain ⟨v, hv, h⟩ := rStr_s (P := P) (op := .leq) (fun a b => by simp only [Op.stringOp, tl]; rw [strLt_eq _ _ _ (Nat.lt_succ_self _), bytesLess_flip a.data.toList b.data.toList, Bool.not_not]) hk
    exact ⟨v, hv, fun hx hy => conv (by simp) (by simp) (h hx hy)⟩
  · obtain ⟨v, hv, h⟩ := rStr_s (P := P) (op := .gtr) (fun a b => by simp only [Op.stringOp, tl]; rw [strLt_eq _ _ _ (Nat.lt_succ_self _), bytesLess_flip a.data.toList b.data.toList]) hk
    exact ⟨v, hv, fun hx hy => conv (by simp) (by simp) (h hx hy)⟩
  · obtain ⟨v, hv, h⟩ := rStr_s (P := P) (op := .geq) (fun a b => by simp only [Op.stringOp, tl]; rw [strLt_eq _ _ _ (Nat.lt_succ_self _)]) hk
    exact ⟨v, hv, fun hx hy => conv (by simp) (by simp) (h hx hy)⟩
theorem rCvU_s {q p : IntKind} (hq : q.signed = false) {S D : TypeId} {x : OpdF} (hk : rCvU q (kMax q + 1) x t ls σ k = true) (hS : P.underlying S = some (.int p)) (hD : P.underlying D = some (.int q)) :
    ∃ v, k v = true ∧ ∀ {φ w xv}, VR φ (csz w.heap) (x t ls) xv → RdS P φ w v (convert S D xv) := by
  rcases AV.asInt_true hk with ⟨q', n, hx, hk⟩ | ⟨q', n, hx, hk⟩
  · refine ⟨.nat q (Nat.mod n (kMax q + 1)), hk, fun {φ w xv} hxv => ?_⟩
    rw [hx] at hxv; cases hxv
    refine ⟨.int q (q.wrap (n : Int)), by simp [convert, underlying, hS, hD, Conv.intToInt], ?_⟩
    rw [wrap_uns hq]; exact .nat q _
  · obtain ⟨v, hk, hv⟩ := wrapI_true hk
    refine ⟨v, hk, fun {φ w xv} hxv => ?_⟩
    rw [hx] at hxv; cases hxv
    exact ⟨_, by simp [convert, underlying, hS, hD, Conv.intToInt], hv _ _⟩
theorem rCvS_s {q p : IntKind} {S D : TypeId} {x : OpdF} (hk : rCvS q (kMax q) x t ls σ k = true) (hS : P.underlying S = some (.int p)) (hD : P.underlying D = some (.int q)) :
    ∃ v, k v = true ∧ ∀ {φ w xv}, VR φ (csz w.heap) (x t ls) xv → RdS P φ w v (convert S D xv) := by
  rcases AV.asInt_true hk with ⟨q', n, hx, hk⟩ | ⟨q', n, hx, hk⟩
  · obtain ⟨v, hk, hv⟩ := upTo_true hk
    refine ⟨v, hk, fun {φ w xv} hxv => ?_⟩
    rw [hx] at hxv; cases hxv
    exact ⟨_, by simp [convert, underlying, hS, hD, Conv.intToInt], hv _ _⟩
  · obtain ⟨v, hk, hv⟩ := wrapI_true hk
    refine ⟨v, hk, fun {φ w xv} hxv => ?_⟩
    rw [hx] at hxv; cases hxv
    exact ⟨_, by simp [convert, underlying, hS, hD, Conv.intToInt], hv _ _⟩
theorem rIdxS_s {T : TypeId} {x i : OpdF} (hk : rIdxS x i t ls σ k = true) (hT : P.underlying T = some .string) :
    ∃ v, k v = true ∧ ∀ {φ w xv iv}, VR φ (csz w.heap) (x t ls) xv → VR φ (csz w.heap) (i t ls) iv → RdS P φ w v (Instr.index T xv iv) := by
  obtain ⟨q, i', hi, hk⟩ := AV.asNat_true hk
  obtain ⟨n, N, hx, hk⟩ := AV.asStr_true hk
  obtain ⟨h1, hk⟩ := sel_yes hk
  have hlt : i' < n := Nat.le_of_ble_eq_true h1
  refine ⟨_, hk, fun {φ w xv iv} hxv hiv => ?_⟩
  rw [hx] at hxv; rw [hi] at hiv
  obtain ⟨s, rfl, hn, hN⟩ := hxv.str_inv
  cases hiv
  have hlt' : i' < s.data.toList.length := by omega
  have hsz : i' < s.size := by rw [ba_size]; omega
  refine ⟨.int .u8 ((s.data.toList[i']).toNat : Int), ?_, ?_⟩
  · have e1 : s[i']? = some (s.data.toList[i']) := by
      rw [Array.getElem_toList]
      exact getElem?_pos s i' hsz
    simp [Instr.index, underlying, hT, asIntOf, e1]
  · have := byteAt_packL s.data.toList i' hlt'
    rw [← this, hN]
    exact .nat .u8 _
theorem rCvBS_s {S D E : TypeId} {x : OpdF} (hk : rCvBS x t ls σ k = true) (hS : P.underlying S = some (.slice E)) (hE : P.underlying E = some (.int .u8)) (hD : P.underlying D = some .string) :
    ∃ v, k v = true ∧ ∀ {B φ w xv}, Rel P B φ σ w.heap → VR φ (csz w.heap) (x t ls) xv → RdS P φ w v (convert S D xv) := by
  have hempty : ∀ (φ : Emb) (κ : Nat → Nat), VR φ κ (.str 0 0) (.string ByteArray.empty) := fun φ κ => .str' _ rfl rfl
  rcases AV.asSl_true hk with ⟨hx, hk⟩ | ⟨β, off, len, ex, c, es', hx, hk⟩
  · refine ⟨_, hk, fun {B φ w xv} r hxv => ?_⟩
    rw [hx] at hxv; cases hxv
    refine ⟨_, ?_, hempty _ _⟩
    rw [run_convert_bytes_string w S D E _ _ _ hS hE hD]
    simp [Conv.bytesToString]
  · rw [sel_true_iff] at hk
    rcases hk with ⟨h1, hk⟩ | ⟨h1, hk⟩
    · have hl : len = 0 := Nat.eq_of_beq_eq_true h1
      refine ⟨_, hk, fun {B φ w xv} r hxv => ?_⟩
      rw [hx, hl] at hxv
      have : ∃ a c', xv = .slice (some a) 0 c' := by cases hxv <;> exact ⟨_, _, rfl⟩
      obtain ⟨a, c', rfl⟩ := this
      refine ⟨_, ?_, hempty _ _⟩
      rw [run_convert_bytes_string w S D E _ _ _ hS hE hD]
      simp [Conv.bytesToString, loadCells, loadCellsFrom]
    · replace hk := loadBlkN_sound hk
      obtain ⟨rr, hk, hr⟩ := hk
      replace hk := AV.asRb_true hk
      obtain ⟨n, N, rfl, hk⟩ := hk
      replace hk := sel_yes hk
      obtain ⟨h2, hk⟩ := hk
      have hn : n = len := Nat.eq_of_beq_eq_true h2
      subst hn
      refine ⟨_, hk, fun {B φ w xv} r hxv => ?_⟩
      rw [hx] at hxv
      cases hxv with
      | slice _ _ _ _ _ _ b d c' hβ hx1 hc hlc hrm =>
        obtain ⟨cs, e, fz, q1, q2, q3⟩ := hr r hβ
        let l : List UInt8 := (List.range n).map fun i => UInt8.ofNat (byteAt N i)
        have hll : l.length = n := by simp [l]
        have hcell : ∀ j (hj : j < l.length), w.cell? ((⟨b, d + off, none⟩ : Addr).add j) = some (.int .u8 (l[j].toNat : Int)) := fun j hj => by
          rw [Addr.add_none, cell?_of q1]
          rw [hll] at hj
          obtain ⟨v, p1, p2, p3⟩ := q3 j (by simp; omega)
          rw [rget_rb hj] at p1
          cases p1
          rw [List.getElem_take, List.getElem_drop, Array.getElem_toList] at p3
          have hj' : d + off + j < cs.size := by omega
          rw [Array.getElem?_eq_getElem hj']
          generalize cs[d + off + j] = X at p3
          cases p3
          have : byteAt N j < 256 := byteAt_lt _ _
          simp [l, Nat.mod_eq_of_lt this]
        have hrun := run_convert_bytes_back w S D E ⟨b, d + off, none⟩ c' l hS hE hD hcell
        rw [hll] at hrun
        refine ⟨_, hrun, .str' _ (by simpa using hll) ?_⟩
        show packL l.toArray.toList = _
        simp only [List.toList_toArray]
        refine byteAt_ext (n := n) (by have := packL_lt l; rwa [hll] at this) (Nat.mod_lt _ (Nat.two_pow_pos _)) fun i hi => ?_
        rw [byteAt_packL _ _ (by omega)]
        have h0 := byteAt_sub N 0 n i hi
        simp only [Nat.mul_zero, Nat.shiftRight_zero, Nat.zero_add] at h0
        show _ = byteAt (N % 2 ^ (8 * n)) i
        rw [h0]
        have : byteAt N i < 256 := byteAt_lt _ _
        simp [l, Nat.mod_eq_of_lt this]
      | slice0 => simp at h1
end
end Go.Am
