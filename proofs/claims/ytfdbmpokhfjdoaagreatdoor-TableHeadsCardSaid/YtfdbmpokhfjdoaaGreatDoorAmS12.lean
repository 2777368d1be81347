import Derived.Test.YtfdbmpokhfjdoaaGreatDoorAmS11
import Derived.Laws.StructEq
set_option linter.unusedVariables false
set_option linter.unusedSimpArgs false
/-! Soundness, 12: likeness; what is built. -/
namespace Go.Am
open Go
/-- Equality of two values, by the model. -/
theorem binOp_eq {op : BinOp} {T : TypeId} {x y : Value} (ho : op = .eql ∨ op = .neq) (hx : (∀ k n, x ≠ .int k n) ∧ (∀ k n, x ≠ .float k n) ∧ (∀ k a b, x ≠ .complex k a b) ∧ ∀ s, x ≠ .string s) {P : Program} {w : World} {b : Bool} (h : (Op.equal T x y).run P w = .ok b w) :
    (binOp op T x y).run P w = .ok (.bool (Bool.xor (decide (op = .neq)) b)) w := by
  obtain ⟨h1, h2, h3, h4⟩ := hx
  rcases ho with rfl | rfl <;> cases x <;> first | exact absurd rfl (h1 _ _) | exact absurd rfl (h2 _ _) | exact absurd rfl (h3 _ _ _) | exact absurd rfl (h4 _) | simp [binOp, h]
section
variable {P : Program} {σ : Hp} {t : Regs} {ls : Ls} {k : AV → Bool}
theorem rBoolEq_s {T : TypeId} {ne : Bool} {op : BinOp} (ho : op = .eql ∨ op = .neq) (hne : ne = decide (op = .neq)) {x y : OpdF} (hT : P.underlying T = some .bool) (hk : rBoolEq ne x y t ls σ k = true) :
    ∃ v, k v = true ∧ ∀ {φ w xv yv}, VR φ (csz w.heap) (x t ls) xv → VR φ (csz w.heap) (y t ls) yv → (∃ a, xv = .bool a) ∧ RdS P φ w v (binOp op T xv yv) := by
  obtain ⟨a, hx, hk⟩ := AV.asBool_true hk
  obtain ⟨b, hy, hk⟩ := AV.asBool_true hk
  refine ⟨_, hk, fun {φ w xv yv} hxv hyv => ?_⟩
  rw [hx] at hxv; rw [hy] at hyv; cases hxv; cases hyv
  refine ⟨⟨_, rfl⟩, _, binOp_eq ho (by simp) (b := a == b) ?_, ?_⟩
  · show (Op.equalIn (9999 + 1) T _ _).run P w = _
    unfold Op.equalIn
    simp [underlying, hT]
  · rw [← hne]
    have : Bool.not (Bool.xor a b) = (a == b) := by cases a <;> cases b <;> rfl
    rw [this]; exact .bool _
theorem isNilP_true {v : AV} {k : Bool → Bool} (h : v.isNilP k = true) : ∃ b, k b = true ∧ ∀ {φ κ x}, VR φ κ v x → (b = true ∧ x = .pointer none) ∨ (b = false ∧ ∃ a, x = .pointer (some a)) := by
  cases v <;> simp only [AV.isNilP, Bool.false_eq_true] at h <;> refine ⟨_, h, fun {φ κ x} hx => ?_⟩ <;> cases hx <;> simp
/-- Not a number, nor a text. -/
def NoNum (x : Value) : Prop := (∀ k n, x ≠ .int k n) ∧ (∀ k n, x ≠ .float k n) ∧ (∀ k a b, x ≠ .complex k a b) ∧ ∀ s, x ≠ .string s
def nilVal : TypeDesc → Value | .slice _ => .slice none 0 0 | .map _ _ => .map none | .func _ _ _ => .nilFunc | _ => .nilIface
structure NilG (g : AV → (Bool → Bool) → Bool) (d : TypeDesc) : Prop where
  ok : ∀ {v : AV} {k : Bool → Bool}, g v k = true → ∃ b, k b = true ∧ ∀ {φ κ x}, VR φ κ v x → NoNum x ∧ NoNum (nilVal d) ∧ ∀ {P : Program} {w : World} {T : TypeId}, P.underlying T = some d → (Op.equal T x (nilVal d)).run P w = .ok b w ∧ (Op.equal T (nilVal d) x).run P w = .ok b w
theorem equal_eq (T : TypeId) (x y : Value) : Op.equal T x y = Op.equalIn (9999 + 1) T x y := rfl
theorem nilG_S (e : TypeId) : NilG AV.isNilS (.slice e) := ⟨fun {v k} h => by
  cases v <;> simp only [AV.isNilS, Bool.false_eq_true] at h <;> refine ⟨_, h, fun {φ κ x} hx => ?_⟩ <;> cases hx <;> refine ⟨by simp [NoNum], by simp [NoNum, nilVal], fun hT => ?_⟩ <;> rw [equal_eq, equal_eq] <;> unfold Op.equalIn <;> simp [nilVal, underlying, hT]⟩
theorem nilG_M (a b : TypeId) : NilG AV.isNilM (.map a b) := ⟨fun {v k} h => by
  cases v <;> simp only [AV.isNilM, Bool.false_eq_true] at h <;> refine ⟨_, h, fun {φ κ x} hx => ?_⟩ <;> cases hx <;> refine ⟨by simp [NoNum], by simp [NoNum, nilVal], fun hT => ?_⟩ <;> rw [equal_eq, equal_eq] <;> unfold Op.equalIn <;> simp [nilVal, underlying, hT]⟩
theorem nilG_F (a b : Array TypeId) (c : Bool) : NilG AV.isNilF (.func a b c) := ⟨fun {v k} h => by
  cases v <;> simp only [AV.isNilF, Bool.false_eq_true] at h <;> refine ⟨_, h, fun {φ κ x} hx => ?_⟩ <;> cases hx <;> refine ⟨by simp [NoNum], by simp [NoNum, nilVal], fun hT => ?_⟩ <;> rw [equal_eq, equal_eq] <;> unfold Op.equalIn <;> simp [nilVal, underlying, hT]⟩
theorem nilG_I (ms : Array (String × TypeId)) : NilG AV.isNilI (.interface ms) := ⟨fun {v k} h => by
  cases v <;> simp only [AV.isNilI, Bool.false_eq_true] at h <;> refine ⟨_, h, fun {φ κ x} hx => ?_⟩ <;> cases hx <;> refine ⟨by simp [NoNum], by simp [NoNum, nilVal], fun hT => ?_⟩ <;> rw [equal_eq, equal_eq] <;> unfold Op.equalIn <;> simp [nilVal, underlying, hT]⟩
theorem rNilEq_s {g : AV → (Bool → Bool) → Bool} {d : TypeDesc} (hg : NilG g d) {T : TypeId} {ne : Bool} {op : BinOp} (ho : op = .eql ∨ op = .neq) (hne : ne = decide (op = .neq)) {x : OpdF} (hT : P.underlying T = some d) (hk : rNilEq g ne x t ls σ k = true) :
    ∃ v, k v = true ∧ ∀ {φ w xv}, VR φ (csz w.heap) (x t ls) xv → RdS P φ w v (binOp op T xv (nilVal d)) ∧ RdS P φ w v (binOp op T (nilVal d) xv) := by
  obtain ⟨b, hk, hb⟩ := hg.ok hk
  refine ⟨_, hk, fun {φ w xv} hxv => ?_⟩
  obtain ⟨n1, n2, h⟩ := hb hxv
  obtain ⟨h1, h2⟩ := h (w := w) hT
  subst hne
  exact ⟨⟨_, binOp_eq ho n1 h1, .bool _⟩, ⟨_, binOp_eq ho n2 h2, .bool _⟩⟩
theorem ptrEqK_true {x y : AV} {k : Bool → Bool} (h : ptrEqK σ x y k = true) : ∃ b, k b = true ∧ ∀ {T E : TypeId} {n : Nat}, P.underlying T = some (.pointer E) → szOf P E = some (n + 1) →
    ∀ {B φ w xv yv}, Rel P B φ σ w.heap → VR φ (csz w.heap) x xv → VR φ (csz w.heap) y yv → (∃ a, xv = .pointer a) ∧ (Op.equal T xv yv).run P w = .ok b w := by
  have e1 : ∀ T x y, Op.equal T x y = Op.equalIn (9999 + 1) T x y := fun _ _ _ => rfl
  unfold ptrEqK at h
  replace h := isNilP_true h
  obtain ⟨nx, h, hx⟩ := h
  replace h := isNilP_true h
  obtain ⟨ny, h, hy⟩ := h
  rw [sel_true_iff] at h
  rcases h with ⟨rfl, h⟩ | ⟨rfl, h⟩
  · rw [boolK_eq] at h
    refine ⟨ny, h, fun {T E n} hT hE {B φ w xv yv} r hxv hyv => ?_⟩
    have ha : xv = .pointer none := by
      rcases hx hxv with ⟨_, h⟩ | ⟨h, _⟩
      · exact h
      · cases h
    subst ha
    refine ⟨⟨_, rfl⟩, ?_⟩
    rw [e1]
    rcases hy hyv with ⟨e2, h'⟩ | ⟨e2, h'⟩ <;> rw [e2]
    · subst h'; unfold Op.equalIn; simp [underlying, hT]
    · obtain ⟨q, rfl⟩ := h'; unfold Op.equalIn; simp [underlying, hT]
  · rw [sel_true_iff] at h
    rcases h with ⟨rfl, h⟩ | ⟨rfl, h⟩
    · refine ⟨false, h, fun {T E n} hT hE {B φ w xv yv} r hxv hyv => ?_⟩
      rcases hx hxv with ⟨h, _⟩ | ⟨_, h⟩
      · cases h
      rcases hy hyv with ⟨_, h'⟩ | ⟨h', _⟩
      · obtain ⟨q, rfl⟩ := h; subst h'
        refine ⟨⟨_, rfl⟩, ?_⟩
        rw [e1]; unfold Op.equalIn; simp [underlying, hT]
      · cases h'
    · replace h := AV.asPtr_true h
      obtain ⟨β, o, rfl, h⟩ := h
      replace h := AV.asPtr_true h
      obtain ⟨γ, q, rfl, h⟩ := h
      rw [Ad.beqK_eq] at h
      by_cases hβγ : β = γ
      · subst hβγ
        rw [if_pos rfl, boolK_eq] at h
        refine ⟨_, h, fun {T E n} hT hE {B φ w xv yv} r hxv hyv => ?_⟩
        cases hxv with
        | ptr _ _ b d hβ =>
          cases hyv with
          | ptr _ _ b' d' hβ' =>
            rw [hβ] at hβ'; cases hβ'
            refine ⟨⟨_, rfl⟩, ?_⟩
            rw [e1]; unfold Op.equalIn
            have : (Nat.beq o q) = decide ((⟨b, d + o, none⟩ : Addr) = ⟨b, d + q, none⟩) := by rw [Bool.eq_iff_iff]; simp
            rw [this]
            simp [underlying, hT, szOf_run hE, sameAddr]
            rw [Bool.eq_iff_iff]; simp
      · rw [if_neg hβγ] at h
        replace h := Hp.cellsK_true h
        obtain ⟨n1, c1, st1, pl1, sh1, ol1, hg1, h⟩ := h
        replace h := sel_yes h
        obtain ⟨h1, h⟩ := h
        replace h := sel_yes h
        obtain ⟨rfl, h⟩ := h
        replace h := Hp.cellsK_true h
        obtain ⟨n2, c2, st2, pl2, sh2, ol2, hg2, h⟩ := h
        replace h := sel_yes h
        obtain ⟨h2, h⟩ := h
        replace h := sel_yes h
        obtain ⟨rfl, h⟩ := h
        have es1 : st1 = 0 := Nat.eq_of_beq_eq_true h1
        have es2 : st2 = 0 := Nat.eq_of_beq_eq_true h2
        refine ⟨_, h, fun {T E n} hT hE {B φ w xv yv} r hxv hyv => ?_⟩
        subst es1 es2
        cases hxv with
        | ptr _ _ b d hβ =>
          cases hyv with
          | ptr _ _ b' d' hβ' =>
            refine ⟨⟨_, rfl⟩, ?_⟩
            have hne : b ≠ b' := by
              rintro rfl
              rcases r.inj _ _ _ _ _ _ _ hβ hβ' hβγ hg1 hg2 with h | h | h | h
              · exact h
              · exact h
              · exact r.live_olds hβ' hg2 (fun h => h) (by simp [Blk.stale]) hβ hg1 h
              · exact r.live_olds hβ hg1 (fun h => h) (by simp [Blk.stale]) hβ' hg2 h
            obtain ⟨cs1, e1', fz1, hw1, _, hf1, _⟩ := r.cells hβ hg1
            obtain ⟨cs2, e2', fz2, hw2, _, hf2, _⟩ := r.cells hβ' hg2
            have f1 := hf1.1 rfl
            have f2 := hf2.1 rfl
            subst f1 f2
            rw [e1]; unfold Op.equalIn
            simp [underlying, hT, szOf_run hE, sameAddr, hne, World.frozen?, hw1, hw2, noView, viewAt, World.shape?, mayBeOne, stringish]
theorem rPtrEq_s {T E : TypeId} {n : Nat} {ne : Bool} {op : BinOp} (ho : op = .eql ∨ op = .neq) (hne : ne = decide (op = .neq)) {x y : OpdF} (hT : P.underlying T = some (.pointer E)) (hE : szOf P E = some (n + 1)) (hk : rPtrEq ne x y t ls σ k = true) :
    ∃ v, k v = true ∧ ∀ {B φ w xv yv}, Rel P B φ σ w.heap → VR φ (csz w.heap) (x t ls) xv → VR φ (csz w.heap) (y t ls) yv → (∃ a, xv = .pointer a) ∧ RdS P φ w v (binOp op T xv yv) := by
  obtain ⟨b, hk, hb⟩ := ptrEqK_true (P := P) hk
  refine ⟨_, hk, fun {B φ w xv yv} r hxv hyv => ?_⟩
  obtain ⟨⟨a, rfl⟩, this⟩ := hb hT hE r hxv hyv
  subst hne
  exact ⟨⟨_, rfl⟩, _, binOp_eq ho (by simp) this, .bool _⟩
theorem asInt_true' {v : AV} {k : IntKind → Int → Bool} (h : v.asInt k = true) : ∃ q n, k q n = true ∧ ∀ {φ κ x}, VR φ κ v x → x = .int q n := by
  rcases AV.asInt_true h with ⟨q, n, rfl, h⟩ | ⟨q, n, rfl, h⟩ <;> exact ⟨q, _, h, fun hx => by cases hx; rfl⟩
theorem rMax_s {x y : OpdF} {ts : Array TypeId} {ty : TypeId} (hk : rMax x y t ls σ k = true) :
    ∃ v, k v = true ∧ ∀ {φ w xv yv}, VR φ (csz w.heap) (x t ls) xv → VR φ (csz w.heap) (y t ls) yv → RdS P φ w v (Builtin.max_ ts ty #[xv, yv]) := by
  have key : ∀ (p : IntKind) (a b : Int) (P : Program) (w : World), (Builtin.max_ ts ty #[.int p a, .int p b]).run P w = .ok (.int p (if b > a then b else a)) w := fun p a b P w => by simp [Builtin.max_, Builtin.max2]
  obtain ⟨p, a, hk1, hx⟩ := asInt_true' hk
  obtain ⟨q, b, hk2, hy⟩ := asInt_true' hk1
  obtain ⟨h1, hk3⟩ := sel_yes hk2
  rw [kEq_eq, decide_eq_true_iff] at h1
  rw [sel_true_iff, ltI_eq] at hk3
  rcases hk3 with ⟨h2, hk4⟩ | ⟨h2, hk4⟩
  · refine ⟨_, hk4, fun {φ w xv yv} hxv hyv => ?_⟩
    have e1 := hx hxv
    have e2 := hy hyv
    subst e1 e2 h1
    exact ⟨_, by rw [key, if_pos (of_decide_eq_true h2)], hyv⟩
  · refine ⟨_, hk4, fun {φ w xv yv} hxv hyv => ?_⟩
    have e1 := hx hxv
    have e2 := hy hyv
    subst e1 e2 h1
    exact ⟨_, by rw [key, if_neg (of_decide_eq_false h2)], hxv⟩
theorem cellEqK_true {cl : Bool} {u v : AV} {k : Bool → Bool} (h : cellEqK cl u v k = true) : ∃ b, k b = true ∧ ∀ {φ κ} {x y : Value}, VR φ κ u x → VR φ κ v y → ∀ {P : Program} {w : World} {T : TypeId} {d : Nat},
    (cl = true → P.underlying T = some .bool) → (cl = false → ∃ q, P.underlying T = some (.int q)) → (Op.equalIn (d + 1) T x y).run P w = .ok b w := by
  unfold cellEqK at h
  rw [sel_true_iff] at h
  rcases h with ⟨rfl, h⟩ | ⟨rfl, h⟩
  · obtain ⟨a, rfl, h1⟩ := AV.asBool_true h
    obtain ⟨b, rfl, h2⟩ := AV.asBool_true h1
    refine ⟨_, h2, fun {φ κ x y} hx hy {P w T d} ht _ => ?_⟩
    cases hx; cases hy
    have hT := ht rfl
    have : Bool.not (Bool.xor a b) = (a == b) := by cases a <;> cases b <;> rfl
    rw [this]
    unfold Op.equalIn
    simp [underlying, hT]
  · have fin : ∀ (q q' : IntKind) (m n : Int), sel (kEq q q') (k (eqI m n)) false = true → k (m == n) = true ∧ q = q' := fun q q' m n h => by
      obtain ⟨h1, h2⟩ := sel_yes h
      rw [eqI_eq] at h2
      rw [kEq_eq, decide_eq_true_iff] at h1
      exact ⟨h2, h1⟩
    have run : ∀ {P : Program} {w : World} {T : TypeId} {d : Nat} (q : IntKind) (m n : Int), (∃ q, P.underlying T = some (.int q)) → (Op.equalIn (d + 1) T (.int q m) (.int q n)).run P w = .ok (m == n) w := fun {P w T d} q m n hT => by
      obtain ⟨q1, hT⟩ := hT
      unfold Op.equalIn
      simp [underlying, hT]
    rcases AV.asInt_true h with ⟨q, n, rfl, h1⟩ | ⟨q, n, rfl, h1⟩ <;> rcases AV.asInt_true h1 with ⟨q', m, rfl, h2⟩ | ⟨q', m, rfl, h2⟩ <;> obtain ⟨h3, rfl⟩ := fin _ _ _ _ h2 <;>
      exact ⟨_, h3, fun {φ κ x y} hx hy {P w T d} _ hT => by cases hx; cases hy; exact run _ _ _ (hT rfl)⟩
theorem rowEqK_true {P : Program} {d : Nat} : ∀ (fs : List Field) (i : Nat) (cls : List Bool), flatW P fs i = some cls → ∀ {r s : AV} {k : Bool → Bool}, rowEqK cls i r s k = true → ∃ b, k b = true ∧
    ∀ {φ κ} {w : World} {n1 n2 : Nat} {xs ys : Array Value}, VR φ κ (.agg n1 r) (.agg xs) → VR φ κ (.agg n2 s) (.agg ys) → i + fs.length ≤ n1 → i + fs.length ≤ n2 → (Op.eqFields (d + 1) xs ys fs).run P w = .ok b w
  | [], i, cls, hf, r, s, k, hk => by
    cases hf
    exact ⟨true, hk, fun _ _ _ _ => rfl⟩
  | f :: fs, i, cls, hf, r, s, k, hk => by
    unfold flatW at hf
    split at hf
    case isFalse => cases hf
    rename_i hfi
    have main : ∀ (cl : Bool) (l : List Bool), cls = cl :: l → flatW P fs (i + 1) = some l → (cl = true → P.underlying f.type = some .bool) → (cl = false → ∃ q, P.underlying f.type = some (.int q)) → ∃ b, k b = true ∧
        ∀ {φ κ} {w : World} {n1 n2 : Nat} {xs ys : Array Value}, VR φ κ (.agg n1 r) (.agg xs) → VR φ κ (.agg n2 s) (.agg ys) → i + (f :: fs).length ≤ n1 → i + (f :: fs).length ≤ n2 → (Op.eqFields (d + 1) xs ys (f :: fs)).run P w = .ok b w := fun cl l hc hl ht1 ht2 => by
      subst hc
      have hk' : AV.rgetK (fun u => AV.rgetK (fun v => cellEqK cl u v fun b => sel b (rowEqK l (Nat.succ i) r s k) (k false)) s i) r i = true := hk
      obtain ⟨u, hu, hk1⟩ := AV.rgetK_true hk'
      obtain ⟨v, hv, hk2⟩ := AV.rgetK_true hk1
      obtain ⟨b, hk3, hb⟩ := cellEqK_true hk2
      have agg : ¬ ∃ d, P.underlying f.type = some d ∧ (d matches .struct _ | .array _ _) := fun ⟨d, h1, h2⟩ => by
        cases cl with
        | true => rw [ht1 rfl] at h1; cases h1; cases h2
        | false => obtain ⟨q, hq⟩ := ht2 rfl; rw [hq] at h1; cases h1; cases h2
      have part1 : ∀ {w : World} (zs : Array Value) (z : Value), zs[i]? = some z → (part f.type zs f.offset).run P w = .ok z w := fun {w} zs z hz => by
        rw [hfi.2]
        cases cl with
        | true => simp [part, isAgg, underlying, ht1 rfl, hz]
        | false => obtain ⟨q, hq⟩ := ht2 rfl; simp [part, isAgg, underlying, hq, hz]
      have cell : ∀ {φ κ} {n : Nat} {c : AV} {zs : Array Value} {a : AV}, VR φ κ (.agg n c) (.agg zs) → i < n → c.rget i = some a → ∃ z, zs[i]? = some z ∧ VR φ κ a z := fun {φ κ n c zs a} h hi hg => by
        cases h with
        | agg _ _ _ hn g hg2 h2 h1 =>
          have := hg2 i hi
          rw [hg] at this
          cases this
          exact ⟨_, Array.getElem?_eq_getElem (by omega), h2 i (by omega)⟩
      have step : ∀ {φ κ} {w : World} {n1 n2 : Nat} {xs ys : Array Value}, VR φ κ (.agg n1 r) (.agg xs) → VR φ κ (.agg n2 s) (.agg ys) → i < n1 → i < n2 → (Op.eqFields (d + 1) xs ys (f :: fs)).run P w = if b = true then (Op.eqFields (d + 1) xs ys fs).run P w else .ok false w := fun {φ κ w n1 n2 xs ys} h1 h2 q1 q2 => by
        obtain ⟨x, e1, e2⟩ := cell h1 q1 hu
        obtain ⟨y, e3, e4⟩ := cell h2 q2 hv
        have h3 := hb e2 e4 (P := P) (w := w) (T := f.type) (d := d) ht1 ht2
        simp only [Op.eqFields, hfi.1, if_true, ne_eq, not_false_eq_true, Sem.run_bind, part1 xs x e1, part1 ys y e3, Result.andThen_ok, h3]
        cases b <;> simp
      rw [sel_true_iff] at hk3
      rcases hk3 with ⟨rfl, hk4⟩ | ⟨rfl, hk4⟩
      · obtain ⟨b2, hk5, h5⟩ := rowEqK_true fs (i + 1) l hl hk4
        refine ⟨b2, hk5, fun {φ κ w n1 n2 xs ys} h1 h2 q1 q2 => ?_⟩
        simp only [List.length_cons] at q1 q2
        rw [step h1 h2 (by omega) (by omega), if_pos rfl]
        exact h5 h1 h2 (by omega) (by omega)
      · refine ⟨false, hk4, fun {φ κ w n1 n2 xs ys} h1 h2 q1 q2 => ?_⟩
        simp only [List.length_cons] at q1 q2
        rw [step h1 h2 (by omega) (by omega), if_neg (by decide)]
    split at hf
    · rename_i q l hq hl
      cases hf
      exact main false l rfl hl (fun h => by cases h) (fun _ => ⟨q, hq⟩)
    · rename_i l hq hl
      cases hf
      exact main true l rfl hl (fun _ => hq) (fun h => by cases h)
    · cases hf
theorem flatW_length {P : Program} : ∀ (fs : List Field) (i : Nat) (cls : List Bool), flatW P fs i = some cls → cls.length = fs.length
  | [], i, cls, h => by cases h; rfl
  | f :: fs, i, cls, h => by
    unfold flatW at h
    split at h
    case isFalse => cases h
    split at h
    · rename_i q l hq hl; cases h; simp [flatW_length fs (i + 1) l hl]
    · rename_i l hq hl; cases h; simp [flatW_length fs (i + 1) l hl]
    · cases h
theorem rAggEq_s {T : TypeId} {fs : Array Field} {cls : List Bool} {ne : Bool} {op : BinOp} (ho : op = .eql ∨ op = .neq) (hne : ne = decide (op = .neq)) {x y : OpdF} (hT : P.underlying T = some (.struct fs)) (hst : P.stoodInHeld T = false) (hf : flatW P fs.toList 0 = some cls) (hk : rAggEq ne fs.size cls x y t ls σ k = true) :
    ∃ v, k v = true ∧ ∀ {φ w xv yv}, VR φ (csz w.heap) (x t ls) xv → VR φ (csz w.heap) (y t ls) yv → (∃ xs ys, xv = .agg xs ∧ yv = .agg ys) ∧ RdS P φ w v (binOp op T xv yv) := by
  obtain ⟨n1, r, hx, hk1⟩ := AV.asAgg_true hk
  obtain ⟨n2, s, hy, hk2⟩ := AV.asAgg_true hk1
  obtain ⟨p1, hk3⟩ := sel_yes hk2
  obtain ⟨p2, hk4⟩ := sel_yes hk3
  obtain ⟨b, hk5, hb⟩ := rowEqK_true (P := P) (d := 9998) fs.toList 0 cls hf hk4
  refine ⟨_, hk5, fun {φ w xv yv} hxv hyv => ?_⟩
  rw [hx] at hxv; rw [hy] at hyv
  obtain ⟨xs, rfl, _, _⟩ := hxv.agg_inv
  obtain ⟨ys, rfl, _, _⟩ := hyv.agg_inv
  have hn1 : fs.size = n1 := Nat.eq_of_beq_eq_true p1
  have hn2 : fs.size = n2 := Nat.eq_of_beq_eq_true p2
  have hrun := hb (w := w) hxv hyv (by rw [Array.length_toList]; omega) (by rw [Array.length_toList]; omega)
  have hfo : P.fieldsOf T = fs := by unfold Program.fieldsOf; rw [hT]
  refine ⟨⟨xs, ys, rfl, rfl⟩, _, binOp_eq ho (by simp) (b := b) ?_, ?_⟩
  · show (Op.equalIn (9999 + 1) T _ _).run P w = _
    rw [run_equalIn_struct w 9999 T xs ys (by rw [hfo]; exact hT) hst, hfo]
    exact hrun
  · rw [← hne]; exact .bool _
end
end Go.Am
