import Derived.Test.YtfdbmpokhfjdoaaGreatDoorAmS1
import Derived.Laws.Cells
set_option linter.unusedVariables false
set_option linter.unusedSimpArgs false
/-! Soundness, 2: how the machine's values and heaps stand for the model's. -/
namespace Go.Am
open Go

/-- Where an address lies: block, and how far in. -/
abbrev Emb := Ad → Option (Nat × Nat)
/-- How many cells a block has. -/
def csz (h : Array Obj) (b : Nat) : Nat := match h[b]? with | some (.cells c _ _) => c.size | _ => 0
def AV.toL : AV → Option (List AV)
  | .nil => some []
  | .cons a l => l.toL.map (a :: ·)
  | _ => none

inductive VR (φ : Emb) (κ : Nat → Nat) : AV → Value → Prop
  | undef : VR φ κ .undef (.tuple #[])
  | bool (b : Bool) : VR φ κ (.bool b) (.bool b)
  | nat (k : IntKind) (n : Nat) : VR φ κ (.nat k n) (.int k (Int.ofNat n))
  | neg (k : IntKind) (n : Nat) : VR φ κ (.neg k n) (.int k (Int.negSucc n))
  | str (s : ByteArray) (n N : Nat) (hn : s.data.toList.length = n) (hN : packL s.data.toList = N) : VR φ κ (.str n N) (.string s)
  | any (x : Value) : VR φ κ .nil x
  | opq (x : Value) (h : x.oneCell' = true) : VR φ κ .opq x
  | pnil : VR φ κ .pnil (.pointer none)
  | ptr (β : Ad) (o b d : Nat) (h : φ β = some (b, d)) : VR φ κ (.ptr β o) (.pointer (some ⟨b, d + o, none⟩))
  | snil : VR φ κ .snil (.slice none 0 0)
  | slice (β : Ad) (off len : Nat) (ex : Bool) (c es b d c' : Nat) (h : φ β = some (b, d)) (hx : ex = true → c' = c) (hc : c ≤ c' ∧ c' ≤ 9223372036854775807) (hl : len ≤ c) (hr : d + off + c' * es ≤ κ b) :
      VR φ κ (.slice β off len ex c es) (.slice (some ⟨b, d + off, none⟩) len c')
  | slice0 (β : Ad) (off : Nat) (ex : Bool) (es b d q : Nat) (h : φ β = some (b, d)) : VR φ κ (.slice β off 0 ex 0 es) (.slice (some ⟨b, q, none⟩) 0 0)
  | mnil : VR φ κ .mnil (.map none)
  | map (β : Ad) (b : Nat) (h : φ β = some (b, 0)) : VR φ κ (.map β) (.map (some b))
  | fnil : VR φ κ .fnil .nilFunc
  | func (f : Nat) (a c : AV) (as cs : List AV) (xs ys : Array Value) (ha : a.toL = some as) (hc : c.toL = some cs) (hla : as.length = xs.size) (hlc : cs.length = ys.size)
      (h1 : ∀ i (h : i < as.length) (h' : i < xs.size), VR φ κ as[i] xs[i]) (h2 : ∀ i (h : i < cs.length) (h' : i < ys.size), VR φ κ cs[i] ys[i]) :
      VR φ κ (.func f (.cons a c)) (.func (.func f) xs ys)
  | yield (β : Ad) (b : Nat) (h : φ β = some (b, 0)) : VR φ κ (.yield β) (.func (.yield b) #[] #[])
  | inil : VR φ κ .inil .nilIface
  | iface (t : Nat) (v : AV) (x : Value) (h : VR φ κ v x) : VR φ κ (.iface t v) (.iface t x)
  | agg (n : Nat) (c : AV) (xs : Array Value) (hn : xs.size = n) (f : Nat → AV) (hf : ∀ i, i < n → c.rget i = some (f i)) (h : ∀ i (h : i < xs.size), VR φ κ (f i) xs[i])
      (h1 : ∀ i, i < xs.size → (f i).plain) : VR φ κ (.agg n c) (.agg xs)
  | tup (l : AV) (as : List AV) (xs : Array Value) (ha : l.toL = some as) (hl : as.length = xs.size) (h : ∀ i (h : i < as.length) (h' : i < xs.size), VR φ κ as[i] xs[i]) : VR φ κ (.tup l) (.tuple xs)

theorem VR.mono {φ φ' : Emb} {κ κ' : Nat → Nat} {v : AV} {x : Value} (h : VR φ κ v x) (hφ : ∀ β y, φ β = some y → φ' β = some y) (hκ : ∀ b, κ b ≤ κ' b) : VR φ' κ' v x := by
  induction h with
  | undef => exact .undef
  | bool b => exact .bool b
  | nat k n => exact .nat k n
  | neg k n => exact .neg k n
  | str s n N hn hN => exact .str s n N hn hN
  | any x => exact .any x
  | opq x h => exact .opq x h
  | pnil => exact .pnil
  | ptr β o b d h => exact .ptr β o b d (hφ _ _ h)
  | snil => exact .snil
  | slice β off len ex c es b d c' h hx hc hl hr => exact .slice β off len ex c es b d c' (hφ _ _ h) hx hc hl (Nat.le_trans hr (hκ _))
  | slice0 β off ex es b d q h => exact .slice0 β off ex es b d q (hφ _ _ h)
  | mnil => exact .mnil
  | map β b h => exact .map β b (hφ _ _ h)
  | fnil => exact .fnil
  | func f a c as cs xs ys ha hc hla hlc _ _ ih1 ih2 => exact .func f a c as cs xs ys ha hc hla hlc ih1 ih2
  | yield β b h => exact .yield β b (hφ _ _ h)
  | inil => exact .inil
  | iface t v x _ ih => exact .iface t v x ih
  | agg n c xs hn f hf _ h1 ih => exact .agg n c xs hn f hf ih h1
  | tup l as xs ha hl _ ih => exact .tup l as xs ha hl ih

/-- Rows of values. -/
def LR (φ : Emb) (κ : Nat → Nat) (l : AV) (xs : List Value) : Prop := ∃ as, l.toL = some as ∧ as.length = xs.length ∧ ∀ i (h : i < as.length) (h' : i < xs.length), VR φ κ as[i] xs[i]
theorem LR.mono {φ φ' : Emb} {κ κ' : Nat → Nat} {l : AV} {xs : List Value} (h : LR φ κ l xs) (hφ : ∀ β y, φ β = some y → φ' β = some y) (hκ : ∀ b, κ b ≤ κ' b) : LR φ' κ' l xs :=
  let ⟨as, h1, h2, h3⟩ := h; ⟨as, h1, h2, fun i a b => (h3 i a b).mono hφ hκ⟩
theorem LR.nil {φ : Emb} {κ : Nat → Nat} : LR φ κ .nil [] := ⟨[], rfl, rfl, fun _ h => absurd h (Nat.not_lt_zero _)⟩
theorem LR.cons {φ : Emb} {κ : Nat → Nat} {a l : AV} {x : Value} {xs : List Value} (h : VR φ κ a x) (hl : LR φ κ l xs) : LR φ κ (.cons a l) (x :: xs) := by
  obtain ⟨as, h1, h2, h3⟩ := hl
  refine ⟨a :: as, by simp [AV.toL, h1], by simp [h2], fun i hi hi' => ?_⟩
  cases i with
  | zero => exact h
  | succ i => exact h3 i (by simpa using hi) (by simpa using hi')
theorem LR.nil_inv {φ : Emb} {κ : Nat → Nat} {xs : List Value} (h : LR φ κ .nil xs) : xs = [] := by
  obtain ⟨as, h1, h2, _⟩ := h
  simp only [AV.toL, Option.some.injEq] at h1
  subst h1
  exact List.length_eq_zero_iff.1 h2.symm
theorem LR.cons_inv {φ : Emb} {κ : Nat → Nat} {a l : AV} {xs : List Value} (h : LR φ κ (.cons a l) xs) : ∃ y ys, xs = y :: ys ∧ VR φ κ a y ∧ LR φ κ l ys := by
  obtain ⟨as, h1, h2, h3⟩ := h
  simp only [AV.toL, Option.map_eq_some_iff] at h1
  obtain ⟨bs, hb, rfl⟩ := h1
  cases xs with
  | nil => simp at h2
  | cons y ys =>
    refine ⟨y, ys, rfl, h3 0 (by simp) (by simp), bs, hb, by simpa using h2, fun i hi hi' => ?_⟩
    exact h3 (i + 1) (by simp; omega) (by simp; omega)
theorem LR.tup {φ : Emb} {κ : Nat → Nat} {l : AV} {xs : Array Value} (h : LR φ κ l xs.toList) : VR φ κ (.tup l) (.tuple xs) := by
  obtain ⟨as, h1, h2, h3⟩ := h
  exact .tup l as xs h1 (by simpa using h2) fun i a b => by
    have := h3 i a (by simpa using b)
    rwa [Array.getElem_toList] at this
theorem VR.tup_inv {φ : Emb} {κ : Nat → Nat} {l : AV} {x : Value} (h : VR φ κ (.tup l) x) : ∃ xs : Array Value, x = .tuple xs ∧ LR φ κ l xs.toList := by
  cases h with
  | tup _ as xs ha hl h => exact ⟨xs, rfl, as, ha, by simpa using hl, fun i a b => by rw [Array.getElem_toList]; exact h i a (by simpa using b)⟩
theorem LR.app {φ : Emb} {κ : Nat → Nat} {a b : AV} {xs ys : List Value} {k : AV → Bool} (ha : LR φ κ a xs) (hb : LR φ κ b ys) (hk : AV.appK b a k = true) : ∃ c, k c = true ∧ LR φ κ c (xs ++ ys) := by
  induction a generalizing xs k with
  | nil => have := ha.nil_inv; subst this; exact ⟨b, hk, hb⟩
  | cons v l _ ih =>
    obtain ⟨y, zs, rfl, hv, hl⟩ := ha.cons_inv
    obtain ⟨c, hk, hc⟩ := ih hl hk
    exact ⟨_, hk, hc.cons hv⟩
  | _ => cases hk

/-- What stands in one cell is neither a struct nor a row. -/
theorem VR.one {φ : Emb} {κ : Nat → Nat} {v : AV} {x : Value} (h : VR φ κ v x) (hp : v.plain) : x.oneCell' = true := by
  cases h <;> first | rfl | assumption | exact absurd hp (by simp [AV.plain, AV.plainK])
end Go.Am
