import GoSem.Dispatch
set_option linter.unusedVariables false
set_option linter.unusedSimpArgs false
/-! The abstract machine, 1: numbers in binary, tries, values, blocks, heaps. Program independent. Printed by gen1.py. -/
namespace Go.Am
open Go

/-- Eight things. -/
structure R8 (α : Type) where
  a0 : α
  a1 : α
  a2 : α
  a3 : α
  a4 : α
  a5 : α
  a6 : α
  a7 : α
def R8.all {α : Type} (x : α) : R8 α := ⟨x, x, x, x, x, x, x, x⟩
/-- A digit of eight. -/
inductive D8 | x0 | x1 | x2 | x3 | x4 | x5 | x6 | x7
  deriving DecidableEq
def D8.of : Nat → D8
  | 0 => .x0
  | 1 => .x1
  | 2 => .x2
  | 3 => .x3
  | 4 => .x4
  | 5 => .x5
  | 6 => .x6
  | _ => .x7
def D8.toNat : D8 → Nat
  | .x0 => 0
  | .x1 => 1
  | .x2 => 2
  | .x3 => 3
  | .x4 => 4
  | .x5 => 5
  | .x6 => 6
  | .x7 => 7
/-- One of eight. -/
noncomputable def R8.at {α : Type} (t : R8 α) (d : D8) : α := D8.rec (motive := fun _ => α) t.a0 t.a1 t.a2 t.a3 t.a4 t.a5 t.a6 t.a7 d
/-- One of eight is turned. -/
noncomputable def R8.turn {α : Type} : D8 → (α → (α → Bool) → Bool) → R8 α → (R8 α → Bool) → Bool :=
  D8.rec (motive := fun _ => (α → (α → Bool) → Bool) → R8 α → (R8 α → Bool) → Bool)
    (fun f t k => R8.rec (motive := fun _ => Bool) (fun a0 a1 a2 a3 a4 a5 a6 a7 => f a0 fun x => k ⟨x, a1, a2, a3, a4, a5, a6, a7⟩) t)
    (fun f t k => R8.rec (motive := fun _ => Bool) (fun a0 a1 a2 a3 a4 a5 a6 a7 => f a1 fun x => k ⟨a0, x, a2, a3, a4, a5, a6, a7⟩) t)
    (fun f t k => R8.rec (motive := fun _ => Bool) (fun a0 a1 a2 a3 a4 a5 a6 a7 => f a2 fun x => k ⟨a0, a1, x, a3, a4, a5, a6, a7⟩) t)
    (fun f t k => R8.rec (motive := fun _ => Bool) (fun a0 a1 a2 a3 a4 a5 a6 a7 => f a3 fun x => k ⟨a0, a1, a2, x, a4, a5, a6, a7⟩) t)
    (fun f t k => R8.rec (motive := fun _ => Bool) (fun a0 a1 a2 a3 a4 a5 a6 a7 => f a4 fun x => k ⟨a0, a1, a2, a3, x, a5, a6, a7⟩) t)
    (fun f t k => R8.rec (motive := fun _ => Bool) (fun a0 a1 a2 a3 a4 a5 a6 a7 => f a5 fun x => k ⟨a0, a1, a2, a3, a4, x, a6, a7⟩) t)
    (fun f t k => R8.rec (motive := fun _ => Bool) (fun a0 a1 a2 a3 a4 a5 a6 a7 => f a6 fun x => k ⟨a0, a1, a2, a3, a4, a5, x, a7⟩) t)
    (fun f t k => R8.rec (motive := fun _ => Bool) (fun a0 a1 a2 a3 a4 a5 a6 a7 => f a7 fun x => k ⟨a0, a1, a2, a3, a4, a5, a6, x⟩) t)
def R8.set {α : Type} (t : R8 α) (d : D8) (x : α) : R8 α :=
  match d with
  | .x0 => { t with a0 := x }
  | .x1 => { t with a1 := x }
  | .x2 => { t with a2 := x }
  | .x3 => { t with a3 := x }
  | .x4 => { t with a4 := x }
  | .x5 => { t with a5 := x }
  | .x6 => { t with a6 := x }
  | .x7 => { t with a7 := x }
/-- How one of eight is had, and turned, of a known digit. -/
inductive SelW (α : Type) | mk (get : R8 α → α) (turn : (α → (α → Bool) → Bool) → R8 α → (R8 α → Bool) → Bool)
noncomputable def SelW.of {α : Type} : D8 → SelW α
  | .x0 => .mk (fun t => t.a0) (fun f t k => R8.rec (motive := fun _ => Bool) (fun a0 a1 a2 a3 a4 a5 a6 a7 => f a0 fun x => k ⟨x, a1, a2, a3, a4, a5, a6, a7⟩) t)
  | .x1 => .mk (fun t => t.a1) (fun f t k => R8.rec (motive := fun _ => Bool) (fun a0 a1 a2 a3 a4 a5 a6 a7 => f a1 fun x => k ⟨a0, x, a2, a3, a4, a5, a6, a7⟩) t)
  | .x2 => .mk (fun t => t.a2) (fun f t k => R8.rec (motive := fun _ => Bool) (fun a0 a1 a2 a3 a4 a5 a6 a7 => f a2 fun x => k ⟨a0, a1, x, a3, a4, a5, a6, a7⟩) t)
  | .x3 => .mk (fun t => t.a3) (fun f t k => R8.rec (motive := fun _ => Bool) (fun a0 a1 a2 a3 a4 a5 a6 a7 => f a3 fun x => k ⟨a0, a1, a2, x, a4, a5, a6, a7⟩) t)
  | .x4 => .mk (fun t => t.a4) (fun f t k => R8.rec (motive := fun _ => Bool) (fun a0 a1 a2 a3 a4 a5 a6 a7 => f a4 fun x => k ⟨a0, a1, a2, a3, x, a5, a6, a7⟩) t)
  | .x5 => .mk (fun t => t.a5) (fun f t k => R8.rec (motive := fun _ => Bool) (fun a0 a1 a2 a3 a4 a5 a6 a7 => f a5 fun x => k ⟨a0, a1, a2, a3, a4, x, a6, a7⟩) t)
  | .x6 => .mk (fun t => t.a6) (fun f t k => R8.rec (motive := fun _ => Bool) (fun a0 a1 a2 a3 a4 a5 a6 a7 => f a6 fun x => k ⟨a0, a1, a2, a3, a4, a5, x, a7⟩) t)
  | .x7 => .mk (fun t => t.a7) (fun f t k => R8.rec (motive := fun _ => Bool) (fun a0 a1 a2 a3 a4 a5 a6 a7 => f a7 fun x => k ⟨a0, a1, a2, a3, a4, a5, a6, x⟩) t)

/-- Addresses: five digits, the least first. -/
structure Ad where
  d0 : D8
  d1 : D8
  d2 : D8
  d3 : D8
  d4 : D8
  deriving DecidableEq
def Ad.toNat (p : Ad) : Nat := p.d0.toNat + 8 * (p.d1.toNat + 8 * (p.d2.toNat + 8 * (p.d3.toNat + 8 * p.d4.toNat)))
/-- A digit, and one more: the next one, or a carry. -/
noncomputable def D8.incK : D8 → (D8 → Bool) → Bool → Bool :=
  D8.rec (motive := fun _ => (D8 → Bool) → Bool → Bool) (fun k _ => k .x1) (fun k _ => k .x2) (fun k _ => k .x3) (fun k _ => k .x4) (fun k _ => k .x5) (fun k _ => k .x6) (fun k _ => k .x7) (fun _ c => c)
noncomputable def Ad.succK (p : Ad) (k : Ad → Bool) : Bool :=
  Ad.rec (motive := fun _ => Bool) (fun d0 d1 d2 d3 d4 =>
    D8.incK d0 (fun d0 => k ⟨d0, d1, d2, d3, d4⟩) (D8.incK d1 (fun d1 => k ⟨.x0, d1, d2, d3, d4⟩) (D8.incK d2 (fun d2 => k ⟨.x0, .x0, d2, d3, d4⟩)
      (D8.incK d3 (fun d3 => k ⟨.x0, .x0, .x0, d3, d4⟩) (D8.incK d4 (fun d4 => k ⟨.x0, .x0, .x0, .x0, d4⟩) false))))) p
noncomputable def D8.beq : D8 → D8 → Bool :=
  D8.rec (motive := fun _ => D8 → Bool) (D8.rec (motive := fun _ => Bool) true false false false false false false false) (D8.rec (motive := fun _ => Bool) false true false false false false false false) (D8.rec (motive := fun _ => Bool) false false true false false false false false) (D8.rec (motive := fun _ => Bool) false false false true false false false false) (D8.rec (motive := fun _ => Bool) false false false false true false false false) (D8.rec (motive := fun _ => Bool) false false false false false true false false) (D8.rec (motive := fun _ => Bool) false false false false false false true false) (D8.rec (motive := fun _ => Bool) false false false false false false false true)
noncomputable def Ad.beqK (p q : Ad) (yes no : Bool) : Bool :=
  Ad.rec (motive := fun _ => Bool) (fun a0 a1 a2 a3 a4 => Ad.rec (motive := fun _ => Bool) (fun b0 b1 b2 b3 b4 =>
    Bool.rec (motive := fun _ => Bool) no (Bool.rec (motive := fun _ => Bool) no (Bool.rec (motive := fun _ => Bool) no (Bool.rec (motive := fun _ => Bool) no
      (Bool.rec (motive := fun _ => Bool) no yes (D8.beq a4 b4)) (D8.beq a3 b3)) (D8.beq a2 b2)) (D8.beq a1 b1)) (D8.beq a0 b0)) q) p
/-- Things by addresses. -/
abbrev PT (α : Type) := R8 (R8 (R8 (R8 (R8 (Option α)))))
def PT.e {α : Type} : PT α := .all (.all (.all (.all (.all none))))
noncomputable def PT.get {α : Type} (p : Ad) (t : PT α) : Option α := ((((t.at p.d4).at p.d3).at p.d2).at p.d1).at p.d0
noncomputable def PT.setK {α : Type} (p : Ad) (t : PT α) (a : α) (k : PT α → Bool) : Bool :=
  Ad.rec (motive := fun _ => Bool) (fun d0 d1 d2 d3 d4 => R8.turn d4 (R8.turn d3 (R8.turn d2 (R8.turn d1 (R8.turn d0 (fun _ k => k (some a)))))) t k) p

/-- If, in the kernel's own words. -/
noncomputable def sel (c a b : Bool) : Bool := Bool.rec (motive := fun _ => Bool) b a c
/-- A natural number, reckoned first. -/
noncomputable def forceN (n : Nat) (k : Nat → Bool) : Bool := Nat.rec (motive := fun _ => Bool) (k 0) (fun m _ => k (Nat.succ m)) n
noncomputable def boolK (b : Bool) (k : Bool → Bool) : Bool := Bool.rec (motive := fun _ => Bool) (k false) (k true) b
/-- Values. 'func' bears its function's number and, as a cons of two rows, what is bound ahead of and behind its arguments; 'rb', 'rn', 'r0', 'r1' are ropes of cells (rb: bytes, packed); 'opq' is whatever fits one cell. -/
inductive AV
  | undef
  | bool (b : Bool)
  | nat (q : IntKind) (n : Nat)
  | neg (q : IntKind) (n : Nat)
  | str (n : Nat) (N : Nat)
  | opq
  | pnil
  | ptr (β : Ad) (off : Nat)
  | snil
  | slice (β : Ad) (off : Nat) (len : Nat) (ex : Bool) (c : Nat) (es : Nat)
  | mnil
  | map (β : Ad)
  | fnil
  | func (f : Nat) (cap : AV)
  | yield (β : Ad)
  | inil
  | iface (t : Nat) (v : AV)
  | agg (n : Nat) (c : AV)
  | tup (l : AV)
  | nil
  | cons (a : AV) (l : AV)
  | r0
  | r1 (v : AV)
  | rb (n : Nat) (N : Nat)
  | rn (h : Nat) (l : AV) (r : AV)
/-- A number. -/
noncomputable def AV.asInt : AV → (IntKind → Int → Bool) → Bool :=
  AV.rec (motive := fun _ => (IntKind → Int → Bool) → Bool) (fun _ => false) (fun _ => fun _ => false)
    (fun q n k => k q (Int.ofNat n))
    (fun q n k => k q (Int.negSucc n)) (fun _ _ => fun _ => false) (fun _ => false) (fun _ => false) (fun _ _ => fun _ => false) (fun _ => false) (fun _ _ _ _ _ _ => fun _ => false) (fun _ => false) (fun _ => fun _ => false) (fun _ => false) (fun _ _ _ => fun _ => false) (fun _ => fun _ => false) (fun _ => false) (fun _ _ _ => fun _ => false) (fun _ _ _ => fun _ => false) (fun _ _ => fun _ => false) (fun _ => false) (fun _ _ _ _ => fun _ => false) (fun _ => false) (fun _ _ => fun _ => false) (fun _ _ => fun _ => false) (fun _ _ _ _ _ => fun _ => false)
/-- A number that has no sign. -/
noncomputable def AV.asNat : AV → (Nat → Bool) → Bool :=
  AV.rec (motive := fun _ => (Nat → Bool) → Bool) (fun _ => false) (fun _ => fun _ => false)
    (fun _ n k => k n) (fun _ _ => fun _ => false) (fun _ _ => fun _ => false) (fun _ => false) (fun _ => false) (fun _ _ => fun _ => false) (fun _ => false) (fun _ _ _ _ _ _ => fun _ => false) (fun _ => false) (fun _ => fun _ => false) (fun _ => false) (fun _ _ _ => fun _ => false) (fun _ => fun _ => false) (fun _ => false) (fun _ _ _ => fun _ => false) (fun _ _ _ => fun _ => false) (fun _ _ => fun _ => false) (fun _ => false) (fun _ _ _ _ => fun _ => false) (fun _ => false) (fun _ _ => fun _ => false) (fun _ _ => fun _ => false) (fun _ _ _ _ _ => fun _ => false)
/-- A number of this kind: no sign, or one. -/
noncomputable def AV.of_i8 : AV → (Nat → Bool) → (Nat → Bool) → Bool :=
  AV.rec (motive := fun _ => (Nat → Bool) → (Nat → Bool) → Bool) (fun _ _ => false) (fun _ => fun _ _ => false)
    (fun q n k _ => IntKind.rec (motive := fun _ => Bool) (k n) false false false false false false false q)
    (fun q n _ k => IntKind.rec (motive := fun _ => Bool) (k n) false false false false false false false q) (fun _ _ => fun _ _ => false) (fun _ _ => false) (fun _ _ => false) (fun _ _ => fun _ _ => false) (fun _ _ => false) (fun _ _ _ _ _ _ => fun _ _ => false) (fun _ _ => false) (fun _ => fun _ _ => false) (fun _ _ => false) (fun _ _ _ => fun _ _ => false) (fun _ => fun _ _ => false) (fun _ _ => false) (fun _ _ _ => fun _ _ => false) (fun _ _ _ => fun _ _ => false) (fun _ _ => fun _ _ => false) (fun _ _ => false) (fun _ _ _ _ => fun _ _ => false) (fun _ _ => false) (fun _ _ => fun _ _ => false) (fun _ _ => fun _ _ => false) (fun _ _ _ _ _ => fun _ _ => false)
/-- A number of this kind: no sign, or one. -/
noncomputable def AV.of_i16 : AV → (Nat → Bool) → (Nat → Bool) → Bool :=
  AV.rec (motive := fun _ => (Nat → Bool) → (Nat → Bool) → Bool) (fun _ _ => false) (fun _ => fun _ _ => false)
    (fun q n k _ => IntKind.rec (motive := fun _ => Bool) false (k n) false false false false false false q)
    (fun q n _ k => IntKind.rec (motive := fun _ => Bool) false (k n) false false false false false false q) (fun _ _ => fun _ _ => false) (fun _ _ => false) (fun _ _ => false) (fun _ _ => fun _ _ => false) (fun _ _ => false) (fun _ _ _ _ _ _ => fun _ _ => false) (fun _ _ => false) (fun _ => fun _ _ => false) (fun _ _ => false) (fun _ _ _ => fun _ _ => false) (fun _ => fun _ _ => false) (fun _ _ => false) (fun _ _ _ => fun _ _ => false) (fun _ _ _ => fun _ _ => false) (fun _ _ => fun _ _ => false) (fun _ _ => false) (fun _ _ _ _ => fun _ _ => false) (fun _ _ => false) (fun _ _ => fun _ _ => false) (fun _ _ => fun _ _ => false) (fun _ _ _ _ _ => fun _ _ => false)
/-- A number of this kind: no sign, or one. -/
noncomputable def AV.of_i32 : AV → (Nat → Bool) → (Nat → Bool) → Bool :=
  AV.rec (motive := fun _ => (Nat → Bool) → (Nat → Bool) → Bool) (fun _ _ => false) (fun _ => fun _ _ => false)
    (fun q n k _ => IntKind.rec (motive := fun _ => Bool) false false (k n) false false false false false q)
    (fun q n _ k => IntKind.rec (motive := fun _ => Bool) false false (k n) false false false false false q) (fun _ _ => fun _ _ => false) (fun _ _ => false) (fun _ _ => false) (fun _ _ => fun _ _ => false) (fun _ _ => false) (fun _ _ _ _ _ _ => fun _ _ => false) (fun _ _ => false) (fun _ => fun _ _ => false) (fun _ _ => false) (fun _ _ _ => fun _ _ => false) (fun _ => fun _ _ => false) (fun _ _ => false) (fun _ _ _ => fun _ _ => false) (fun _ _ _ => fun _ _ => false) (fun _ _ => fun _ _ => false) (fun _ _ => false) (fun _ _ _ _ => fun _ _ => false) (fun _ _ => false) (fun _ _ => fun _ _ => false) (fun _ _ => fun _ _ => false) (fun _ _ _ _ _ => fun _ _ => false)
/-- A number of this kind: no sign, or one. -/
noncomputable def AV.of_i64 : AV → (Nat → Bool) → (Nat → Bool) → Bool :=
  AV.rec (motive := fun _ => (Nat → Bool) → (Nat → Bool) → Bool) (fun _ _ => false) (fun _ => fun _ _ => false)
    (fun q n k _ => IntKind.rec (motive := fun _ => Bool) false false false (k n) false false false false q)
    (fun q n _ k => IntKind.rec (motive := fun _ => Bool) false false false (k n) false false false false q) (fun _ _ => fun _ _ => false) (fun _ _ => false) (fun _ _ => false) (fun _ _ => fun _ _ => false) (fun _ _ => false) (fun _ _ _ _ _ _ => fun _ _ => false) (fun _ _ => false) (fun _ => fun _ _ => false) (fun _ _ => false) (fun _ _ _ => fun _ _ => false) (fun _ => fun _ _ => false) (fun _ _ => false) (fun _ _ _ => fun _ _ => false) (fun _ _ _ => fun _ _ => false) (fun _ _ => fun _ _ => false) (fun _ _ => false) (fun _ _ _ _ => fun _ _ => false) (fun _ _ => false) (fun _ _ => fun _ _ => false) (fun _ _ => fun _ _ => false) (fun _ _ _ _ _ => fun _ _ => false)
/-- A number of this kind: no sign, or one. -/
noncomputable def AV.of_u8 : AV → (Nat → Bool) → (Nat → Bool) → Bool :=
  AV.rec (motive := fun _ => (Nat → Bool) → (Nat → Bool) → Bool) (fun _ _ => false) (fun _ => fun _ _ => false)
    (fun q n k _ => IntKind.rec (motive := fun _ => Bool) false false false false (k n) false false false q)
    (fun q n _ k => IntKind.rec (motive := fun _ => Bool) false false false false (k n) false false false q) (fun _ _ => fun _ _ => false) (fun _ _ => false) (fun _ _ => false) (fun _ _ => fun _ _ => false) (fun _ _ => false) (fun _ _ _ _ _ _ => fun _ _ => false) (fun _ _ => false) (fun _ => fun _ _ => false) (fun _ _ => false) (fun _ _ _ => fun _ _ => false) (fun _ => fun _ _ => false) (fun _ _ => false) (fun _ _ _ => fun _ _ => false) (fun _ _ _ => fun _ _ => false) (fun _ _ => fun _ _ => false) (fun _ _ => false) (fun _ _ _ _ => fun _ _ => false) (fun _ _ => false) (fun _ _ => fun _ _ => false) (fun _ _ => fun _ _ => false) (fun _ _ _ _ _ => fun _ _ => false)
/-- A number of this kind: no sign, or one. -/
noncomputable def AV.of_u16 : AV → (Nat → Bool) → (Nat → Bool) → Bool :=
  AV.rec (motive := fun _ => (Nat → Bool) → (Nat → Bool) → Bool) (fun _ _ => false) (fun _ => fun _ _ => false)
    (fun q n k _ => IntKind.rec (motive := fun _ => Bool) false false false false false (k n) false false q)
    (fun q n _ k => IntKind.rec (motive := fun _ => Bool) false false false false false (k n) false false q) (fun _ _ => fun _ _ => false) (fun _ _ => false) (fun _ _ => false) (fun _ _ => fun _ _ => false) (fun _ _ => false) (fun _ _ _ _ _ _ => fun _ _ => false) (fun _ _ => false) (fun _ => fun _ _ => false) (fun _ _ => false) (fun _ _ _ => fun _ _ => false) (fun _ => fun _ _ => false) (fun _ _ => false) (fun _ _ _ => fun _ _ => false) (fun _ _ _ => fun _ _ => false) (fun _ _ => fun _ _ => false) (fun _ _ => false) (fun _ _ _ _ => fun _ _ => false) (fun _ _ => false) (fun _ _ => fun _ _ => false) (fun _ _ => fun _ _ => false) (fun _ _ _ _ _ => fun _ _ => false)
/-- A number of this kind: no sign, or one. -/
noncomputable def AV.of_u32 : AV → (Nat → Bool) → (Nat → Bool) → Bool :=
  AV.rec (motive := fun _ => (Nat → Bool) → (Nat → Bool) → Bool) (fun _ _ => false) (fun _ => fun _ _ => false)
    (fun q n k _ => IntKind.rec (motive := fun _ => Bool) false false false false false false (k n) false q)
    (fun q n _ k => IntKind.rec (motive := fun _ => Bool) false false false false false false (k n) false q) (fun _ _ => fun _ _ => false) (fun _ _ => false) (fun _ _ => false) (fun _ _ => fun _ _ => false) (fun _ _ => false) (fun _ _ _ _ _ _ => fun _ _ => false) (fun _ _ => false) (fun _ => fun _ _ => false) (fun _ _ => false) (fun _ _ _ => fun _ _ => false) (fun _ => fun _ _ => false) (fun _ _ => false) (fun _ _ _ => fun _ _ => false) (fun _ _ _ => fun _ _ => false) (fun _ _ => fun _ _ => false) (fun _ _ => false) (fun _ _ _ _ => fun _ _ => false) (fun _ _ => false) (fun _ _ => fun _ _ => false) (fun _ _ => fun _ _ => false) (fun _ _ _ _ _ => fun _ _ => false)
/-- A number of this kind: no sign, or one. -/
noncomputable def AV.of_u64 : AV → (Nat → Bool) → (Nat → Bool) → Bool :=
  AV.rec (motive := fun _ => (Nat → Bool) → (Nat → Bool) → Bool) (fun _ _ => false) (fun _ => fun _ _ => false)
    (fun q n k _ => IntKind.rec (motive := fun _ => Bool) false false false false false false false (k n) q)
    (fun q n _ k => IntKind.rec (motive := fun _ => Bool) false false false false false false false (k n) q) (fun _ _ => fun _ _ => false) (fun _ _ => false) (fun _ _ => false) (fun _ _ => fun _ _ => false) (fun _ _ => false) (fun _ _ _ _ _ _ => fun _ _ => false) (fun _ _ => false) (fun _ => fun _ _ => false) (fun _ _ => false) (fun _ _ _ => fun _ _ => false) (fun _ => fun _ _ => false) (fun _ _ => false) (fun _ _ _ => fun _ _ => false) (fun _ _ _ => fun _ _ => false) (fun _ _ => fun _ _ => false) (fun _ _ => false) (fun _ _ _ _ => fun _ _ => false) (fun _ _ => false) (fun _ _ => fun _ _ => false) (fun _ _ => fun _ _ => false) (fun _ _ _ _ _ => fun _ _ => false)
/--  -/
noncomputable def AV.asBool : AV → (Bool → Bool) → Bool :=
  AV.rec (motive := fun _ => (Bool → Bool) → Bool) (fun _ => false)
    (fun b k => k b) (fun _ _ => fun _ => false) (fun _ _ => fun _ => false) (fun _ _ => fun _ => false) (fun _ => false) (fun _ => false) (fun _ _ => fun _ => false) (fun _ => false) (fun _ _ _ _ _ _ => fun _ => false) (fun _ => false) (fun _ => fun _ => false) (fun _ => false) (fun _ _ _ => fun _ => false) (fun _ => fun _ => false) (fun _ => false) (fun _ _ _ => fun _ => false) (fun _ _ _ => fun _ => false) (fun _ _ => fun _ => false) (fun _ => false) (fun _ _ _ _ => fun _ => false) (fun _ => false) (fun _ _ => fun _ => false) (fun _ _ => fun _ => false) (fun _ _ _ _ _ => fun _ => false)
/-- A pointer that is not nil. -/
noncomputable def AV.asPtr : AV → (Ad → Nat → Bool) → Bool :=
  AV.rec (motive := fun _ => (Ad → Nat → Bool) → Bool) (fun _ => false) (fun _ => fun _ => false) (fun _ _ => fun _ => false) (fun _ _ => fun _ => false) (fun _ _ => fun _ => false) (fun _ => false) (fun _ => false)
    (fun β o k => k β o) (fun _ => false) (fun _ _ _ _ _ _ => fun _ => false) (fun _ => false) (fun _ => fun _ => false) (fun _ => false) (fun _ _ _ => fun _ => false) (fun _ => fun _ => false) (fun _ => false) (fun _ _ _ => fun _ => false) (fun _ _ _ => fun _ => false) (fun _ _ => fun _ => false) (fun _ => false) (fun _ _ _ _ => fun _ => false) (fun _ => false) (fun _ _ => fun _ => false) (fun _ _ => fun _ => false) (fun _ _ _ _ _ => fun _ => false)
/-- A slice: nil, or not. -/
noncomputable def AV.asSl : AV → Bool → (Ad → Nat → Nat → Bool → Nat → Nat → Bool) → Bool :=
  AV.rec (motive := fun _ => Bool → (Ad → Nat → Nat → Bool → Nat → Nat → Bool) → Bool) (fun _ _ => false) (fun _ => fun _ _ => false) (fun _ _ => fun _ _ => false) (fun _ _ => fun _ _ => false) (fun _ _ => fun _ _ => false) (fun _ _ => false) (fun _ _ => false) (fun _ _ => fun _ _ => false)
    (fun no _ => no)
    (fun β o l e c s _ k => k β o l e c s) (fun _ _ => false) (fun _ => fun _ _ => false) (fun _ _ => false) (fun _ _ _ => fun _ _ => false) (fun _ => fun _ _ => false) (fun _ _ => false) (fun _ _ _ => fun _ _ => false) (fun _ _ _ => fun _ _ => false) (fun _ _ => fun _ _ => false) (fun _ _ => false) (fun _ _ _ _ => fun _ _ => false) (fun _ _ => false) (fun _ _ => fun _ _ => false) (fun _ _ => fun _ _ => false) (fun _ _ _ _ _ => fun _ _ => false)
/-- A text. -/
noncomputable def AV.asStr : AV → (Nat → Nat → Bool) → Bool :=
  AV.rec (motive := fun _ => (Nat → Nat → Bool) → Bool) (fun _ => false) (fun _ => fun _ => false) (fun _ _ => fun _ => false) (fun _ _ => fun _ => false)
    (fun n N k => k n N) (fun _ => false) (fun _ => false) (fun _ _ => fun _ => false) (fun _ => false) (fun _ _ _ _ _ _ => fun _ => false) (fun _ => false) (fun _ => fun _ => false) (fun _ => false) (fun _ _ _ => fun _ => false) (fun _ => fun _ => false) (fun _ => false) (fun _ _ _ => fun _ => false) (fun _ _ _ => fun _ => false) (fun _ _ => fun _ => false) (fun _ => false) (fun _ _ _ _ => fun _ => false) (fun _ => false) (fun _ _ => fun _ => false) (fun _ _ => fun _ => false) (fun _ _ _ _ _ => fun _ => false)
/-- A map: nil, or not. -/
noncomputable def AV.asMp : AV → Bool → (Ad → Bool) → Bool :=
  AV.rec (motive := fun _ => Bool → (Ad → Bool) → Bool) (fun _ _ => false) (fun _ => fun _ _ => false) (fun _ _ => fun _ _ => false) (fun _ _ => fun _ _ => false) (fun _ _ => fun _ _ => false) (fun _ _ => false) (fun _ _ => false) (fun _ _ => fun _ _ => false) (fun _ _ => false) (fun _ _ _ _ _ _ => fun _ _ => false)
    (fun no _ => no)
    (fun β _ k => k β) (fun _ _ => false) (fun _ _ _ => fun _ _ => false) (fun _ => fun _ _ => false) (fun _ _ => false) (fun _ _ _ => fun _ _ => false) (fun _ _ _ => fun _ _ => false) (fun _ _ => fun _ _ => false) (fun _ _ => false) (fun _ _ _ _ => fun _ _ => false) (fun _ _ => false) (fun _ _ => fun _ _ => false) (fun _ _ => fun _ _ => false) (fun _ _ _ _ _ => fun _ _ => false)
/-- A struct or an array. -/
noncomputable def AV.asAgg : AV → (Nat → AV → Bool) → Bool :=
  AV.rec (motive := fun _ => (Nat → AV → Bool) → Bool) (fun _ => false) (fun _ => fun _ => false) (fun _ _ => fun _ => false) (fun _ _ => fun _ => false) (fun _ _ => fun _ => false) (fun _ => false) (fun _ => false) (fun _ _ => fun _ => false) (fun _ => false) (fun _ _ _ _ _ _ => fun _ => false) (fun _ => false) (fun _ => fun _ => false) (fun _ => false) (fun _ _ _ => fun _ => false) (fun _ => fun _ => false) (fun _ => false) (fun _ _ _ => fun _ => false)
    (fun n c _ k => k n c) (fun _ _ => fun _ => false) (fun _ => false) (fun _ _ _ _ => fun _ => false) (fun _ => false) (fun _ _ => fun _ => false) (fun _ _ => fun _ => false) (fun _ _ _ _ _ => fun _ => false)
/-- Several results. -/
noncomputable def AV.asTup : AV → (AV → Bool) → Bool :=
  AV.rec (motive := fun _ => (AV → Bool) → Bool) (fun _ => false) (fun _ => fun _ => false) (fun _ _ => fun _ => false) (fun _ _ => fun _ => false) (fun _ _ => fun _ => false) (fun _ => false) (fun _ => false) (fun _ _ => fun _ => false) (fun _ => false) (fun _ _ _ _ _ _ => fun _ => false) (fun _ => false) (fun _ => fun _ => false) (fun _ => false) (fun _ _ _ => fun _ => false) (fun _ => fun _ => false) (fun _ => false) (fun _ _ _ => fun _ => false) (fun _ _ _ => fun _ => false)
    (fun l _ k => k l) (fun _ => false) (fun _ _ _ _ => fun _ => false) (fun _ => false) (fun _ _ => fun _ => false) (fun _ _ => fun _ => false) (fun _ _ _ _ _ => fun _ => false)
/-- A function, or a loop's own. -/
noncomputable def AV.asFn : AV → (Nat → AV → Bool) → (Ad → Bool) → Bool :=
  AV.rec (motive := fun _ => (Nat → AV → Bool) → (Ad → Bool) → Bool) (fun _ _ => false) (fun _ => fun _ _ => false) (fun _ _ => fun _ _ => false) (fun _ _ => fun _ _ => false) (fun _ _ => fun _ _ => false) (fun _ _ => false) (fun _ _ => false) (fun _ _ => fun _ _ => false) (fun _ _ => false) (fun _ _ _ _ _ _ => fun _ _ => false) (fun _ _ => false) (fun _ => fun _ _ => false) (fun _ _ => false)
    (fun f c _ k _ => k f c)
    (fun β _ k => k β) (fun _ _ => false) (fun _ _ _ => fun _ _ => false) (fun _ _ _ => fun _ _ => false) (fun _ _ => fun _ _ => false) (fun _ _ => false) (fun _ _ _ _ => fun _ _ => false) (fun _ _ => false) (fun _ _ => fun _ _ => false) (fun _ _ => fun _ _ => false) (fun _ _ _ _ _ => fun _ _ => false)
/-- A row: none, or one and others. -/
noncomputable def AV.asCons : AV → Bool → (AV → AV → Bool) → Bool :=
  AV.rec (motive := fun _ => Bool → (AV → AV → Bool) → Bool) (fun _ _ => false) (fun _ => fun _ _ => false) (fun _ _ => fun _ _ => false) (fun _ _ => fun _ _ => false) (fun _ _ => fun _ _ => false) (fun _ _ => false) (fun _ _ => false) (fun _ _ => fun _ _ => false) (fun _ _ => false) (fun _ _ _ _ _ _ => fun _ _ => false) (fun _ _ => false) (fun _ => fun _ _ => false) (fun _ _ => false) (fun _ _ _ => fun _ _ => false) (fun _ => fun _ _ => false) (fun _ _ => false) (fun _ _ _ => fun _ _ => false) (fun _ _ _ => fun _ _ => false) (fun _ _ => fun _ _ => false)
    (fun no _ => no)
    (fun a l _ _ _ k => k a l) (fun _ _ => false) (fun _ _ => fun _ _ => false) (fun _ _ => fun _ _ => false) (fun _ _ _ _ _ => fun _ _ => false)
/-- Packed bytes. -/
noncomputable def AV.asRb : AV → (Nat → Nat → Bool) → Bool :=
  AV.rec (motive := fun _ => (Nat → Nat → Bool) → Bool) (fun _ => false) (fun _ => fun _ => false) (fun _ _ => fun _ => false) (fun _ _ => fun _ => false) (fun _ _ => fun _ => false) (fun _ => false) (fun _ => false) (fun _ _ => fun _ => false) (fun _ => false) (fun _ _ _ _ _ _ => fun _ => false) (fun _ => false) (fun _ => fun _ => false) (fun _ => false) (fun _ _ _ => fun _ => false) (fun _ => fun _ => false) (fun _ => false) (fun _ _ _ => fun _ => false) (fun _ _ _ => fun _ => false) (fun _ _ => fun _ => false) (fun _ => false) (fun _ _ _ _ => fun _ => false) (fun _ => false) (fun _ _ => fun _ => false)
    (fun n N k => k n N) (fun _ _ _ _ _ => fun _ => false)
/-- Is it nil? -/
noncomputable def AV.isNil : AV → (Bool → Bool) → Bool :=
  AV.rec (motive := fun _ => (Bool → Bool) → Bool) (fun _ => false) (fun _ => fun _ => false) (fun _ _ => fun _ => false) (fun _ _ => fun _ => false) (fun _ _ => fun _ => false) (fun _ => false)
    (fun k => k true)
    (fun _ _ k => k false)
    (fun k => k true)
    (fun _ _ _ _ _ _ k => k false)
    (fun k => k true)
    (fun _ k => k false)
    (fun k => k true)
    (fun _ _ _ k => k false)
    (fun _ k => k false)
    (fun k => k true)
    (fun _ _ _ k => k false) (fun _ _ _ => fun _ => false) (fun _ _ => fun _ => false) (fun _ => false) (fun _ _ _ _ => fun _ => false) (fun _ => false) (fun _ _ => fun _ => false) (fun _ _ => fun _ => false) (fun _ _ _ _ _ => fun _ => false)
/-- Is the pointer nil? -/
noncomputable def AV.isNilP : AV → (Bool → Bool) → Bool :=
  AV.rec (motive := fun _ => (Bool → Bool) → Bool) (fun _ => false) (fun _ => fun _ => false) (fun _ _ => fun _ => false) (fun _ _ => fun _ => false) (fun _ _ => fun _ => false) (fun _ => false)
    (fun k => k true)
    (fun _ _ k => k false) (fun _ => false) (fun _ _ _ _ _ _ => fun _ => false) (fun _ => false) (fun _ => fun _ => false) (fun _ => false) (fun _ _ _ => fun _ => false) (fun _ => fun _ => false) (fun _ => false) (fun _ _ _ => fun _ => false) (fun _ _ _ => fun _ => false) (fun _ _ => fun _ => false) (fun _ => false) (fun _ _ _ _ => fun _ => false) (fun _ => false) (fun _ _ => fun _ => false) (fun _ _ => fun _ => false) (fun _ _ _ _ _ => fun _ => false)
/-- Is the slice nil? -/
noncomputable def AV.isNilS : AV → (Bool → Bool) → Bool :=
  AV.rec (motive := fun _ => (Bool → Bool) → Bool) (fun _ => false) (fun _ => fun _ => false) (fun _ _ => fun _ => false) (fun _ _ => fun _ => false) (fun _ _ => fun _ => false) (fun _ => false) (fun _ => false) (fun _ _ => fun _ => false)
    (fun k => k true)
    (fun _ _ _ _ _ _ k => k false) (fun _ => false) (fun _ => fun _ => false) (fun _ => false) (fun _ _ _ => fun _ => false) (fun _ => fun _ => false) (fun _ => false) (fun _ _ _ => fun _ => false) (fun _ _ _ => fun _ => false) (fun _ _ => fun _ => false) (fun _ => false) (fun _ _ _ _ => fun _ => false) (fun _ => false) (fun _ _ => fun _ => false) (fun _ _ => fun _ => false) (fun _ _ _ _ _ => fun _ => false)
/-- Is the map nil? -/
noncomputable def AV.isNilM : AV → (Bool → Bool) → Bool :=
  AV.rec (motive := fun _ => (Bool → Bool) → Bool) (fun _ => false) (fun _ => fun _ => false) (fun _ _ => fun _ => false) (fun _ _ => fun _ => false) (fun _ _ => fun _ => false) (fun _ => false) (fun _ => false) (fun _ _ => fun _ => false) (fun _ => false) (fun _ _ _ _ _ _ => fun _ => false)
    (fun k => k true)
    (fun _ k => k false) (fun _ => false) (fun _ _ _ => fun _ => false) (fun _ => fun _ => false) (fun _ => false) (fun _ _ _ => fun _ => false) (fun _ _ _ => fun _ => false) (fun _ _ => fun _ => false) (fun _ => false) (fun _ _ _ _ => fun _ => false) (fun _ => false) (fun _ _ => fun _ => false) (fun _ _ => fun _ => false) (fun _ _ _ _ _ => fun _ => false)
/-- Is the function nil? -/
noncomputable def AV.isNilF : AV → (Bool → Bool) → Bool :=
  AV.rec (motive := fun _ => (Bool → Bool) → Bool) (fun _ => false) (fun _ => fun _ => false) (fun _ _ => fun _ => false) (fun _ _ => fun _ => false) (fun _ _ => fun _ => false) (fun _ => false) (fun _ => false) (fun _ _ => fun _ => false) (fun _ => false) (fun _ _ _ _ _ _ => fun _ => false) (fun _ => false) (fun _ => fun _ => false)
    (fun k => k true)
    (fun _ _ _ k => k false)
    (fun _ k => k false) (fun _ => false) (fun _ _ _ => fun _ => false) (fun _ _ _ => fun _ => false) (fun _ _ => fun _ => false) (fun _ => false) (fun _ _ _ _ => fun _ => false) (fun _ => false) (fun _ _ => fun _ => false) (fun _ _ => fun _ => false) (fun _ _ _ _ _ => fun _ => false)
/-- Is the interface nil? -/
noncomputable def AV.isNilI : AV → (Bool → Bool) → Bool :=
  AV.rec (motive := fun _ => (Bool → Bool) → Bool) (fun _ => false) (fun _ => fun _ => false) (fun _ _ => fun _ => false) (fun _ _ => fun _ => false) (fun _ _ => fun _ => false) (fun _ => false) (fun _ => false) (fun _ _ => fun _ => false) (fun _ => false) (fun _ _ _ _ _ _ => fun _ => false) (fun _ => false) (fun _ => fun _ => false) (fun _ => false) (fun _ _ _ => fun _ => false) (fun _ => fun _ => false)
    (fun k => k true)
    (fun _ _ _ k => k false) (fun _ _ _ => fun _ => false) (fun _ _ => fun _ => false) (fun _ => false) (fun _ _ _ _ => fun _ => false) (fun _ => false) (fun _ _ => fun _ => false) (fun _ _ => fun _ => false) (fun _ _ _ _ _ => fun _ => false)
/-- How a guard's operation came out: passed over, or a bool. -/
noncomputable def AV.guardK : AV → Bool → (Bool → Bool) → Bool :=
  AV.rec (motive := fun _ => Bool → (Bool → Bool) → Bool)
    (fun no _ => no)
    (fun b _ k => k b) (fun _ _ => fun _ _ => false) (fun _ _ => fun _ _ => false) (fun _ _ => fun _ _ => false) (fun _ _ => false) (fun _ _ => false) (fun _ _ => fun _ _ => false) (fun _ _ => false) (fun _ _ _ _ _ _ => fun _ _ => false) (fun _ _ => false) (fun _ => fun _ _ => false) (fun _ _ => false) (fun _ _ _ => fun _ _ => false) (fun _ => fun _ _ => false) (fun _ _ => false) (fun _ _ _ => fun _ _ => false) (fun _ _ _ => fun _ _ => false) (fun _ _ => fun _ _ => false) (fun _ _ => false) (fun _ _ _ _ => fun _ _ => false) (fun _ _ => false) (fun _ _ => fun _ _ => false) (fun _ _ => fun _ _ => false) (fun _ _ _ _ _ => fun _ _ => false)
/-- What may be looked behind. -/
noncomputable def AV.chkK : AV → Bool → Bool :=
  AV.rec (motive := fun _ => Bool → Bool) (fun _ => false) (fun _ => fun _ => false) (fun _ _ => fun _ => false) (fun _ _ => fun _ => false) (fun _ _ => fun _ => false) (fun _ => false) (fun _ => false)
    (fun _ _ k => k)
    (fun k => k)
    (fun _ _ _ _ _ _ k => k)
    (fun k => k)
    (fun _ k => k) (fun _ => false)
    (fun _ _ _ k => k) (fun _ => fun _ => false) (fun _ => false) (fun _ _ _ => fun _ => false) (fun _ _ _ => fun _ => false) (fun _ _ => fun _ => false) (fun _ => false) (fun _ _ _ _ => fun _ => false) (fun _ => false) (fun _ _ => fun _ => false) (fun _ _ => fun _ => false) (fun _ _ _ _ _ => fun _ => false)
/-- What one cell may hold. -/
noncomputable def AV.plainK : AV → Bool → Bool :=
  AV.rec (motive := fun _ => Bool → Bool) (fun _ => false)
    (fun _ k => k)
    (fun _ _ k => k)
    (fun _ _ k => k)
    (fun _ _ k => k)
    (fun k => k)
    (fun k => k)
    (fun _ _ k => k)
    (fun k => k)
    (fun _ _ _ _ _ _ k => k)
    (fun k => k)
    (fun _ k => k)
    (fun k => k)
    (fun _ _ _ k => k)
    (fun _ k => k)
    (fun k => k)
    (fun _ _ _ k => k) (fun _ _ _ => fun _ => false) (fun _ _ => fun _ => false) (fun _ => false) (fun _ _ _ _ => fun _ => false) (fun _ => false) (fun _ _ => fun _ => false) (fun _ _ => fun _ => false) (fun _ _ _ _ _ => fun _ => false)
/-- A value's cells: how many, and as a rope. -/
noncomputable def AV.cellsK : AV → (Nat → AV → Bool) → Bool :=
  AV.rec (motive := fun _ => (Nat → AV → Bool) → Bool) (fun _ => false)
    (fun b k => k 1 (.r1 (.bool b)))
    (fun q n k => IntKind.rec (motive := fun _ => Bool) (k 1 (.r1 (.nat q n))) (k 1 (.r1 (.nat q n))) (k 1 (.r1 (.nat q n))) (k 1 (.r1 (.nat q n))) (sel (Nat.ble n 255) (k 1 (.rb 1 n)) false) (k 1 (.r1 (.nat q n))) (k 1 (.r1 (.nat q n))) (k 1 (.r1 (.nat q n))) q)
    (fun q n k => k 1 (.r1 (.neg q n)))
    (fun n N k => k 1 (.r1 (.str n N)))
    (fun k => k 1 (.r1 (.opq)))
    (fun k => k 1 (.r1 (.pnil)))
    (fun β off k => k 1 (.r1 (.ptr β off)))
    (fun k => k 1 (.r1 (.snil)))
    (fun β off len ex c es k => k 1 (.r1 (.slice β off len ex c es)))
    (fun k => k 1 (.r1 (.mnil)))
    (fun β k => k 1 (.r1 (.map β)))
    (fun k => k 1 (.r1 (.fnil)))
    (fun f cap _ k => k 1 (.r1 (.func f cap)))
    (fun β k => k 1 (.r1 (.yield β)))
    (fun k => k 1 (.r1 (.inil)))
    (fun t v _ k => k 1 (.r1 (.iface t v)))
    (fun n c _ k => k n c) (fun _ _ => fun _ => false) (fun _ => false) (fun _ _ _ _ => fun _ => false) (fun _ => false) (fun _ _ => fun _ => false) (fun _ _ => fun _ => false) (fun _ _ _ _ _ => fun _ => false)
/-- A byte. -/
noncomputable def AV.byteK : AV → (Nat → Bool) → Bool :=
  AV.rec (motive := fun _ => (Nat → Bool) → Bool) (fun _ => false) (fun _ => fun _ => false)
    (fun q n k => IntKind.rec (motive := fun _ => Bool) false false false false (sel (Nat.ble n 255) (k n) false) false false false q) (fun _ _ => fun _ => false) (fun _ _ => fun _ => false) (fun _ => false) (fun _ => false) (fun _ _ => fun _ => false) (fun _ => false) (fun _ _ _ _ _ _ => fun _ => false) (fun _ => false) (fun _ => fun _ => false) (fun _ => false) (fun _ _ _ => fun _ => false) (fun _ => fun _ => false) (fun _ => false) (fun _ _ _ => fun _ => false) (fun _ _ _ => fun _ => false) (fun _ _ => fun _ => false) (fun _ => false) (fun _ _ _ _ => fun _ => false) (fun _ => false) (fun _ _ => fun _ => false) (fun _ _ => fun _ => false) (fun _ _ _ _ _ => fun _ => false)
/-- The cell at a place of a rope. -/
noncomputable def AV.rgetK (k : AV → Bool) : AV → Nat → Bool :=
  AV.rec (motive := fun _ => Nat → Bool) (fun _ => false) (fun _ => fun _ => false) (fun _ _ => fun _ => false) (fun _ _ => fun _ => false) (fun _ _ => fun _ => false) (fun _ => false) (fun _ => false) (fun _ _ => fun _ => false) (fun _ => false) (fun _ _ _ _ _ _ => fun _ => false) (fun _ => false) (fun _ => fun _ => false) (fun _ => false) (fun _ _ _ => fun _ => false) (fun _ => fun _ => false) (fun _ => false) (fun _ _ _ => fun _ => false) (fun _ _ _ => fun _ => false) (fun _ _ => fun _ => false) (fun _ => false) (fun _ _ _ _ => fun _ => false) (fun _ => false)
    (fun v _ i => Nat.rec (motive := fun _ => Bool) (k v) (fun _ _ => false) i)
    (fun n N i => sel (Nat.ble (Nat.succ i) n) (k (.nat .u8 (Nat.mod (Nat.shiftRight N (Nat.mul 8 i)) 256))) false)
    (fun h _ _ il ir i => sel (Nat.ble (Nat.succ i) h) (il i) (ir (Nat.sub i h)))
/-- A cell of a rope is set. -/
noncomputable def AV.rsetK (v : AV) : AV → Nat → (AV → Bool) → Bool :=
  AV.rec (motive := fun _ => Nat → (AV → Bool) → Bool) (fun _ _ => false) (fun _ => fun _ _ => false) (fun _ _ => fun _ _ => false) (fun _ _ => fun _ _ => false) (fun _ _ => fun _ _ => false) (fun _ _ => false) (fun _ _ => false) (fun _ _ => fun _ _ => false) (fun _ _ => false) (fun _ _ _ _ _ _ => fun _ _ => false) (fun _ _ => false) (fun _ => fun _ _ => false) (fun _ _ => false) (fun _ _ _ => fun _ _ => false) (fun _ => fun _ _ => false) (fun _ _ => false) (fun _ _ _ => fun _ _ => false) (fun _ _ _ => fun _ _ => false) (fun _ _ => fun _ _ => false) (fun _ _ => false) (fun _ _ _ _ => fun _ _ => false) (fun _ _ => false)
    (fun _ _ i k => Nat.rec (motive := fun _ => Bool) (v.plainK (k (.r1 v))) (fun _ _ => false) i)
    (fun n N i k => sel (Nat.ble (Nat.succ i) n) (v.byteK fun m => forceN (Nat.xor N (Nat.shiftLeft (Nat.xor m (Nat.mod (Nat.shiftRight N (Nat.mul 8 i)) 256)) (Nat.mul 8 i))) fun N' => k (.rb n N')) false)
    (fun h l r il ir i k => sel (Nat.ble (Nat.succ i) h) (il i (fun l' => k (.rn h l' r))) (ir (Nat.sub i h) (fun r' => k (.rn h l r'))))
/-- n cells of a rope, from off on. -/
noncomputable def AV.rsubK : AV → Nat → Nat → (AV → Bool) → Bool :=
  AV.rec (motive := fun _ => Nat → Nat → (AV → Bool) → Bool) (fun _ _ _ => false) (fun _ => fun _ _ _ => false) (fun _ _ => fun _ _ _ => false) (fun _ _ => fun _ _ _ => false) (fun _ _ => fun _ _ _ => false) (fun _ _ _ => false) (fun _ _ _ => false) (fun _ _ => fun _ _ _ => false) (fun _ _ _ => false) (fun _ _ _ _ _ _ => fun _ _ _ => false) (fun _ _ _ => false) (fun _ => fun _ _ _ => false) (fun _ _ _ => false) (fun _ _ _ => fun _ _ _ => false) (fun _ => fun _ _ _ => false) (fun _ _ _ => false) (fun _ _ _ => fun _ _ _ => false) (fun _ _ _ => fun _ _ _ => false) (fun _ _ => fun _ _ _ => false) (fun _ _ _ => false) (fun _ _ _ _ => fun _ _ _ => false)
    (fun _ n k => sel (Nat.beq n 0) (k .r0) false)
    (fun v _ off n k => sel (Nat.beq n 0) (k .r0) (sel (Nat.beq off 0) (sel (Nat.beq n 1) (k (.r1 v)) false) false))
    (fun m N off n k => sel (Nat.ble (Nat.add off n) m) (forceN (Nat.mod (Nat.shiftRight N (Nat.mul 8 off)) (Nat.pow 2 (Nat.mul 8 n))) fun N' => k (.rb n N')) false)
    (fun h _ _ il ir off n k => sel (Nat.ble (Nat.add off n) h) (il off n k) (sel (Nat.ble h off) (ir (Nat.sub off h) n k) (il off (Nat.sub h off) fun a => ir 0 (Nat.sub n (Nat.sub h off)) fun b => k (.rn (Nat.sub h off) a b))))
/-- Two rows, one behind the other. -/
noncomputable def AV.appK (b : AV) : AV → (AV → Bool) → Bool :=
  AV.rec (motive := fun _ => (AV → Bool) → Bool) (fun _ => false) (fun _ => fun _ => false) (fun _ _ => fun _ => false) (fun _ _ => fun _ => false) (fun _ _ => fun _ => false) (fun _ => false) (fun _ => false) (fun _ _ => fun _ => false) (fun _ => false) (fun _ _ _ _ _ _ => fun _ => false) (fun _ => false) (fun _ => fun _ => false) (fun _ => false) (fun _ _ _ => fun _ => false) (fun _ => fun _ => false) (fun _ => false) (fun _ _ _ => fun _ => false) (fun _ _ _ => fun _ => false) (fun _ _ => fun _ => false)
    (fun k => k b)
    (fun v _ _ ih k => ih fun r => k (.cons v r)) (fun _ => false) (fun _ _ => fun _ => false) (fun _ _ => fun _ => false) (fun _ _ _ _ _ => fun _ => false)
/-- A row's value at a place. -/
noncomputable def AV.nthK (k : AV → Bool) : AV → Nat → Bool :=
  AV.rec (motive := fun _ => Nat → Bool) (fun _ => false) (fun _ => fun _ => false) (fun _ _ => fun _ => false) (fun _ _ => fun _ => false) (fun _ _ => fun _ => false) (fun _ => false) (fun _ => false) (fun _ _ => fun _ => false) (fun _ => false) (fun _ _ _ _ _ _ => fun _ => false) (fun _ => false) (fun _ => fun _ => false) (fun _ => false) (fun _ _ _ => fun _ => false) (fun _ => fun _ => false) (fun _ => false) (fun _ _ _ => fun _ => false) (fun _ _ _ => fun _ => false) (fun _ _ => fun _ => false) (fun _ => false)
    (fun v _ _ ih i => Nat.rec (motive := fun _ => Bool) (k v) (fun j _ => ih j) i) (fun _ => false) (fun _ _ => fun _ => false) (fun _ _ => fun _ => false) (fun _ _ _ _ _ => fun _ => false)
/-- Is it packed bytes? Is it one packed nought? -/
noncomputable def isRb : AV → Bool :=
  AV.rec (motive := fun _ => Bool) (false) (fun _ => false) (fun _ _ => false) (fun _ _ => false) (fun _ _ => false) (false) (false) (fun _ _ => false) (false) (fun _ _ _ _ _ _ => false) (false) (fun _ => false) (false) (fun _ _ _ => false) (fun _ => false) (false) (fun _ _ _ => false) (fun _ _ _ => false) (fun _ _ => false) (false) (fun _ _ _ _ => false) (false) (fun _ _ => false)
    (fun _ _ => true) (fun _ _ _ _ _ => false)
noncomputable def isZ : AV → Bool :=
  AV.rec (motive := fun _ => Bool) (false) (fun _ => false) (fun _ _ => false) (fun _ _ => false) (fun _ _ => false) (false) (false) (fun _ _ => false) (false) (fun _ _ _ _ _ _ => false) (false) (fun _ => false) (false) (fun _ _ _ => false) (fun _ => false) (false) (fun _ _ _ => false) (fun _ _ _ => false) (fun _ _ => false) (false) (fun _ _ _ _ => false) (false) (fun _ _ => false)
    (fun n N => sel (Nat.beq n 1) (Nat.beq N 0) false) (fun _ _ _ _ _ => false)
/-- Joined ropes: a has h cells; bytes are packed. -/
noncomputable def AV.rjoinK (h : Nat) (a b : AV) (k : AV → Bool) : Bool :=
  sel (Nat.beq h 0) (k b) (sel (isRb a) (sel (isRb b) (a.asRb fun n N => b.asRb fun m M => sel (Nat.beq n h) (forceN (Nat.add (Nat.mod N (Nat.pow 2 (Nat.mul 8 n))) (Nat.shiftLeft M (Nat.mul 8 n))) fun S => k (.rb (Nat.add n m) S)) false) (k (.rn h a b))) (k (.rn h a b)))

/-- m copies of a rope of h cells (noughts are packed). -/
noncomputable def AV.repK (h : Nat) (z : AV) (m : Nat) (k : AV → Bool) : Bool :=
  sel (isZ z) (sel (Nat.beq h 1) (k (.rb m 0)) false)
    (Nat.rec (motive := fun _ => (AV → Bool) → Bool) (fun k => k .r0) (fun _ ih k => ih fun r => k (.rn h z r)) m k)

/-- A region's own values, the newest first. -/
inductive Ls | nil | cons (v : AV) (r : Ls)
/-- The function's temporaries. -/
abbrev Regs := R8 (R8 (R8 AV))
inductive AMap | nil | cons (k v : AV) (r : AMap)
/-- The jump that a round has left. -/
inductive Jump | none | exit (id : Nat) | ret
inductive AExit | normal | exit (id : Nat) | ret
/-- Blocks. Cells: how many are known, what they hold; 0: the block may be written (1: it was grown over, 2: it is not our own); whether it is plain (no text's bytes); how many of its cells may lie in elder blocks, and in which. A loop: 0 ready, 1 busy, 2 done, 3 over. -/
inductive Blk
  | cells (n : Nat) (c : AV) (st : Nat) (pl : Bool) (sh : Nat) (olds : List Ad)
  | mp (m : AMap)
  | loop (st : Nat) (j : Jump) (fn : Nat) (t : Regs) (ps : List Nat) (assign body : Code) (dfr : Ad)
  | defr (isOpen : Bool)
  | dead
structure Hp where
  t : PT Blk
  nx : Ad
end Go.Am
