import Derived.Test.YtfdbmpokhfjdoaaGreatDoorAm2
set_option linter.unusedVariables false
set_option linter.unusedSimpArgs false
/-! The abstract machine, 3: from the program's code to continuations. -/
namespace Go.Am
open Go

/-- What an operation is: it only reads (dep: the heap, too); it makes one block; it may write; it is not taken. -/
inductive OpW | rd (f : RdF) (dep : Bool) | al (f : AlF) | wr (f : OpF) | bad
noncomputable def OpW.run (o : OpW) (ih : Lv) (t : Regs) (ls : Ls) (σ : Hp) (k : KV) : Bool :=
  OpW.rec (motive := fun _ => Bool) (fun f _ => f t ls σ fun v => k v σ) (fun f => f t ls fun b mk => σ.newK b fun β σ => k (mk β) σ) (fun f => f ih t ls σ k) false o

/-! ### Constants -/
def packL : List UInt8 → Nat
  | [] => 0
  | b :: r => b.toNat + 256 * packL r
def byteOfV : Value → Option Nat
  | .int .u8 (.ofNat m) => if m < 256 then some m else none
  | _ => none
def packV : List Value → Option Nat
  | [] => some 0
  | v :: r => match byteOfV v, packV r with
    | some b, some n => some (b + 256 * n)
    | _, _ => none
def scalarOf : Value → Option AV
  | .bool b => some (.bool b)
  | .int k n => some (match n with | .ofNat m => .nat k m | .negSucc m => .neg k m)
  | .string s => some (.str s.data.toList.length (packL s.data.toList))
  | .pointer none => some .pnil
  | .slice none 0 0 => some .snil
  | .map none => some .mnil
  | .nilFunc => some .fnil
  | .nilIface => some .inil
  | _ => none
/-- Cells as a rope: bytes are packed. -/
def ropeOf : Nat → List Value → Option AV
  | 0, _ => none
  | d + 1, l =>
    match packV l with
    | some n => some (.rb l.length n)
    | none => match l with
      | [v] => (scalarOf v).map .r1
      | l => match ropeOf d (l.take (l.length / 2)), ropeOf d (l.drop (l.length / 2)) with
        | some a, some b => some (.rn (l.length / 2) a b)
        | _, _ => none
def avOf : Value → Option AV
  | .agg cs => (ropeOf 64 cs.toList).map (.agg cs.size)
  | .tuple vs => if vs.size = 0 then some .undef else none
  | v => scalarOf v

/-! ### Operands. 'E': which temporaries are the function's (a mask); 'binds': what the others are now; 'depth': how many own values the region has; 'n': how many temporaries there are. -/
inductive Bind | loc (level : Nat) | reg (t : Tmp) | cst (v : AV)
structure Cx where
  n : Nat
  E : Nat
  binds : List (Tmp × Bind)
  depth : Nat
inductive OpdW | mk (f : OpdF)
def Cx.glob (c : Cx) (t : Tmp) : Bool := c.E.testBit t && decide (t < 512) && decide (t < c.n)
def Cx.find (c : Cx) (t : Tmp) : Option Bind := c.binds.lookup t
/-- The i-th of the region's own values. -/
noncomputable def evL : Nat → OpdW
  | 0 => .mk fun _ ls => ls.hd
  | 1 => .mk fun _ ls => ls.tl.hd
  | 2 => .mk fun _ ls => ls.tl.tl.hd
  | 3 => .mk fun _ ls => ls.tl.tl.tl.hd
  | i + 4 => match evL i with | .mk f => .mk fun t ls => f t ls.tl.tl.tl.tl
noncomputable def evR (t : Tmp) : OpdW := match regW t with | .mk g _ => .mk fun t _ => g t
noncomputable def bindW (depth : Nat) : Bind → OpdW
  | .loc l => evL (depth - l - 1)
  | .reg t => evR t
  | .cst v => .mk fun _ _ => v
section
variable (C : Cx)
noncomputable def tmpW (t : Tmp) : Option OpdW := if C.glob t then some (evR t) else match C.find t with | some b => some (bindW C.depth b) | none => none
noncomputable def opdW : Operand → Option OpdW
  | .tmp t => tmpW C t
  | .const v => match avOf v with | some a => some (.mk fun _ _ => a) | none => none
  | .func f => some (.mk fun _ _ => .func f (.cons .nil .nil))
  | .global _ => none
noncomputable def opdsW : List Operand → Option OpdW
  | [] => some (.mk fun _ _ => .nil)
  | x :: r => match opdW C x, opdsW r with
    | some (.mk x), some (.mk r) => some (.mk fun t ls => .cons (x t ls) (r t ls))
    | _, _ => none
noncomputable def optOpd : Option Operand → Option (Option OpdF)
  | none => some none
  | some x => match opdW C x with | some (.mk x) => some (some x) | none => none
noncomputable def partsW (place : Nat → Option (Nat × Nat)) : List (Nat × Operand) → Option PartsW
  | [] => some .nil
  | (i, x) :: r => match place i, opdW C x, partsW place r with
    | some (off, n), some (.mk x), some r => some (.cons off n x r)
    | _, _, _ => none
end

noncomputable def unW (x : Option OpdW) : Option OpdF := match x with | some (.mk f) => some f | none => none
def kBits (k : IntKind) : Nat := k.bits
def kMax : IntKind → Nat
  | .i8 => 127 | .u8 => 255 | .i16 => 32767 | .u16 => 65535 | .i32 => 2147483647 | .u32 => 4294967295 | .i64 => 9223372036854775807 | .u64 => 18446744073709551615

section
variable (P : Program)
def szOf (t : TypeId) : Option Nat := (P.info? t).map (·.size)
def zeroOf (t : TypeId) : Option Value := (P.info? t).bind (·.zero)
/-- A type's size, if its noughts are as many. -/
def szz (t : TypeId) : Option Nat := match szOf P t, zeroOf P t with | some n, some v => if v.cells.size = n then some n else none | _, _ => none
def aggOf (t : TypeId) : Option Bool := (P.underlying t).map fun | .struct _ | .array _ _ => true | _ => false
/-- An element's noughts, as a rope of its cells. -/
def zRope (t : TypeId) : Option AV := (zeroOf P t).bind fun v => ropeOf 64 v.cells.toList
def zAV (t : TypeId) : Option AV := (zeroOf P t).bind avOf
/-- How many elements an append may come to. -/
def limOf (t : TypeId) : Option Nat := (P.info? t).bind fun i => if i.bytes = 0 then none else some ((2 ^ 48 / i.bytes - 600) / 2)
def mkLim (t : TypeId) : Option Nat := (P.info? t).map fun i => if i.bytes = 0 then 2 ^ 48 else 2 ^ 48 / i.bytes
def zRow (t : TypeId) (len : Nat) : Option AV := (zeroOf P t).bind fun v => ropeOf 64 ((List.replicate len v.cells.toList).flatten)
/-- Is a key's type a text's (true), a number's (false)? -/
def keyOk (t : TypeId) : Option Bool := match P.underlying t with | some (.int _) => some false | some .string => some true | _ => none
/-- The fields of a struct that is a row of bools (true) and numbers (false). -/
def flatW : List Field → Nat → Option (List Bool)
  | [], _ => some []
  | f :: r, i => if f.name ≠ "_" ∧ f.offset = i then match P.underlying f.type, flatW r (i + 1) with
      | some (.int _), some l => some (false :: l)
      | some .bool, some l => some (true :: l)
      | _, _ => none
    else none
/-- Is it a struct of plain fields (numbers, bools, texts; structs of these)? -/
def plainTy : Nat → TypeId → Bool
  | 0, _ => false
  | d + 1, t => match P.underlying t with
    | some .bool | some (.int _) | some .string => true
    | some (.struct fs) => !P.stoodInHeld t && fs.toList.all fun f => f.name != "_" && plainTy d f.type
    | _ => false

inductive AccW | mk (f : AccF)
noncomputable def accW : IntKind → AccW
  | .i8 => .mk AV.of_i8 | .i16 => .mk AV.of_i16 | .i32 => .mk AV.of_i32 | .i64 => .mk AV.of_i64 | .u8 => .mk AV.of_u8 | .u16 => .mk AV.of_u16 | .u32 => .mk AV.of_u32 | .u64 => .mk AV.of_u64
noncomputable def intW (k : IntKind) (op : BinOp) (a b : OpdF) : OpW :=
  match accW k with
  | .mk acc => match op with
    | .add => if k.signed then .rd (rBinI acc (addS k (kMax k)) (addI k) a b) false else .rd (rBinI acc (addU k (kMax k + 1)) (addI k) a b) false
    | .sub => .rd (rBinI acc (subN k (kMax k)) (subI k) a b) false
    | .mul => if k.signed then .rd (rBinI acc (mulS k (kMax k)) (mulI k) a b) false else .rd (rBinI acc (mulU k (kMax k + 1)) (mulI k) a b) false
    | .quo => .rd (rBinI acc (quoN k (kMax k)) (quoI k) a b) false
    | .rem => .rd (rBinI acc (remN k) (remI k) a b) false
    | .and => .rd (rBinI acc (bitN k (kMax k) Nat.land) noS a b) false
    | .or => .rd (rBinI acc (bitN k (kMax k) Nat.lor) noS a b) false
    | .xor => .rd (rBinI acc (bitN k (kMax k) Nat.xor) noS a b) false
    | .andNot => .rd (rBinI acc (bitN k (kMax k) fun a b => Nat.sub a (Nat.land a b)) noS a b) false
    | .shl => .rd (rShift acc (shlN k (kBits k) (2 ^ kBits k)) a b) false
    | .shr => .rd (rShift acc (shrN k (kBits k)) a b) false
    | .eql => .rd (rBinI acc (cmpN Nat.beq) (cmpS eqI) a b) false
    | .neq => .rd (rBinI acc (cmpN fun x y => Bool.not (Nat.beq x y)) (cmpS fun x y => Bool.not (eqI x y)) a b) false
    | .lss => .rd (rBinI acc (cmpN fun x y => Nat.ble (Nat.succ x) y) (cmpS ltI) a b) false
    | .leq => .rd (rBinI acc (cmpN Nat.ble) (cmpS fun x y => Bool.not (ltI y x)) a b) false
    | .gtr => .rd (rBinI acc (cmpN fun x y => Nat.ble (Nat.succ y) x) (cmpS fun x y => ltI y x) a b) false
    | .geq => .rd (rBinI acc (cmpN fun x y => Nat.ble y x) (cmpS fun x y => Bool.not (ltI x y)) a b) false
noncomputable def strW (op : BinOp) (a b : OpdF) : OpW :=
  match op with
  | .add => .rd (rCat a b) false
  | .eql => .rd (rStr strEq a b) false
  | .neq => .rd (rStr (fun n N m M => Bool.not (strEq n N m M)) a b) false
  | .lss => .rd (rStr (fun n N m M => strLt (Nat.succ n) n N m M) a b) false
  | .gtr => .rd (rStr (fun n N m M => strLt (Nat.succ m) m M n N) a b) false
  | .leq => .rd (rStr (fun n N m M => Bool.not (strLt (Nat.succ m) m M n N)) a b) false
  | .geq => .rd (rStr (fun n N m M => Bool.not (strLt (Nat.succ n) n N m M)) a b) false
  | _ => .bad
def nilC : TypeDesc → Operand → Bool
  | .slice _, .const (.slice none 0 0) => true
  | .map _ _, .const (.map none) => true
  | .func _ _ _, .const .nilFunc => true
  | .interface _, .const .nilIface => true
  | _, _ => false
noncomputable def eqW (ne : Bool) (t : TypeId) (x y : Operand) (a b : OpdF) : OpW :=
  match P.underlying t with
  | some .bool => .rd (rBoolEq ne a b) false
  | some (.pointer e) => match szOf P e with
    | some (_ + 1) => .rd (rPtrEq ne a b) true
    | _ => .bad
  | some (.struct fs) => if P.stoodInHeld t = false ∧ P.eqGuardType P.depth t = false then (match flatW P fs.toList 0 with | some cls => .rd (rAggEq ne fs.size cls a b) false | none => .bad) else .bad
  | some (.slice e) => if nilC (.slice e) y then .rd (rNilEq AV.isNilS ne a) false else if nilC (.slice e) x then .rd (rNilEq AV.isNilS ne b) false else .bad
  | some (.map c e) => if nilC (.map c e) y then .rd (rNilEq AV.isNilM ne a) false else if nilC (.map c e) x then .rd (rNilEq AV.isNilM ne b) false else .bad
  | some (.func c e v) => if nilC (.func c e v) y then .rd (rNilEq AV.isNilF ne a) false else if nilC (.func c e v) x then .rd (rNilEq AV.isNilF ne b) false else .bad
  | some (.interface ms) => if nilC (.interface ms) y then .rd (rNilEq AV.isNilI ne a) false else if nilC (.interface ms) x then .rd (rNilEq AV.isNilI ne b) false else .bad
  | _ => .bad
noncomputable def binW (op : BinOp) (t : TypeId) (x y : Operand) (a b : OpdF) : OpW :=
  match P.underlying t with
  | some (.int k) => intW k op a b
  | some .string => strW op a b
  | _ => match op with
    | .eql => eqW P false t x y a b
    | .neq => eqW P true t x y a b
    | _ => .bad

noncomputable def builtinW (C : Cx) (b : Builtin) (ts : List TypeId) (xs : List Operand) : OpW :=
  match b, ts, xs with
  | .len, [t], [x] => match (unW (opdW C x)), P.underlying t with
    | some a, some .string => .rd (rLenT a) false
    | some a, some (.slice _) => .rd (rLenS a) false
    | some a, some (.map _ _) => .rd (rLenM a) true
    | some _, some (.array n _) => .rd (rConst (.nat .i64 n)) false
    | some _, some (.pointer r) => match P.underlying r with | some (.array n _) => .rd (rConst (.nat .i64 n)) false | _ => .bad
    | _, _ => .bad
  | .cap, [t], [x] => match (unW (opdW C x)), P.underlying t with | some a, some (.slice _) => .rd (rCap a) false | _, _ => .bad
  | .append, [t, u], [s, x] => match (unW (opdW C s)), (unW (opdW C x)), P.underlying t, P.underlying u with
    | some s, some x, some (.slice e), some (.int _) => match szz P e, limOf P e, zRope P e with
      | some (n + 1), some lim, some z => .wr (wAppZ (n + 1) lim z s x)
      | _, _, _ => .bad
    | some s, some x, some (.slice e), some _ => match szz P e, limOf P e with
      | some (n + 1), some lim => .wr (wAppend (n + 1) lim s x)
      | _, _ => .bad
    | _, _, _, _ => .bad
  | .copy, t :: _, [d, s] => match (unW (opdW C d)), (unW (opdW C s)), P.underlying t with
    | some d, some s, some (.slice e) => match szOf P e with | some (n + 1) => .wr (wCopy (n + 1) d s) | _ => .bad
    | _, _, _ => .bad
  | .delete, t :: _, [m, k] => match (unW (opdW C m)), (unW (opdW C k)), P.underlying t with
    | some m, some k, some (.map kt _) => match keyOk P kt with | some ks => .wr (wDelete ks m k) | none => .bad
    | _, _, _ => .bad
  | .clear, [t], [x] => match (unW (opdW C x)), P.underlying t with
    | some a, some (.map _ _) => .wr (wClearM a)
    | some a, some (.slice e) => match szz P e, zRope P e with | some (n + 1), some z => .wr (wClear (n + 1) z a) | _, _ => .bad
    | _, _ => .bad
  | .max, _, [x, y] => match (unW (opdW C x)), (unW (opdW C y)) with | some x, some y => .rd (rMax x y) false | _, _ => .bad
  | _, _, _ => .bad

noncomputable def opW (C : Cx) (o : Op) : OpW :=
  match o with
  | .move x | .assign x => match (unW (opdW C x)) with | some x => .rd (rMove x) false | none => .bad
  | .pick c a b => match (unW (opdW C c)), (unW (opdW C a)), (unW (opdW C b)) with | some c, some a, some b => .rd (rPick c a b) false | _, _, _ => .bad
  | .alloc t => match zeroOf P t, zRope P t with
    | some v, some z => .al (aAlloc v.cells.size z)
    | _, _ => .bad
  | .box _ v => match (unW (opdW C v)) with | some v => .al (aBox v) | none => .bad
  | .build t ps => match P.underlying t, zeroOf P t, zRope P t with
    | some (.struct fs), some v, some z => if !(fs.toList.all fun f => (szOf P f.type).isSome) then .bad else match partsW C (fun i => (fs[i]?).bind fun f => (szOf P f.type).map fun n => (f.offset, n)) ps.toList with
      | some ps => .rd (rBuild v.cells.size z ps) false
      | none => .bad
    | some (.array _ e), some v, some z => match (szOf P e).bind fun n => partsW C (fun i => some (i * n, n)) ps.toList with
      | some ps => .rd (rBuild v.cells.size z ps) false
      | none => .bad
    | _, _, _ => .bad
  | .buildSlice t len ps => match P.underlying t with
    | some (.slice e) => match szz P e, zRow P e len with
      | some (n + 1), some z => match partsW C (fun i => some (i * (n + 1), n + 1)) ps.toList with
        | some ps => if len * (n + 1) ≤ 2 ^ 24 then .al (aSlice (n + 1) len (len * (n + 1)) z ps) else .bad
        | none => .bad
      | _, _ => .bad
    | _ => .bad
  | .load t a => match (unW (opdW C a)), aggOf P t, szOf P t with
    | some a, some true, some n => .rd (rLoadN n a) true
    | some a, some false, some _ => .rd (rLoad1 a) true
    | _, _, _ => .bad
  | .store t a x => match (unW (opdW C a)), (unW (opdW C x)), aggOf P t, szOf P t with
    | some a, some x, some true, some n => .wr (wStoreN n a x)
    | some a, some x, some false, some 1 => .wr (wStore1 a x)
    | _, _, _, _ => .bad
  | .nilCheck x => match (unW (opdW C x)) with | some x => .rd (rNilchk x) false | none => .bad
  | .binOp op t x y _ => match (unW (opdW C x)), (unW (opdW C y)) with | some a, some b => binW P op t x y a b | _, _ => .bad
  | .unOp op _ x => match op, (unW (opdW C x)) with
    | .not, some x => .rd (rNot x) false | .neg, some x => .rd (rNeg x) false | _, _ => .bad
  | .convert s d x => match (unW (opdW C x)), P.underlying s, P.underlying d with
    | some a, some (.int _), some (.int k) => .rd (if k.signed then rCvS k (kMax k) a else rCvU k (kMax k + 1) a) false
    | some a, some .string, some .string => .rd (rMoveS a) false
    | some a, some .string, some (.slice e) => match P.underlying e with | some (.int .u8) => .al (aCvSB a) | _ => .bad
    | some a, some (.slice e), some .string => match P.underlying e with | some (.int .u8) => .rd (rCvBS a) true | _ => .bad
    | some a, some (.slice _), some (.slice e) => if s = d then (match P.underlying e with | some (.int .u8) => .wr (wMark a) | _ => .bad) else .bad
    | _, _, _ => .bad
  | .sliceToArrayPointer r x => match (unW (opdW C x)), P.underlying r with | some x, some (.array n _) => .rd (rS2ap n x) false | _, _ => .bad
  | .makeFunc fn first cs => match fn, (unW (opdsW C first.toList)), (unW (opdsW C cs.toList)) with
    | .func f, some a, some c => .rd (rMkfn f a c) false
    | _, _, _ => .bad
  | .makeMap _ r => match r with | none => .al aMap | _ => .bad
  | .makeSlice t l c => match P.underlying t, (unW (opdW C l)), (unW (opdW C c)) with
    | some (.slice e), some l, some c => match szz P e, mkLim P e, zRope P e with
      | some (n + 1), some lim, some z => .al (aMake (n + 1) lim z l c)
      | _, _, _ => .bad
    | _, _, _ => .bad
  | .slice t x lo hi mx => match (unW (opdW C x)), optOpd C lo, optOpd C hi, optOpd C mx with
    | some x, some lo, some hi, some mx => if mx.isSome && hi.isNone then .bad else match P.underlying t with
      | some .string => match mx with | none => .rd (rSliceS x lo hi) false | _ => .bad
      | some (.slice e) => match szOf P e with | some (n + 1) => .rd (rSlice (n + 1) x lo hi mx) false | _ => .bad
      | some (.array n e) => match szOf P e with | some (s + 1) => .rd (rSliceA n (s + 1) x lo hi mx) true | _ => .bad
      | some (.pointer r) => match P.underlying r with
        | some (.array n e) => match szOf P e with | some (s + 1) => .rd (rSliceA n (s + 1) x lo hi mx) true | _ => .bad
        | _ => .bad
      | _ => .bad
    | _, _, _, _ => .bad
  | .fieldAddr t x i => match (unW (opdW C x)), P.underlying t with
    | some x, some (.struct fs) => match (fs[i]?) with
      | some f => match szOf P f.type with | some (_ + 1) => .rd (rFaddr f.offset x) false | _ => .bad
      | none => .bad
    | _, _ => .bad
  | .indexAddr t x i => match (unW (opdW C x)), (unW (opdW C i)), P.underlying t with
    | some x, some i, some (.slice e) => match szOf P e with | some (n + 1) => .rd (rIdxa (n + 1) x i) false | _ => .bad
    | some x, some i, some (.array n e) => match szOf P e with | some (s + 1) => .rd (rIdxaA n (s + 1) x i) false | _ => .bad
    | _, _, _ => .bad
  | .index t x i => match (unW (opdW C x)), (unW (opdW C i)), P.underlying t with
    | some x, some i, some .string => .rd (rIdxS x i) false
    | _, _, _ => .bad
  | .lookup t m k ok => match (unW (opdW C m)), (unW (opdW C k)), P.underlying t with
    | some m, some k, some (.map kt e) => match keyOk P kt, zAV P e with
      | some ks, some z => if ok then .rd (rLookupOk ks z m k) true else .rd (rLookup ks z m k) true
      | _, _ => .bad
    | _, _, _ => .bad
  | .mapUpdate t m k v | .insert t m k v => match (unW (opdW C m)), (unW (opdW C k)), (unW (opdW C v)), P.underlying t with
    | some m, some k, some v, some (.map kt _) => match keyOk P kt with | some ks => .wr (wMapup ks m k v) | none => .bad
    | _, _, _, _ => .bad
  | .extract x i => match (unW (opdW C x)) with | some x => .rd (rExtract x i) false | none => .bad
  | .call c => match c.callee with
    | .value (.func f) => match (unW (opdsW C c.args.toList)) with | some xs => .wr (wCall f xs) | none => .bad
    | .value f => match (unW (opdW C f)), (unW (opdsW C c.args.toList)) with | some f, some xs => .wr (wCallv f xs) | _, _ => .bad
    | .builtin b => builtinW P C b c.argTypes.toList c.args.toList
    | .invoke _ _ => .bad
  | _ => .bad

/-! ### Regions -/
/-- What is done with an operation's value: it is the function's, the region's own, or it is let go. -/
inductive Dst | env (s : Regs → AV → (Regs → Bool) → Bool) | own | drop
/-- A region's operations: reads without a guard (for the region; for the function), others without a guard, with one. -/
inductive OpsW | nil | rdL (f : RdF) (r : OpsW) | rdE (s : Regs → AV → (Regs → Bool) → Bool) (f : RdF) (r : OpsW) | any (d : Dst) (o : OpW) (r : OpsW) | grd (g : OpdF) (w : Bool) (d : Dst) (o : OpW) (r : OpsW) | bad
def Bind.isReg (t : Tmp) : Bind → Bool | .reg u => u == t | _ => false
/-- What a write of a temporary does to the others. -/
def Cx.wrote (C : Cx) (t : Tmp) : Cx := { C with binds := C.binds.filter fun b => !b.2.isReg t }
noncomputable def dstW (C : Cx) : Option Tmp → Option (Dst × Cx)
  | none => some (.drop, C)
  | some t => if C.glob t then (match regW t with | .mk _ s => some (.env s, C.wrote t)) else match C.find t with
    | some _ => none
    | none => if t < C.n then some (.own, { C with binds := (t, .loc C.depth) :: C.binds, depth := C.depth + 1 }) else none
noncomputable def guardW (C : Cx) (ops : List Oper) (j : Nat) : Option OpdF := match (ops[j]?).bind (·.dst) with | some d => unW (tmpW C d) | none => none
noncomputable def consW (d : Dst) (o : OpW) (r : OpsW) : OpsW :=
  match o, d with
  | .rd f _, .own => .rdL f r
  | .rd f _, .env s => .rdE s f r
  | o, d => .any d o r
def Oper.uses (ops : List Oper) (o : Oper) (t : Tmp) : Bool :=
  (o.op.operands.toList.any fun | .tmp u => u == t | _ => false) || (match o.guard with | some (j, _) => (ops[j]?).bind (·.dst) == some t | none => false)
/-- Is a temporary named behind a write of another one? -/
def usedBehind (ops : List Oper) (t u : Tmp) : List Oper → Bool → Bool
  | [], _ => false
  | o :: r, w => (w && Oper.uses ops o t) || usedBehind ops t u r (w || o.dst == some u)
/-- A move that wants no work: what the temporary is. -/
def aliasOf (C : Cx) (all : List Oper) (o : Oper) (rest : List Oper) : Option (Tmp × Bind) :=
  match o.dst, o.op, o.guard with
  | some t, .move x, none => if C.glob t || (C.find t).isSome || decide (C.n ≤ t) then none else match x with
    | .const v => (avOf v).map fun a => (t, .cst a)
    | .tmp u => if C.glob u then (if usedBehind all t u rest false then none else some (t, .reg u)) else match C.find u with
      | some (.reg u') => if usedBehind all t u' rest false then none else some (t, .reg u')
      | some b => some (t, b)
      | none => none
    | _ => none
  | _, _, _ => none
noncomputable def opsW (all : List Oper) : Cx → List Oper → OpsW
  | _, [] => .nil
  | C, o :: r => match aliasOf C all o r with
    | some b => opsW all { C with binds := b :: C.binds } r
    | none => match dstW C o.dst, o.guard with
      | some (d, C'), none => consW d (opW P C o.op) (opsW all C' r)
      | some (d, C'), some (j, w) => match guardW C all j with
        | some g => .grd g w d (opW P C o.op) (opsW all C' r)
        | none => .bad
      | none, _ => .bad
end
noncomputable def putK (d : Dst) (v : AV) (t : Regs) (ls : Ls) (k : Regs → Ls → Bool) : Bool :=
  Dst.rec (motive := fun _ => Bool) (fun s => s t v fun t => k t ls) (k t (.cons v ls)) (k t ls) d
noncomputable def guardK (g : OpdF) (w : Bool) (t : Regs) (ls : Ls) (skip run : Bool) : Bool := (g t ls).guardK skip fun b => sel (Bool.xor b w) skip run
abbrev KO := Regs → Hp → Bool
noncomputable def OpsW.run (ih : Lv) (l : OpsW) : Regs → Ls → Hp → KO → Bool :=
  OpsW.rec (motive := fun _ => Regs → Ls → Hp → KO → Bool) (fun t _ σ k => k t σ)
    (fun f _ rest t ls σ k => f t ls σ fun v => rest t (.cons v ls) σ k)
    (fun s f _ rest t ls σ k => f t ls σ fun v => s t v fun t => rest t ls σ k)
    (fun d o _ rest t ls σ k => o.run ih t ls σ fun v σ => putK d v t ls fun t ls => rest t ls σ k)
    (fun g w d o _ rest t ls σ k => guardK g w t ls (putK d .undef t ls fun t ls => rest t ls σ k) (o.run ih t ls σ fun v σ => putK d v t ls fun t ls => rest t ls σ k))
    (fun _ _ _ _ => false) l

/-! A region that draws its order: one order is gone through, in which all that only reads, or makes a block, comes as early as it may; behind each write all that was read ahead of it, and may be read behind it, is read again. -/
def edgesOf (o : Oper) : List Nat := (o.after.toList.filter (Region.binds .any)).map (·.on)
/-- Of each operation a mask of those that come ahead of it in any order. -/
def ancs : List Oper → List Nat → List Nat
  | [], acc => acc
  | o :: r, acc => ancs r (acc ++ [(edgesOf o).foldl (fun m e => m ||| 2 ^ e ||| acc.getD e 0) 0])
def isWr : OpW → Bool | .wr _ => true | _ => false
def isDep : OpW → Bool | .rd _ d => d | _ => false
/-- Of a region that draws: number, guard, place of the value, what it is, and (a write) which reads are made again (a mask). -/
inductive DL | nil | cons (i : Nat) (g : Option (OpdF × Bool)) (d : Dst) (o : OpW) (chk : Nat) (r : DL) | bad
/-- The order: the rest of the writes, the rest of the others. -/
def orderF (A : List Nat) : List Nat → List Nat → Nat → List Nat
  | [], others, _ => others
  | j :: ws, others, wm => (others.filter fun i => (A.getD i 0) &&& wm = 0) ++ j :: orderF A ws (others.filter fun i => (A.getD i 0) &&& wm ≠ 0) (wm - 2 ^ j)
def namesOf (ops : List Oper) (o : Oper) : List Tmp :=
  o.dst.toList ++ (o.op.operands.toList.filterMap fun | .tmp t => some t | _ => none) ++ (match o.guard with | some (j, _) => ((ops[j]?).bind (·.dst)).toList | none => [])
/-- Is the order sound? done: those that have come; dw: the writes among them. -/
def orderOk (A : List Nat) (wm : Nat) : List Nat → Nat → Nat → Bool
  | [], _, _ => true
  | j :: r, done, dw =>
    let a := A.getD j 0
    a &&& done == a && dw &&& a == dw && !done.testBit j && orderOk A wm r (done ||| 2 ^ j) (if wm.testBit j then dw ||| 2 ^ j else dw)
/-- Those that write a temporary. -/
def writersOf (t : Tmp) : List Oper → Nat → Nat
  | [], _ => 0
  | o :: r, i => (if o.dst == some t then 2 ^ i else 0) + writersOf t r (i + 1)
/-- Are all of a mask in order with i? (n: how many operations) -/
def inOrder (A : List Nat) (i m : Nat) : Nat → Bool
  | 0 => true
  | j + 1 => (if m.testBit j && j != i && !(A.getD i 0).testBit j then (A.getD j 0).testBit i else true) && inOrder A i m j
/-- Each temporary is written by operations alone that are in order with all that name it. -/
def tmpsOk (ops : List Oper) (A : List Nat) (n : Nat) : List Oper → Nat → Bool
  | [], _ => true
  | o :: r, i => ((namesOf ops o).all fun t => let m := writersOf t ops 0; m &&& (2 ^ i ||| A.getD i 0) == m || inOrder A i m n) && tmpsOk ops A n r (i + 1)
def edgesOk : List Oper → Nat → Bool
  | [], _ => true
  | o :: r, i => ((edgesOf o).all fun e => e < i) && edgesOk r (i + 1)
section
variable (P : Program) (C : Cx)
noncomputable def dlW (ops : List Oper) (A : List Nat) (depm : Nat) : List Nat → Nat → DL
  | [], _ => .nil
  | i :: r, done =>
    let o := ops.getD i default
    let x := done &&& depm
    let chk := if isWr (opW P C o.op) then x ^^^ (x &&& A.getD i 0) else x
    let rest := dlW ops A depm r (done ||| 2 ^ i)
    match (match o.dst with | none => some Dst.drop | some t => if C.glob t then (match regW t with | .mk _ s => some (.env s)) else none), o.guard with
    | some d, none => .cons i none d (opW P C o.op) chk rest
    | some d, some (j, w) => match guardW C ops j with
      | some g => .cons i (some (g, w)) d (opW P C o.op) chk rest
      | none => .bad
    | none, _ => .bad
noncomputable def maskW (f : OpW → Bool) : List Oper → Nat → Nat
  | [], _ => 0
  | o :: r, i => (if f (opW P C o.op) then 2 ^ i else 0) + maskW f r (i + 1)
noncomputable def dregW (ops : List Oper) : Option DL :=
  let A := ancs ops []
  let n := ops.length
  let wm := maskW P C isWr ops 0
  let ord := orderF A ((List.range n).filter fun i => wm.testBit i) ((List.range n).filter fun i => !wm.testBit i) wm
  if orderOk A wm ord 0 0 && ord.length == n && (ord.all fun i => decide (i < n)) && edgesOk ops 0 && tmpsOk ops A n ops 0 then some (dlW P C ops A (maskW P C isDep ops 0) ord 0) else none
end

/-- Reads that have been made: number, read, temporaries, answer. -/
inductive WL | nil | cons (i : Nat) (f : RdF) (t : Regs) (v : AV) (r : WL)
noncomputable def isAggA (v : AV) : Bool := v.asAgg fun _ _ => true
noncomputable def isTupA (v : AV) : Bool := v.asTup fun _ => true
noncomputable def isPtrA (v : AV) : Bool := v.asPtr fun _ _ => true
noncomputable def isMpA (v : AV) : Bool := v.asMp true fun _ => true
noncomputable def isSlA (v : AV) : Bool := v.asSl true fun _ _ _ _ _ _ => true
noncomputable def isNpA (v : AV) : Bool := v.isNilP fun _ => true
noncomputable def isNfA (v : AV) : Bool := v.isNilF fun _ => true
/-- The same value. -/
noncomputable def AV.eqK : AV → AV → Bool :=
  AV.rec (motive := fun _ => AV → Bool)
    (fun b => match b with | .undef => true | _ => false)
    (fun x b => match b with | .bool y => Bool.not (Bool.xor x y) | _ => false)
    (fun q n b => match b with | .nat q' n' => sel (kEq q q') (Nat.beq n n') false | _ => false)
    (fun q n b => match b with | .neg q' n' => sel (kEq q q') (Nat.beq n n') false | _ => false)
    (fun n N b => match b with | .str n' N' => sel (Nat.beq n n') (Nat.beq N N') false | _ => false)
    (fun b => match b with | .opq => true | _ => false)
    (fun b => match b with | .pnil => true | _ => false)
    (fun β n b => match b with | .ptr β' n' => Ad.beqK β β' (Nat.beq n n') false | _ => false)
    (fun b => match b with | .snil => true | _ => false)
    (fun β o l ex c es b => match b with | .slice β' o' l' ex' c' es' => Ad.beqK β β' (sel (Nat.beq o o') (sel (Nat.beq l l') (sel (Bool.xor ex ex') false (sel (Nat.beq c c') (Nat.beq es es') false)) false) false) false | _ => false)
    (fun b => match b with | .mnil => true | _ => false)
    (fun β b => match b with | .map β' => Ad.beqK β β' true false | _ => false)
    (fun b => match b with | .fnil => true | _ => false)
    (fun f _ ih b => match b with | .func f' c' => sel (Nat.beq f f') (ih c') false | _ => false)
    (fun β b => match b with | .yield β' => Ad.beqK β β' true false | _ => false)
    (fun b => match b with | .inil => true | _ => false)
    (fun t _ ih b => match b with | .iface t' v' => sel (Nat.beq t t') (ih v') false | _ => false)
    (fun n _ ih b => match b with | .agg n' c' => sel (Nat.beq n n') (ih c') false | _ => false)
    (fun _ ih b => match b with | .tup l' => ih l' | _ => false)
    (fun b => match b with | .nil => true | _ => false)
    (fun _ _ ih1 ih2 b => match b with | .cons a' l' => sel (ih1 a') (ih2 l') false | _ => false)
    (fun b => match b with | .r0 => true | _ => false)
    (fun _ ih b => match b with | .r1 v' => ih v' | _ => false)
    (fun n N b => match b with | .rb n' N' => sel (Nat.beq n n') (Nat.beq N N') false | _ => false)
    (fun h _ _ ih1 ih2 b => match b with | .rn h' l' r' => sel (Nat.beq h h') (sel (ih1 l') (ih2 r') false) false | _ => false)
/-- Are two values alike, whatever lies behind them? -/
noncomputable def avSc (a b : AV) (k : Bool) : Bool :=
  sel (isIntA a) (a.asInt fun p x => b.asInt fun q y => sel (kEq p q) (sel (eqI x y) k false) false)
  (sel (isPtrA a) (a.asPtr fun β o => b.asPtr fun γ q => Ad.beqK β γ (sel (Nat.beq o q) k false) false)
  (sel (isBoolA a) (a.asBool fun x => b.asBool fun y => sel (Bool.xor x y) false k)
  (sel (isSlA a) (a.asSl (b.asSl k fun _ _ _ _ _ _ => false) fun β o l e c s => b.asSl false fun γ o' l' e' c' s' =>
      Ad.beqK β γ (sel (Nat.beq o o') (sel (Nat.beq l l') (sel (Bool.xor e e') false (sel (Nat.beq c c') (sel (Nat.beq s s') k false) false)) false) false) false)
  (sel (isAggA a) (a.asAgg fun n c => b.asAgg fun m d => sel (Nat.beq n m) (sel (isRb c) (c.asRb fun n' N => d.asRb fun m' M => sel (Nat.beq n' m') (sel (Nat.beq N M) k false) false) (aggEqK c d (fun b => sel b k false) n true)) false)
  (sel (isStrA a) (a.asStr fun n N => b.asStr fun m M => sel (strEq n N m M) k false)
  (sel (isMpA a) (a.asMp (b.asMp k fun _ => false) fun β => b.asMp false fun γ => Ad.beqK β γ k false)
  (sel (isNpA a) (a.isNilP fun x => b.isNilP fun y => sel x (sel y k false) false)
  (sel (isNfA a) (a.isNilF fun x => b.isNilF fun y => sel x (sel y k false) false)
    (a.isNilI fun x => b.isNilI fun y => sel x (sel y k false) false)))))))))
noncomputable def avEq (a b : AV) (k : Bool) : Bool := sel (AV.eqK a b) k
  (sel (isTupA a) (a.asTup fun l => b.asTup fun m => l.asCons false fun x l => m.asCons false fun y m => l.asCons false fun z l => m.asCons false fun u m =>
      l.asCons (m.asCons (z.asBool fun z => u.asBool fun u => sel (Bool.xor z u) false (avSc x y k)) fun _ _ => false) fun _ _ => false)
    (avSc a b k))
noncomputable def WL.again (chk : Nat) (σ : Hp) (k : Bool) : WL → Bool :=
  WL.rec (motive := fun _ => Bool) k (fun i f t v _ ih => sel (Nat.testBit chk i) (f t .nil σ fun u => avEq v u ih) ih)
noncomputable def putR (d : Dst) (v : AV) (t : Regs) (k : Regs → Bool) : Bool :=
  Dst.rec (motive := fun _ => Bool) (fun s => s t v k) false (k t) d
noncomputable def DL.one (ih : Lv) (i : Nat) (d : Dst) (o : OpW) (chk : Nat) (rest : Regs → Hp → WL → KO → Bool) (t : Regs) (σ : Hp) (ws : WL) (k : KO) : Bool :=
  OpW.rec (motive := fun _ => Bool)
    (fun f dep => f t .nil σ fun v => putR d v t fun t' => sel dep (rest t' σ (.cons i f t v ws) k) (rest t' σ ws k))
    (fun f => f t .nil fun b mk => σ.newK b fun β σ => WL.again chk σ (putR d (mk β) t fun t => rest t σ ws k) ws)
    (fun f => f ih t .nil σ fun v σ => WL.again chk σ (putR d v t fun t => rest t σ ws k) ws)
    false o
noncomputable def DL.run (ih : Lv) : DL → Regs → Hp → WL → KO → Bool :=
  DL.rec (motive := fun _ => Regs → Hp → WL → KO → Bool) (fun t σ _ k => k t σ)
    (fun i g d o chk _ rest t σ ws k =>
      Option.rec (motive := fun _ => Bool) (DL.one ih i d o chk rest t σ ws k)
        (fun x => Prod.rec (motive := fun _ => Bool) (fun g w => guardK g w t .nil (putR d .undef t fun t => rest t σ ws k) (DL.one ih i d o chk rest t σ ws k)) x) g)
    (fun _ _ _ _ => false)

/-! ### Code -/
abbrev KC := AExit → Regs → List Ad → Hp → Bool
abbrev CodeF := Lv → Nat → Option Ad → Regs → List Ad → Hp → KC → Bool
inductive CodeW | mk (f : CodeF)
noncomputable def CodeW.run : CodeW → CodeF := CodeW.rec (motive := fun _ => CodeF) (fun f => f)
noncomputable def cSeq (a b : CodeW) : CodeF := fun ih fn rd t d σ k => a.run ih fn rd t d σ fun e t d σ => AExit.caseK (b.run ih fn rd t d σ k) (fun id => k (.exit id) t d σ) (k .ret t d σ) e
noncomputable def cCond (c : OpdF) (a b : CodeW) : CodeF := fun ih fn rd t d σ k => (c t .nil).asBool fun c => sel c (a.run ih fn rd t d σ k) (b.run ih fn rd t d σ k)
noncomputable def cBlock (id : Nat) (a : CodeW) : CodeF := fun ih fn rd t d σ k => a.run ih fn rd t d σ fun e t d σ =>
  AExit.caseK (k .normal t d σ) (fun id' => sel (Nat.beq id id') (k .normal t d σ) (k (.exit id') t d σ)) (k .ret t d σ) e
noncomputable def cLoop (c : Code) (a : CodeW) : CodeF := fun ih fn rd t d σ k => a.run ih fn rd t d σ fun e t d σ =>
  AExit.caseK (ih.code (.loop c) fn rd t d σ k) (fun id => k (.exit id) t d σ) (k .ret t d σ) e
noncomputable def Jump.caseK (nrm : Bool) (ex : Nat → Bool) (rt : Bool) : Jump → Bool := Jump.rec (motive := fun _ => Bool) nrm ex rt
noncomputable def callfK (ih : Lv) (f args : AV) (σ : Hp) (k : KV) : Bool :=
  f.asFn (fun f cap => cap.asCons false fun fs cs => AV.appK cs args fun a => AV.appK a fs fun a => ih.call f a σ k) fun _ => false
noncomputable def rangeGo (f : AV) (ps : List Nat) (as body : Code) (ih : Lv) (fn : Nat) (t : Regs) (k : KC) (df : Ad) (d : List Ad) (σ : Hp) : Bool :=
  σ.newK (.loop 0 .none fn t ps as body df) fun β σ => callfK ih f (.cons (.yield β) .nil) σ fun _ σ =>
    σ.getK β fun b => b.loopK fun st j fn' t' ps' as' body' df' => sel (Nat.beq st 1) false (σ.setK β .dead fun σ =>
      Jump.caseK (k .normal t d σ) (fun id => k (.exit id) t d σ) (k .ret t d σ) j)
noncomputable def cRange (f : OpdF) (ps : List Nat) (as body : Code) : CodeF := fun ih fn rd t d σ k =>
  Option.rec (motive := fun _ => Bool) (σ.newK (.defr true) fun df σ => rangeGo (f t .nil) ps as body ih fn t k df (.cons df d) σ)
    (fun l => σ.getK l fun b => b.loopK fun _ _ _ _ _ _ _ df => rangeGo (f t .nil) ps as body ih fn t k df d σ) rd
noncomputable def codeW (P : Program) (C : Cx) : Code → CodeW :=
  Code.rec (motive := fun _ => CodeW)
    (.mk fun _ _ _ t d σ k => k .normal t d σ)
    (fun _ ops draw => Bool.rec (motive := fun _ => CodeW) (opsCode (opsW P ops.toList C ops.toList)) (Option.rec (motive := fun _ => CodeW) bad drawCode (dregW P C ops.toList)) draw)
    (fun _ _ a b => .mk (cSeq a b))
    (fun c _ _ a b => Option.rec (motive := fun _ => CodeW) bad (fun c => .mk (cCond c a b)) (unW (opdW C c)))
    (fun id _ a => .mk (cBlock id a))
    (fun c a => .mk (cLoop c a))
    (fun f ps as body _ _ => Option.rec (motive := fun _ => CodeW) bad (fun f => if ps.toList.all C.glob then .mk (cRange f ps.toList as body) else bad) (unW (opdW C f)))
    (fun id => .mk fun _ _ _ t d σ k => k (.exit id) t d σ)
    (fun _ _ => bad) (fun _ => bad) (fun _ => bad)
    (.mk fun _ _ _ t d σ k => k .ret t d σ)
    (fun _ => bad) where
  bad : CodeW := .mk fun _ _ _ _ _ _ _ => false
  opsCode (l : OpsW) : CodeW := .mk fun ih _ _ t d σ k => l.run ih t .nil σ fun t σ => k .normal t d σ
  drawCode (l : DL) : CodeW := .mk fun ih _ _ t d σ k => l.run ih t σ .nil fun t σ => k .normal t d σ

/-! ### Functions -/
def maskOf (l : List Tmp) : Nat := l.foldl (fun m t => m ||| 2 ^ t) 0
def tmpsOf (x : Operand) : Nat := match x with | .tmp t => 2 ^ t | _ => 0
/-- Which temporaries operations name, and which are set twice. -/
def regMask (ops : List Oper) : List Oper → Nat → Nat → Nat → Nat × Nat
  | [], m, _, tw => (m, tw)
  | o :: r, m, ds, tw =>
    let d := match o.dst with | some t => 2 ^ t | none => 0
    let u := o.op.operands.toList.foldl (fun m x => m ||| tmpsOf x) 0
    let g := match o.guard with | some (j, _) => (match (ops[j]?).bind (·.dst) with | some t => 2 ^ t | none => 0) | none => 0
    regMask ops r (m ||| d ||| u ||| g) (ds ||| d) (tw ||| (ds &&& d))
/-- (named, named in more than one place) -/
def useMask : Code → Nat × Nat → Nat × Nat
  | .region _ ops draw, (s, m) => let (u, tw) := regMask ops.toList ops.toList 0 0 0; (s ||| u, m ||| (s &&& u) ||| tw ||| (if draw then u else 0))
  | .seq a b, x => useMask b (useMask a x)
  | .cond c a b, (s, m) => useMask b (useMask a (s, m ||| tmpsOf c))
  | .block _ a, x => useMask a x
  | .loop a, x => useMask a x
  | .rangeFunc f ps a b, (s, m) => useMask b (useMask a (s, m ||| tmpsOf f ||| maskOf ps.toList))
  | .scope a, x => useMask a x
  | _, x => x
def globMask (fn : Func) (b : Code) : Nat :=
  (useMask b (0, 2 ^ fn.params.size - 1 + fn.results.toList.foldl (fun m r => m ||| 2 ^ (match r with | .tmp t => t | .cell t _ => t)) 0)).2 ||| (2 ^ (fn.params.size + fn.nfree) - 1)
inductive ResW | nil | cons (f : RdF) (r : ResW)
noncomputable def resW (P : Program) (C : Cx) : List ResultVar → Option ResW
  | [] => some .nil
  | .tmp t :: r => match unW (tmpW C t), resW P C r with
    | some x, some r => some (.cons (fun t ls _ k => k (x t ls)) r)
    | _, _ => none
  | .cell a t :: r => match unW (tmpW C a), aggOf P t, szOf P t, resW P C r with
    | some x, some true, some n, some r => some (.cons (rLoadN n x) r)
    | some x, some false, some _, some r => some (.cons (rLoad1 x) r)
    | _, _, _, _ => none
noncomputable def ResW.ev : ResW → Regs → Hp → (AV → Bool) → Bool :=
  ResW.rec (motive := fun _ => Regs → Hp → (AV → Bool) → Bool) (fun _ _ k => k .nil) (fun f _ ih t σ k => f t .nil σ fun v => ih t σ fun l => k (.cons v l))
noncomputable def ResW.out (r : ResW) : Regs → Hp → (AV → Bool) → Bool :=
  ResW.rec (motive := fun _ => Regs → Hp → (AV → Bool) → Bool) (fun _ _ k => k .undef)
    (fun f r _ => ResW.rec (motive := fun _ => Regs → Hp → (AV → Bool) → Bool) (fun t σ k => f t .nil σ k) (fun _ _ _ t σ k => f t .nil σ fun v => r.ev t σ fun l => k (.tup (.cons v l))) r) r
inductive FnW | mk (c : CodeW) (r : ResW)
noncomputable def cxOf (P : Program) (f : Nat) : Cx :=
  match P.funcs[f]? with
  | some fn => ⟨fn.ntmps, match fn.body with | some b => globMask fn b | none => 0, [], 0⟩
  | none => ⟨0, 0, [], 0⟩
noncomputable def fnW (P : Program) (f : Nat) : Option FnW :=
  match P.funcs[f]? with
  | some fn => match fn.body, resW P (cxOf P f) fn.results.toList with
    | some b, some r => if (fn.name == "runtime.NumGoroutine") then none else some (.mk (codeW P (cxOf P f) b) r)
    | _, _ => none
  | none => none
noncomputable def marksK : List Ad → Hp → (Hp → Bool) → Bool :=
  List.rec (motive := fun _ => Hp → (Hp → Bool) → Bool) (fun σ k => k σ) (fun β _ ih σ k => σ.getK β fun b => b.defrK fun o => sel o (σ.setK β (.defr false) fun σ => ih σ k) false)
/-- A row's values, into registers from one on (d: rounds). -/
noncomputable def argsK (d : Nat) : AV → Nat → Regs → (Regs → Bool) → Bool :=
  Nat.rec (motive := fun _ => AV → Nat → Regs → (Regs → Bool) → Bool) (fun _ _ _ _ => false)
    (fun _ ih a i t k => a.asCons (k t) fun v r => (regW i).setK t v fun t => ih r (i + 1) t k) d
abbrev SumF := AV → Hp → KV → Bool
noncomputable def enterK (ih : Lv) (f : Nat) (w : FnW) (args : AV) (σ : Hp) (k : KV) : Bool :=
  FnW.rec (motive := fun _ => Bool) (fun c r => argsK 256 args 0 (.all (.all (.all .undef))) fun t => c.run ih f none t [] σ fun e t d σ =>
    AExit.caseK (marksK d σ fun σ => r.out t σ fun v => k v σ) (fun _ => false) (marksK d σ fun σ => r.out t σ fun v => k v σ) e) w
noncomputable def nextLv (P : Program) (S : Nat → Option SumF) (ih : Lv) : Lv where
  call f args σ k := Option.rec (motive := fun _ => Bool) (Option.rec (motive := fun _ => Bool) false (fun w => enterK ih f w args σ k) (fnW P f)) (fun F => F args σ k) (S f)
  code c fn rd t d σ k := (codeW P (cxOf P fn) c).run ih fn rd t d σ k
noncomputable def lv (P : Program) (S : Nat → Option SumF) : Nat → Lv :=
  Nat.rec (motive := fun _ => Lv) ⟨fun _ _ _ _ => false, fun _ _ _ _ _ _ _ => false⟩ (fun _ ih => nextLv P S ih)
end Go.Am
