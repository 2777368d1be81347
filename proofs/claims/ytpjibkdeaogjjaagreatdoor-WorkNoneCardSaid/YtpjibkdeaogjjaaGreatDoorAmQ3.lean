import Derived.Test.YtpjibkdeaogjjaaGreatDoorAmQ2
import Derived.Test.YtpjibkdeaogjjaaGreatDoorAmS26
set_option linter.unusedVariables false
set_option linter.unusedSimpArgs false
/-! Soundness in another form, 3: loops over maps, in whatever order: the machine. -/
namespace Go.Am
open Go
section
variable (P : Program)
/-- Operations ahead of others (s): what they are, and what is bound behind them. -/
noncomputable def opsL (all s : List Oper) : Cx → List Oper → Option (OpsW × Cx)
  | C, [] => some (.nil, C)
  | C, o :: r => match aliasOf C all o (r ++ s) with
    | some b => opsL all s { C with binds := b :: C.binds } r
    | none => match dstW C o.dst, o.guard with
      | some (d, C'), none => match opsL all s C' r with
        | some (w, C2) => some (consW d (opW P C o.op) w, C2)
        | none => none
      | some (d, C'), some (j, w0) => match guardW C all j, opsL all s C' r with
        | some g, some (w, C2) => some (.grd g w0 d (opW P C o.op) w, C2)
        | _, _ => none
      | none, _ => none
end
noncomputable def OpsW.runL (ih : Lv) (l : OpsW) : Regs → Ls → Hp → (Regs → Ls → Hp → Bool) → Bool :=
  OpsW.rec (motive := fun _ => Regs → Ls → Hp → (Regs → Ls → Hp → Bool) → Bool) (fun t ls σ k => k t ls σ)
    (fun f _ rest t ls σ k => f t ls σ fun v => rest t (.cons v ls) σ k)
    (fun s f _ rest t ls σ k => f t ls σ fun v => s t v fun t => rest t ls σ k)
    (fun d o _ rest t ls σ k => o.run ih t ls σ fun v σ => putK d v t ls fun t ls => rest t ls σ k)
    (fun g w d o _ rest t ls σ k => guardK g w t ls (putK d .undef t ls fun t ls => rest t ls σ k) (o.run ih t ls σ fun v σ => putK d v t ls fun t ls => rest t ls σ k))
    (fun _ _ _ _ => false) l
/-- Is nothing grown out of a block? -/
noncomputable def leafNo (β : Ad) (o : Option Blk) : Bool :=
  Option.rec (motive := fun _ => Bool) true (fun b => Blk.rec (motive := fun _ => Bool) (fun _ _ _ _ _ olds => List.rec (motive := fun _ => Bool) true (fun _ _ _ => Bool.not (hasK β olds)) olds) (fun _ => true) (fun _ _ _ _ _ _ _ _ => true) (fun _ => true) true b) o
noncomputable def every8 {α : Type} (f : α → Bool) (t : R8 α) : Bool :=
  R8.rec (motive := fun _ => Bool) (fun a0 a1 a2 a3 a4 a5 a6 a7 => sel (f a0) (sel (f a1) (sel (f a2) (sel (f a3) (sel (f a4) (sel (f a5) (sel (f a6) (f a7) false) false) false) false) false) false) false) t
noncomputable def Hp.noOlds (σ : Hp) (β : Ad) : Bool := every8 (every8 (every8 (every8 (every8 (leafNo β))))) σ.t
/-- Each entry, with the others. -/
noncomputable def AMap.picksK (all : Bool) (f : AV → AV → AMap → Bool) (m : AMap) : (AMap → AMap) → Bool :=
  AMap.rec (motive := fun _ => (AMap → AMap) → Bool) (fun _ => true) (fun a v r ih pre => sel all (sel (f a v (pre r)) (ih fun x => pre (.cons a v x)) false) (f a v (pre r))) m
/-- A loop over a map: operations ahead of it, the map, the iterator; the round's head: whether there is one more; the entry; the rest of the round. -/
inductive MU | mk (it : Nat) (init : OpsW) (fx fit : OpdF) (dn : Dst) (hdr : OpsW) (ftok : OpdF) (de : Dst) (ent : OpsW) (bid b2 : Nat) (Y : Code)
def lastOf : List Oper → Option (List Oper × Oper)
  | [] => none
  | [o] => some ([], o)
  | o :: p :: r => match lastOf (p :: r) with | some (l, q) => some (o :: l, q) | none => none
def entOf : Code → Option (List Oper × Code)
  | .seq (.region _ ops false) Y => some (ops.toList, Y)
  | _ => none
def rangeOp : Oper → Option (Nat × TypeId × Operand)
  | ⟨some it, .range T X, _, _, _, none⟩ => some (it, T, X)
  | _ => none
def nextOp : Oper → Option (Nat × Nat)
  | ⟨some tn, .next (.tmp it) false, _, _, _, none⟩ => some (tn, it)
  | _ => none
def entryOp : Oper → Option (Nat × Nat)
  | ⟨some te, .entry (.tmp it), _, _, _, none⟩ => some (te, it)
  | _ => none
def loopShape : Code → Code → Option (List Oper × List Oper × Nat × Code × Nat × Nat)
  | .region _ ops1 false, .block bid (.loop (.seq (.region _ ops2 false) (.seq (.cond (.tmp tok) .skip (.exit bid')) (.block b2 Z)))) =>
    if bid = bid' then some (ops1.toList, ops2.toList, tok, Z, bid, b2) else none
  | _, _ => none
def mapTy (P : Program) (T : TypeId) : Bool := match P.underlying T with | some (.map _ _) => true | _ => false
noncomputable def mapW (P : Program) (C : Cx) (x y : Code) : Option MU :=
  match loopShape x y with
  | none => none
  | some (ops1, ops2, tok, Z, bid, b2) => match lastOf ops1, ops2, entOf Z with
    | some (init, last), hd :: r2, some (en :: r3, Y) => match rangeOp last, nextOp hd, entryOp en with
      | some (it, T, X), some (tn, it1), some (te, it2) => if it = it1 ∧ it = it2 ∧ C.glob it = true ∧ C.glob tok = true ∧ mapTy P T = true then
          match opsL P ops1 [last] C init with
          | some (W, C1) => match unW (opdW C1 X), dstW C (some tn), dstW C (some te), unW (tmpW C tok), unW (tmpW C it) with
            | some fx, some (dn, Cn), some (de, Ce), some ftok, some fit => some (.mk it W fx fit dn (opsW P ops2 Cn r2) ftok de (opsW P (en :: r3) Ce r3) bid b2 Y)
            | _, _, _, _, _ => none
          | none => none
        else none
      | _, _, _ => none
    | _, _, _ => none
noncomputable def hereK (fit : OpdF) (α : Ad) (t : Regs) (k : Bool) : Bool := (fit t .nil).asPtr fun γ o => Ad.beqK α γ (sel (Nat.beq o 0) k false) false
noncomputable def doneK (fit : OpdF) (α : Ad) (dn : Dst) (hdr : OpsW) (ftok : OpdF) (ih : Lv) (t : Regs) (σ : Hp) (k : Regs → Hp → Bool) : Bool :=
  hereK fit α t (putK dn (.tup (.cons (.bool false) .nil)) t .nil fun t ls => hdr.run ih t ls σ fun t σ => (ftok t .nil).asBool fun c => sel c false (k t σ))
noncomputable def stepK (fit : OpdF) (α : Ad) (dn : Dst) (hdr : OpsW) (ftok : OpdF) (de : Dst) (ent : OpsW) (b2 : Nat) (Y : Code) (ih : Lv) (fn : Nat) (rd : Option Ad) (a v : AV) (t : Regs) (d : List Ad) (σ : Hp) (k : KC) : Bool :=
  hereK fit α t (putK dn (.tup (.cons (.bool true) (.cons a (.cons v .nil)))) t .nil fun t ls => hdr.run ih t ls σ fun t σ => (ftok t .nil).asBool fun c => sel c
    (hereK fit α t (putK de (.tup (.cons a (.cons v .nil))) t .nil fun t ls => ent.run ih t ls σ fun t σ => ih.code Y fn rd t d σ fun e t d σ =>
      AExit.caseK (k .normal t d σ) (fun id => sel (Nat.beq b2 id) (k .normal t d σ) (k (.exit id) t d σ)) (k .ret t d σ) e)) false)
noncomputable def goK (all : Bool) (done : Regs → Hp → (Regs → Hp → Bool) → Bool) (step : AV → AV → Regs → List Ad → Hp → KC → Bool) (fin : Hp → (Hp → Bool) → Bool) (bid : Nat) (k : KC) : Nat → AMap → Regs → List Ad → Hp → Bool :=
  Nat.rec (motive := fun _ => AMap → Regs → List Ad → Hp → Bool) (fun _ _ _ _ => false)
    (fun _ rest m t d σ => AMap.rec (motive := fun _ => Bool) (done t σ fun t σ => fin σ fun σ => k .normal t d σ)
      (fun _ _ _ _ => m.picksK all (fun a v r => step a v t d σ fun e t d σ =>
        AExit.caseK (rest r t d σ) (fun id => fin σ fun σ => sel (Nat.beq bid id) (k .normal t d σ) (k (.exit id) t d σ)) (fin σ fun σ => k .ret t d σ) e) fun x => x) m)
noncomputable def finK (β : Ad) (m : AMap) (σ : Hp) (k : Hp → Bool) : Bool := sel (σ.noOlds β) (σ.setK β (.mp m) k) false
noncomputable def mapCode (all : Bool) (u : MU) : CodeF := fun ih fn rd t d σ k =>
  MU.rec (motive := fun _ => Bool) (fun it init fx fit dn hdr ftok de ent bid b2 Y =>
    init.runL ih t .nil σ fun t ls σ => (fx t ls).asMp
      (σ.newK .dead fun α σ => (regW it).setK t (.ptr α 0) fun t => doneK fit α dn hdr ftok ih t σ fun t σ => k .normal t d σ)
      fun β => σ.mpK β fun m => σ.newK .dead fun α σ => σ.setK β .dead fun σ => (regW it).setK t (.ptr α 0) fun t =>
        goK all (doneK fit α dn hdr ftok ih) (fun a v t d σ k => stepK fit α dn hdr ftok de ent b2 Y ih fn rd a v t d σ k) (finK β m) bid k 64 m t d σ) u
noncomputable def unitQ (P : Program) (all : Bool) : Nat → Code → Code → Option CodeW := fun fn x y => match mapW P (cxOf P fn) x y with | some u => some (.mk (mapCode all u)) | none => none
end Go.Am
