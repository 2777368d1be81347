import Derived.Test.YtfdbmpokhfjdoaaGreatDoorAmS20
set_option linter.unusedVariables false
set_option linter.unusedSimpArgs false
/-! Soundness, 21: regions that draw their order: what the one order that is run shows. -/
namespace Go.Am
open Go
/-! ### Likeness -/
theorem beqK_true {p q : Ad} {x : Bool} (h : Ad.beqK p q x false = true) : p = q ∧ x = true := by
  rw [Ad.beqK_eq] at h
  split at h
  · rename_i e; exact ⟨e, h⟩
  · cases h
theorem xorK_true {x y k : Bool} (h : sel (Bool.xor x y) false k = true) : x = y ∧ k = true := by
  cases x <;> cases y <;> simp_all [sel]
theorem nxor_true {x y : Bool} (h : Bool.not (Bool.xor x y) = true) : x = y := by
  cases x <;> cases y <;> simp_all
theorem kEq_true {q q' : IntKind} (h : kEq q q' = true) : q = q' := by
  rw [kEq_eq, decide_eq_true_iff] at h; exact h
theorem AV.eqK_true : ∀ {a b : AV}, AV.eqK a b = true → a = b := by
  intro a
  induction a with
  | undef => intro b h; cases b <;> first | rfl | cases h
  | bool x => intro b h; cases b <;> first | cases h; done | skip
              rename_i y; rw [nxor_true (x := x) (y := y) h]
  | nat q n => intro b h; cases b <;> first | cases h; done | skip
               rename_i q' n'; obtain ⟨h1, h2⟩ := sel_yes (show sel (kEq q q') (Nat.beq n n') false = true from h); rw [kEq_true h1, Nat.eq_of_beq_eq_true h2]
  | neg q n => intro b h; cases b <;> first | cases h; done | skip
               rename_i q' n'; obtain ⟨h1, h2⟩ := sel_yes (show sel (kEq q q') (Nat.beq n n') false = true from h); rw [kEq_true h1, Nat.eq_of_beq_eq_true h2]
  | str n N => intro b h; cases b <;> first | cases h; done | skip
               rename_i n' N'; obtain ⟨h1, h2⟩ := sel_yes (show sel (Nat.beq n n') (Nat.beq N N') false = true from h); rw [Nat.eq_of_beq_eq_true h1, Nat.eq_of_beq_eq_true h2]
  | opq => intro b h; cases b <;> first | rfl | cases h
  | pnil => intro b h; cases b <;> first | rfl | cases h
  | ptr β n => intro b h; cases b <;> first | cases h; done | skip
               rename_i β' n'; obtain ⟨h1, h2⟩ := beqK_true (show Ad.beqK β β' (Nat.beq n n') false = true from h); rw [h1, Nat.eq_of_beq_eq_true h2]
  | snil => intro b h; cases b <;> first | rfl | cases h
  | slice β o l ex c es =>
    intro b h; cases b <;> first | cases h; done | skip
    rename_i β' o' l' ex' c' es'
    obtain ⟨h1, h2⟩ := beqK_true (show Ad.beqK β β' (sel (Nat.beq o o') (sel (Nat.beq l l') (sel (Bool.xor ex ex') false (sel (Nat.beq c c') (Nat.beq es es') false)) false) false) false = true from h)
    obtain ⟨h3, h4⟩ := sel_yes h2
    obtain ⟨h5, h6⟩ := sel_yes h4
    obtain ⟨h7, h8⟩ := xorK_true h6
    obtain ⟨h9, h10⟩ := sel_yes h8
    rw [h1, Nat.eq_of_beq_eq_true h3, Nat.eq_of_beq_eq_true h5, h7, Nat.eq_of_beq_eq_true h9, Nat.eq_of_beq_eq_true h10]
  | mnil => intro b h; cases b <;> first | rfl | cases h
  | map β => intro b h; cases b <;> first | cases h; done | skip
             rename_i β'; rw [(beqK_true (show Ad.beqK β β' true false = true from h)).1]
  | fnil => intro b h; cases b <;> first | rfl | cases h
  | func f c ih => intro b h; cases b <;> first | cases h; done | skip
                   rename_i f' c'; obtain ⟨h1, h2⟩ := sel_yes (show sel (Nat.beq f f') (AV.eqK c c') false = true from h); rw [Nat.eq_of_beq_eq_true h1, ih h2]
  | yield β => intro b h; cases b <;> first | cases h; done | skip
               rename_i β'; rw [(beqK_true (show Ad.beqK β β' true false = true from h)).1]
  | inil => intro b h; cases b <;> first | rfl | cases h
  | iface t v ih => intro b h; cases b <;> first | cases h; done | skip
                    rename_i f' c'; obtain ⟨h1, h2⟩ := sel_yes (show sel (Nat.beq t f') (AV.eqK v c') false = true from h); rw [Nat.eq_of_beq_eq_true h1, ih h2]
  | agg n c ih => intro b h; cases b <;> first | cases h; done | skip
                  rename_i f' c'; obtain ⟨h1, h2⟩ := sel_yes (show sel (Nat.beq n f') (AV.eqK c c') false = true from h); rw [Nat.eq_of_beq_eq_true h1, ih h2]
  | tup l ih => intro b h; cases b <;> first | cases h; done | skip
                rename_i l'; rw [ih (show AV.eqK l l' = true from h)]
  | nil => intro b h; cases b <;> first | rfl | cases h
  | cons a l ih1 ih2 => intro b h; cases b <;> first | cases h; done | skip
                        rename_i a' l'; obtain ⟨h1, h2⟩ := sel_yes (show sel (AV.eqK a a') (AV.eqK l l') false = true from h); rw [ih1 h1, ih2 h2]
  | r0 => intro b h; cases b <;> first | rfl | cases h
  | r1 v ih => intro b h; cases b <;> first | cases h; done | skip
               rename_i l'; rw [ih (show AV.eqK v l' = true from h)]
  | rb n N => intro b h; cases b <;> first | cases h; done | skip
              rename_i n' N'; obtain ⟨h1, h2⟩ := sel_yes (show sel (Nat.beq n n') (Nat.beq N N') false = true from h); rw [Nat.eq_of_beq_eq_true h1, Nat.eq_of_beq_eq_true h2]
  | rn m l r ih1 ih2 =>
    intro b h; cases b <;> first | cases h; done | skip
    rename_i m' l' r'
    obtain ⟨h1, h2⟩ := sel_yes (show sel (Nat.beq m m') (sel (AV.eqK l l') (AV.eqK r r') false) false = true from h)
    obtain ⟨h3, h4⟩ := sel_yes h2
    rw [Nat.eq_of_beq_eq_true h1, ih1 h3, ih2 h4]
theorem cellEq_true {a b : AV} {k : Bool → Bool} (h : cellEq a b k = true) : ∃ e, k e = true ∧ (e = true → a = b) := by
  unfold cellEq at h
  rw [sel_true_iff] at h
  rcases h with ⟨_, h_1⟩ | ⟨_, h_1⟩
  · obtain ⟨x, rfl, h_2⟩ := AV.asBool_true h_1
    obtain ⟨y, rfl, h_3⟩ := AV.asBool_true h_2
    rw [boolK_eq] at h_3
    exact ⟨_, h_3, fun e => by cases x <;> cases y <;> simp_all⟩
  · obtain ⟨e, h1, h2, _⟩ := keyEq_true h_1
    exact ⟨e, h1, h2.1⟩
theorem aggEqK_all {c d : AV} {kk : Bool} : ∀ (n : Nat) (b : Bool), aggEqK c d (fun b => sel b kk false) n b = true → kk = true ∧ b = true ∧ ∀ i, i < n → ∃ x, c.rget i = some x ∧ d.rget i = some x := by
  intro n
  induction n with
  | zero =>
    intro b h
    have h' : sel b kk false = true := h
    obtain ⟨h1, h2⟩ := sel_yes h'
    exact ⟨h2, h1, fun i hi => absurd hi (Nat.not_lt_zero _)⟩
  | succ n ih =>
    intro b h
    have h' : AV.rgetK (fun x => AV.rgetK (fun y => cellEq x y fun e => sel e (aggEqK c d (fun b => sel b kk false) n b) (aggEqK c d (fun b => sel b kk false) n false)) d n) c n = true := h
    obtain ⟨x, h1, h'⟩ := AV.rgetK_true h'
    obtain ⟨y, h2, h'⟩ := AV.rgetK_true h'
    obtain ⟨e, h', h3⟩ := cellEq_true h'
    rw [sel_true_iff] at h'
    rcases h' with ⟨he, h'⟩ | ⟨_, h'⟩
    · obtain ⟨q1, q2, q3⟩ := ih _ h'
      refine ⟨q1, q2, fun i hi => ?_⟩
      by_cases hin : i = n
      · subst hin; exact ⟨x, h1, by rw [h2, h3 he]⟩
      · exact q3 i (by omega)
    · obtain ⟨_, q2, _⟩ := ih _ h'
      cases q2
/-- The one stands for all that the other one stands for. -/
def Lk (a b : AV) : Prop := ∀ φ κ x, VR φ κ b x → VR φ κ a x
theorem Lk.of_eq {a b : AV} (e : a = b) : Lk a b := fun _ _ _ h => by rw [e]; exact h
theorem xor_false {x y : Bool} (h : Bool.xor x y = false) : x = y := by revert h; cases x <;> cases y <;> simp
theorem avSc_true {a b : AV} {k : Bool} (h : avSc a b k = true) : k = true ∧ Lk a b := by
  unfold avSc at h
  rw [sel_true_iff] at h
  rcases h with ⟨_, h_1⟩ | ⟨_, h_1⟩
  · rcases AV.asInt_true h_1 with ⟨p, n, rfl, h_2⟩ | ⟨p, n, rfl, h_2⟩ <;> rcases AV.asInt_true h_2 with ⟨q, m, rfl, h_3⟩ | ⟨q, m, rfl, h_3⟩ <;> obtain ⟨h1, h_4⟩ := sel_yes h_3 <;> obtain ⟨h2, h_5⟩ := sel_yes h_4 <;>
      rw [kEq_eq, decide_eq_true_iff] at h1 <;> subst h1
    · have : n = m := Nat.eq_of_beq_eq_true h2
      subst this; exact ⟨h_5, .of_eq rfl⟩
    · cases h2
    · cases h2
    · have : n = m := Nat.eq_of_beq_eq_true h2
      subst this; exact ⟨h_5, .of_eq rfl⟩
  rw [sel_true_iff] at h_1
  rcases h_1 with ⟨_, h_6⟩ | ⟨_, h_6⟩
  · obtain ⟨β, o, rfl, h_7⟩ := AV.asPtr_true h_6
    obtain ⟨γ, q, rfl, h_8⟩ := AV.asPtr_true h_7
    rw [Ad.beqK_eq] at h_8
    split at h_8
    · rename_i e
      obtain ⟨h1, h_9⟩ := sel_yes h_8
      have : o = q := Nat.eq_of_beq_eq_true h1
      subst this e; exact ⟨h_9, .of_eq rfl⟩
    · cases h_8
  rw [sel_true_iff] at h_6
  rcases h_6 with ⟨_, h_10⟩ | ⟨_, h_10⟩
  · obtain ⟨x, rfl, h_11⟩ := AV.asBool_true h_10
    obtain ⟨y, rfl, h_12⟩ := AV.asBool_true h_11
    obtain ⟨h1, h_13⟩ := sel_no h_12
    have := xor_false h1
    subst this; exact ⟨h_13, .of_eq rfl⟩
  rw [sel_true_iff] at h_10
  rcases h_10 with ⟨_, h_14⟩ | ⟨_, h_14⟩
  · rcases AV.asSl_true h_14 with ⟨rfl, h_15⟩ | ⟨β, o, l, e, c, s, rfl, h_15⟩
    · rcases AV.asSl_true h_15 with ⟨rfl, h_16⟩ | ⟨_, _, _, _, _, _, _, h_16⟩
      · exact ⟨h_16, .of_eq rfl⟩
      · cases h_16
    · rcases AV.asSl_true h_15 with ⟨_, h_17⟩ | ⟨γ, o', l', e', c', s', rfl, h_17⟩
      · cases h_17
      · rw [Ad.beqK_eq] at h_17
        split at h_17
        · rename_i hb
          obtain ⟨h1, h_18⟩ := sel_yes h_17
          obtain ⟨h2, h_19⟩ := sel_yes h_18
          obtain ⟨h3, h_20⟩ := sel_no h_19
          obtain ⟨h4, h_21⟩ := sel_yes h_20
          obtain ⟨h5, h_22⟩ := sel_yes h_21
          have e1 : o = o' := Nat.eq_of_beq_eq_true h1
          have e2 : l = l' := Nat.eq_of_beq_eq_true h2
          have e3 := xor_false h3
          have e4 : c = c' := Nat.eq_of_beq_eq_true h4
          have e5 : s = s' := Nat.eq_of_beq_eq_true h5
          subst hb e1 e2 e3 e4 e5
          exact ⟨h_22, .of_eq rfl⟩
        · cases h_17
  rw [sel_true_iff] at h_14
  rcases h_14 with ⟨_, h_23⟩ | ⟨_, h_23⟩
  · obtain ⟨n, c, rfl, h_24⟩ := AV.asAgg_true h_23
    obtain ⟨m, d, rfl, h_25⟩ := AV.asAgg_true h_24
    obtain ⟨h1, h_26⟩ := sel_yes h_25
    have e1 : n = m := Nat.eq_of_beq_eq_true h1
    subst e1
    rw [sel_true_iff] at h_26
    rcases h_26 with ⟨_, h_27⟩ | ⟨_, h_27⟩
    · obtain ⟨n', N, rfl, h_28⟩ := AV.asRb_true h_27
      obtain ⟨m', M, rfl, h_29⟩ := AV.asRb_true h_28
      obtain ⟨h2, h_30⟩ := sel_yes h_29
      obtain ⟨h3, h_31⟩ := sel_yes h_30
      have e2 : n' = m' := Nat.eq_of_beq_eq_true h2
      have e3 : N = M := Nat.eq_of_beq_eq_true h3
      subst e2 e3
      exact ⟨h_31, .of_eq rfl⟩
    · obtain ⟨h2, _, h3⟩ := aggEqK_all _ _ h_27
      refine ⟨h2, fun φ κ x hx => ?_⟩
      cases hx with
      | agg _ _ xs hn f hf hv h1' =>
        refine .agg n c xs hn f (fun i hi => ?_) hv h1'
        obtain ⟨y, q1, q2⟩ := h3 i hi
        rw [hf i hi] at q2
        rw [q1, q2]
  rw [sel_true_iff] at h_23
  rcases h_23 with ⟨_, h_32⟩ | ⟨_, h_32⟩
  · obtain ⟨n, N, rfl, h_33⟩ := AV.asStr_true h_32
    obtain ⟨m, M, rfl, h_34⟩ := AV.asStr_true h_33
    obtain ⟨h1, h_35⟩ := sel_yes h_34
    unfold strEq at h1
    obtain ⟨h2, h3⟩ := sel_yes h1
    have e2 : n = m := Nat.eq_of_beq_eq_true h2
    have e3 : N = M := Nat.eq_of_beq_eq_true h3
    subst e2 e3
    exact ⟨h_35, .of_eq rfl⟩
  rw [sel_true_iff] at h_32
  rcases h_32 with ⟨_, h_36⟩ | ⟨_, h_36⟩
  · rcases AV.asMp_true h_36 with ⟨rfl, h_37⟩ | ⟨β, rfl, h_37⟩
    · rcases AV.asMp_true h_37 with ⟨rfl, h_38⟩ | ⟨_, _, h_38⟩
      · exact ⟨h_38, .of_eq rfl⟩
      · cases h_38
    · rcases AV.asMp_true h_37 with ⟨_, h_39⟩ | ⟨γ, rfl, h_39⟩
      · cases h_39
      · rw [Ad.beqK_eq] at h_39
        split at h_39
        · rename_i e; subst e; exact ⟨h_39, .of_eq rfl⟩
        · cases h_39
  rw [sel_true_iff] at h_36
  rcases h_36 with ⟨_, h_40⟩ | ⟨_, h_40⟩
  · cases a <;> first | (cases h_40; done) | skip
    · cases b <;> first | (cases h_40; done) | exact ⟨h_40, .of_eq rfl⟩
    · cases b <;> cases h_40
  rw [sel_true_iff] at h_40
  rcases h_40 with ⟨_, h_41⟩ | ⟨_, h_41⟩
  · cases a <;> first | (cases h_41; done) | skip
    · cases b <;> first | (cases h_41; done) | exact ⟨h_41, .of_eq rfl⟩
    · cases b <;> cases h_41
    · cases b <;> cases h_41
  · cases a <;> first | (cases h_41; done) | skip
    · cases b <;> first | (cases h_41; done) | exact ⟨h_41, .of_eq rfl⟩
    · cases b <;> cases h_41
theorem avEq_true {a b : AV} {k : Bool} (h : avEq a b k = true) : k = true ∧ Lk a b := by
  unfold avEq at h
  rw [sel_true_iff] at h
  rcases h with ⟨h_0, h⟩ | ⟨_, h⟩
  · exact ⟨h, .of_eq (AV.eqK_true h_0)⟩
  rw [sel_true_iff] at h
  rcases h with ⟨_, h_1⟩ | ⟨_, h_1⟩
  · obtain ⟨l, rfl, h_2⟩ := AV.asTup_true h_1
    obtain ⟨m, rfl, h_3⟩ := AV.asTup_true h_2
    rcases AV.asCons_true h_3 with ⟨_, h_4⟩ | ⟨x, l, rfl, h_4⟩
    · cases h_4
    rcases AV.asCons_true h_4 with ⟨_, h_5⟩ | ⟨y, m, rfl, h_5⟩
    · cases h_5
    rcases AV.asCons_true h_5 with ⟨_, h_6⟩ | ⟨z, l, rfl, h_6⟩
    · cases h_6
    rcases AV.asCons_true h_6 with ⟨_, h_7⟩ | ⟨u, m, rfl, h_7⟩
    · cases h_7
    rcases AV.asCons_true h_7 with ⟨rfl, h_8⟩ | ⟨_, _, _, h_8⟩
    case inr => cases h_8
    rcases AV.asCons_true h_8 with ⟨rfl, h_9⟩ | ⟨_, _, _, h_9⟩
    case inr => cases h_9
    obtain ⟨z, rfl, h_10⟩ := AV.asBool_true h_9
    obtain ⟨u, rfl, h_11⟩ := AV.asBool_true h_10
    obtain ⟨h1, h_12⟩ := sel_no h_11
    have := xor_false h1
    subst this
    obtain ⟨h2, h3⟩ := avSc_true h_12
    refine ⟨h2, fun φ κ X hX => ?_⟩
    obtain ⟨xs, rfl, hl⟩ := hX.tup_inv
    refine LR.tup ?_
    obtain ⟨x', r, e, hx, hr⟩ := hl.cons_inv
    rw [e]
    exact LR.cons (h3 _ _ _ hx) hr
  · exact avSc_true h_1

/-! ### The trace of the one order -/
inductive EK | skip | rd | al (blk : Blk) (β : Ad) | wr
/-- One operation: its number, temporaries and heap ahead of it, its value, what it was, temporaries and heap behind it. -/
structure Ent where
  i : Nat
  t : Regs
  σ : Hp
  v : AV
  k : EK
  t' : Regs
  σ' : Hp
section
variable (P : Program) (C : Cx) (ops : List Oper)
/-- An operation's guard lets it run. -/
def Runs (o : Oper) (t : Regs) : Prop := o.guard = none ∨ ∃ j w g, o.guard = some (j, w) ∧ guardW C ops j = some g ∧ g t .nil = .bool w
def Skips (o : Oper) (t : Regs) : Prop := ∃ j w g, o.guard = some (j, w) ∧ guardW C ops j = some g ∧ (g t .nil = .undef ∨ ∃ b, b ≠ w ∧ g t .nil = .bool b)
def EntOK (e : Ent) : Prop := ∃ o, ops[e.i]? = some o ∧ (∀ u, o.dst = some u → C.glob u = true) ∧ e.t' = putT C o.dst e.v e.t ∧
  match e.k with
  | .skip => Skips C ops o e.t ∧ e.v = .undef ∧ e.σ' = e.σ
  | .rd => Runs C ops o e.t ∧ e.σ' = e.σ ∧ (∀ c, o.op ≠ .defer c) ∧ RdOK P C e.t .nil e.σ o true e.v
  | .al blk β => Runs C ops o e.t ∧ β = e.σ.nx ∧ e.σ.Made blk e.σ' ∧ blk.olds = [] ∧ (∀ c, o.op ≠ .defer c) ∧ ∃ mk, e.v = mk β ∧ ∀ {φ : Emb} {w : World} {ρ : Operand → Value}, EVO C φ (csz w.heap) e.t .nil ρ o.op → AlN P φ w blk mk (execOp ρ o)
  | .wr => Runs C ops o e.t ∧ isWr (opW P C o.op) = true ∧ (∀ c, o.op ≠ .defer c) ∧ OpOK P C e.t .nil e.σ o e.v e.σ'
/-- A read is as it was, wherever it may come behind what was done later. -/
def Later (A : List Nat) (i : Nat) (t : Regs) (v : AV) : List Ent → Prop
  | [] => True
  | x :: r => (x.k = .wr ∧ (A.getD x.i 0).testBit i = true) ∨ ((∀ o, ops[i]? = some o → RdOK P C t .nil x.σ' o true v) ∧ Later A i t v r)
def TailOK (A : List Nat) : List Ent → Prop
  | [] => True
  | e :: r => (e.k = .rd → Later P C ops A e.i e.t e.v r) ∧ TailOK A r
end
def Chain : Regs → Hp → List Ent → Regs → Hp → Prop
  | t, σ, [], tN, σN => tN = t ∧ σN = σ
  | t, σ, e :: r, tN, σN => e.t = t ∧ e.σ = σ ∧ Chain e.t' e.σ' r tN σN
section
variable {P : Program} {C : Cx} {ops : List Oper}
theorem RdOK.any {t : Regs} {σ : Hp} {o : Oper} {v : AV} (h : RdOK P C t .nil σ o false v) (σ' : Hp) (b : Bool) : RdOK P C t .nil σ' o b v := fun hc _ he => h (B := fun _ => False) hc (fun e => by cases e) he
theorem RdOK.dep {t : Regs} {σ : Hp} {o : Oper} {v : AV} {b : Bool} (h : RdOK P C t .nil σ o b v) : RdOK P C t .nil σ o true v := fun hc hr he => h hc (fun _ => hr rfl) he
theorem Later.always {A : List Nat} {i : Nat} {t : Regs} {v : AV} (h : ∀ o σ, ops[i]? = some o → RdOK P C t .nil σ o true v) : ∀ tr, Later P C ops A i t v tr
  | [] => trivial
  | x :: r => .inr ⟨fun o ho => h o _ ho, Later.always h r⟩
/-- The reads that were made: number, read, temporaries, answer. -/
def WsR (P : Program) (C : Cx) (ops : List Oper) (depm done : Nat) : WL → Prop
  | .nil => True
  | .cons i f t v r => ((∃ o, ops[i]? = some o ∧ opW P C o.op = .rd f true) ∧ done.testBit i = true ∧ depm.testBit i = true) ∧ WsR P C ops depm done r
theorem WsR.more {depm done done' : Nat} (h : ∀ i, done.testBit i = true → done'.testBit i = true) : ∀ {ws : WL}, WsR P C ops depm done ws → WsR P C ops depm done' ws
  | .nil, _ => trivial
  | .cons _ _ _ _ _, ⟨⟨h1, h2, h3⟩, h4⟩ => ⟨⟨h1, h _ h2, h3⟩, h4.more h⟩
/-- What is so of all reads that were made. -/
def WsAll (Q : Nat → Regs → AV → Prop) : WL → Prop
  | .nil => True
  | .cons i f t v r => Q i t v ∧ WsAll Q r
theorem again_s {chk : Nat} {σ : Hp} {k : Bool} {depm done : Nat} : ∀ {ws : WL}, WsR P C ops depm done ws → WL.again chk σ k ws = true → k = true ∧ WsAll (fun i t v => chk.testBit i = true → ∀ o, ops[i]? = some o → RdOK P C t .nil σ o true v) ws := by
  intro ws
  induction ws with
  | nil => intro _ h; exact ⟨h, trivial⟩
  | cons i f t v r ih =>
    rintro ⟨⟨⟨o, ho, hop⟩, h2, h3⟩, h4⟩ h
    have h' : sel (Nat.testBit chk i) (f t .nil σ fun u => avEq v u (WL.again chk σ k r)) (WL.again chk σ k r) = true := h
    rw [sel_true_iff] at h'
    rcases h' with ⟨hc, h'⟩ | ⟨hc, h'⟩
    · obtain ⟨u, hu, hr⟩ := opW_rd hop h'
      obtain ⟨hu', hlk⟩ := avEq_true hu
      obtain ⟨q1, q2⟩ := ih h4 hu'
      refine ⟨q1, fun _ o' ho' => ?_, q2⟩
      rw [ho] at ho'; cases ho'
      intro B φ w ρ hc' hr' he
      obtain ⟨x, e1, e2⟩ := hr hc' hr' he
      exact ⟨x, e1, hlk _ _ _ e2⟩
    · obtain ⟨q1, q2⟩ := ih h4 h'
      exact ⟨q1, (fun e => by rw [hc] at e; cases e), q2⟩
theorem WsAll.imp {Q Q' : Nat → Regs → AV → Prop} {depm done : Nat} (h : ∀ i t v, (done.testBit i = true ∧ depm.testBit i = true) → Q i t v → Q' i t v) : ∀ {ws : WL}, WsR P C ops depm done ws → WsAll Q ws → WsAll Q' ws
  | .nil, _, _ => trivial
  | .cons _ _ _ _ _, ⟨⟨_, h2, h3⟩, h4⟩, ⟨h5, h6⟩ => ⟨h _ _ _ ⟨h2, h3⟩ h5, WsAll.imp h h4 h6⟩
theorem WsAll.and {Q Q' : Nat → Regs → AV → Prop} : ∀ {ws : WL}, WsAll Q ws → WsAll Q' ws → WsAll (fun i t v => Q i t v ∧ Q' i t v) ws
  | .nil, _, _ => trivial
  | .cons _ _ _ _ _, ⟨h1, h2⟩, ⟨h3, h4⟩ => ⟨⟨h1, h3⟩, h2.and h4⟩
theorem putR_eq {dst : Option Tmp} {d : Dst} (h : (match dst with | none => some Dst.drop | some t => if C.glob t then (match regW t with | .mk _ s => some (.env s)) else none) = some d) (v : AV) (t : Regs) (k : Regs → Bool) :
    (∀ u, dst = some u → C.glob u = true) ∧ putR d v t k = k (putT C dst v t) := by
  cases dst with
  | none => cases h; exact ⟨fun u e => (by cases e), rfl⟩
  | some u =>
    simp only at h
    split at h
    · rename_i hg
      rw [regW_eq] at h
      simp only [Option.some.injEq] at h
      cases h
      refine ⟨fun u' e => by cases e; exact hg, ?_⟩
      simp only [putT, hg, if_true]
      rfl
    · cases h
theorem maskW_div (f : OpW → Bool) : ∀ (l : List Oper) (i : Nat), ∃ a, maskW P C f l i = 2 ^ i * a
  | [], i => ⟨0, rfl⟩
  | o :: r, i => by
    obtain ⟨a, ha⟩ := maskW_div f r (i + 1)
    simp only [maskW, ha]
    split
    · exact ⟨1 + 2 * a, by rw [Nat.pow_succ, Nat.mul_add, Nat.mul_one, Nat.mul_assoc]⟩
    · exact ⟨2 * a, by rw [Nat.pow_succ, Nat.mul_assoc, Nat.zero_add]⟩
theorem testBit_pow_add {i j m : Nat} (hm : ∃ a, m = 2 ^ (i + 1) * a) : (2 ^ i + m).testBit j = (decide (i = j) || m.testBit j) := by
  obtain ⟨a, rfl⟩ := hm
  have h1 : 2 ^ i < 2 ^ (i + 1) := Nat.pow_lt_pow_right (by decide) (Nat.lt_succ_self _)
  rw [Nat.add_comm, Nat.two_pow_add_eq_or_of_lt h1, Nat.testBit_or, Nat.testBit_two_pow, Bool.or_comm]
theorem maskW_bit (f : OpW → Bool) : ∀ (l : List Oper) (i j : Nat), (maskW P C f l i).testBit j = (decide (i ≤ j) && match l[j - i]? with | some o => f (opW P C o.op) | none => false)
  | [], i, j => by simp [maskW]
  | o :: r, i, j => by
    have ih := maskW_bit f r (i + 1) j
    have hd := maskW_div (P := P) (C := C) f r (i + 1)
    have key : (maskW P C f r (i + 1)).testBit j = (decide (i + 1 ≤ j) && match (o :: r)[j - i]? with | some o => f (opW P C o.op) | none => false) := by
      rw [ih]
      by_cases hij : i + 1 ≤ j
      · rw [show j - i = (j - (i + 1)) + 1 by omega, List.getElem?_cons_succ]
      · simp [hij]
    simp only [maskW]
    by_cases hj : i = j
    · subst hj
      have h0 : (maskW P C f r (i + 1)).testBit i = false := by rw [key, decide_eq_false (by omega), Bool.false_and]
      simp only [Nat.sub_self, List.getElem?_cons_zero, Nat.le_refl, decide_true, Bool.true_and]
      split
      · rename_i hf; rw [testBit_pow_add hd, hf]; simp
      · rename_i hf; rw [Nat.zero_add, h0]; exact (Bool.not_eq_true _ ▸ hf : f (opW P C o.op) = false).symm
    · have h1 : decide (i ≤ j) = decide (i + 1 ≤ j) := by simp; omega
      rw [h1, ← key]
      split
      · rw [testBit_pow_add hd]; simp [hj]
      · rw [Nat.zero_add]
end
section
variable {P : Program} {C : Cx} {ops : List Oper} {ih : Lv}
theorem dl_s (H : LvOK P ih) {A : List Nat} {depm : Nat} (hdep : depm = maskW P C isDep ops 0) : ∀ (ord : List Nat) (done : Nat) (t : Regs) (σ : Hp) (ws : WL) (k : KO), (∀ i ∈ ord, i < ops.length) → WsR P C ops depm done ws →
    (dlW P C ops A depm ord done).run ih t σ ws k = true → ∃ tr tN σN, k tN σN = true ∧ Chain t σ tr tN σN ∧ tr.map (·.i) = ord ∧ (∀ e ∈ tr, EntOK P C ops e) ∧ TailOK P C ops A tr ∧
      WsAll (fun i t v => (∀ o, ops[i]? = some o → RdOK P C t .nil σ o true v) → Later P C ops A i t v tr) ws := by
  intro ord
  induction ord with
  | nil =>
    intro done t σ ws k _ hws hk
    refine ⟨[], t, σ, hk, ⟨rfl, rfl⟩, rfl, (fun e he => by cases he), trivial, ?_⟩
    clear hk
    induction ws with
    | nil => trivial
    | cons i f t v r ihr => exact ⟨fun _ => trivial, ihr hws.2⟩
  | cons i r ihd =>
    intro done t σ ws k hlt hws hk
    have hin : i < ops.length := hlt i (by simp)
    obtain ⟨o, ho⟩ : ∃ o, ops[i]? = some o := ⟨ops[i], List.getElem?_eq_getElem hin⟩
    have hgo : ops.getD i default = o := by simp [List.getD, ho]
    have hlt' : ∀ j ∈ r, j < ops.length := fun j hj => hlt j (by simp [hj])
    have hdone : ∀ j, done.testBit j = true → (done ||| 2 ^ i).testBit j = true := fun j hj => by rw [Nat.testBit_or, hj]; rfl
    have hws' := hws.more hdone
    -- a step that changes no heap
    have quiet : ∀ (v : AV) (kk : EK) (ws' : WL), (kk = .skip ∨ kk = .rd) → WsR P C ops depm (done ||| 2 ^ i) ws' → (dlW P C ops A depm r (done ||| 2 ^ i)).run ih (putT C o.dst v t) σ ws' k = true →
        (EntOK P C ops ⟨i, t, σ, v, kk, putT C o.dst v t, σ⟩) → (∀ tr, WsAll (fun i t v => (∀ o, ops[i]? = some o → RdOK P C t .nil σ o true v) → Later P C ops A i t v tr) ws' → (kk = .rd → Later P C ops A i t v tr) ∧ WsAll (fun i t v => (∀ o, ops[i]? = some o → RdOK P C t .nil σ o true v) → Later P C ops A i t v tr) ws) →
        ∃ tr tN σN, k tN σN = true ∧ Chain t σ tr tN σN ∧ tr.map (·.i) = i :: r ∧ (∀ e ∈ tr, EntOK P C ops e) ∧ TailOK P C ops A tr ∧ WsAll (fun i t v => (∀ o, ops[i]? = some o → RdOK P C t .nil σ o true v) → Later P C ops A i t v tr) ws := fun v kk ws' hkk hw' hk' hent hlat => by
      obtain ⟨tr, tN, σN, q1, q2, q3, q4, q5, q6⟩ := ihd _ _ _ _ _ hlt' hw' hk'
      obtain ⟨l1, l2⟩ := hlat tr q6
      refine ⟨⟨i, t, σ, v, kk, putT C o.dst v t, σ⟩ :: tr, tN, σN, q1, ⟨rfl, rfl, q2⟩, by simp [q3], ?_, ⟨l1, q5⟩, WsAll.imp (fun j tj vj _ hj hrd => .inr ⟨hrd, hj hrd⟩) hws l2⟩
      intro e he
      rcases List.mem_cons.1 he with rfl | he
      · exact hent
      · exact q4 e he
    have run : ∀ (d : Dst), (∀ v t (k : Regs → Bool), putR d v t k = k (putT C o.dst v t)) → (∀ u, o.dst = some u → C.glob u = true) → Runs C ops o t → ∀ chk, chk = (if isWr (opW P C o.op) then (done &&& depm) ^^^ ((done &&& depm) &&& A.getD i 0) else done &&& depm) →
        DL.one ih i d (opW P C o.op) chk ((dlW P C ops A depm r (done ||| 2 ^ i)).run ih) t σ ws k = true →
        ∃ tr tN σN, k tN σN = true ∧ Chain t σ tr tN σN ∧ tr.map (·.i) = i :: r ∧ (∀ e ∈ tr, EntOK P C ops e) ∧ TailOK P C ops A tr ∧ WsAll (fun i t v => (∀ o, ops[i]? = some o → RdOK P C t .nil σ o true v) → Later P C ops A i t v tr) ws := fun d hput hglob hruns chk hchk hk' => by
      have hdf : ∀ c, o.op ≠ .defer c := fun c e => by
        have : opW P C o.op = .bad := by rw [e]; rfl
        rw [this] at hk'; cases hk'
      cases hop : opW P C o.op with
      | bad => rw [hop] at hk'; cases hk'
      | rd f dep =>
        rw [hop] at hk'
        have hk2 : f t .nil σ (fun v => putR d v t fun t' => sel dep ((dlW P C ops A depm r (done ||| 2 ^ i)).run ih t' σ (.cons i f t v ws) k) ((dlW P C ops A depm r (done ||| 2 ^ i)).run ih t' σ ws k)) = true := hk'
        obtain ⟨v, hv, hrd⟩ := opW_rd hop hk2
        rw [hput] at hv
        have hent : EntOK P C ops ⟨i, t, σ, v, .rd, putT C o.dst v t, σ⟩ := ⟨o, ho, hglob, rfl, hruns, rfl, hdf, hrd.dep⟩
        cases dep with
        | true =>
          have hbit : depm.testBit i = true := by
            rw [hdep, maskW_bit]; simp [ho, hop, isDep]
          refine quiet v .rd (.cons i f t v ws) (.inr rfl) ⟨⟨⟨o, ho, hop⟩, by rw [Nat.testBit_or, Nat.testBit_two_pow]; simp, hbit⟩, hws'⟩ hv hent fun tr hall => ⟨fun _ => hall.1 fun o' ho' => ?_, hall.2⟩
          rw [ho] at ho'; cases ho'; exact hrd
        | false =>
          refine quiet v .rd ws (.inr rfl) hws' hv hent fun tr hall => ⟨fun _ => Later.always (fun o' σ' ho' => ?_) tr, hall⟩
          rw [ho] at ho'; cases ho'; exact hrd.any σ' true
      | al f =>
        rw [hop] at hk'
        have hk2 : f t .nil (fun b mk => σ.newK b fun β σ => WL.again chk σ (putR d (mk β) t fun t => (dlW P C ops A depm r (done ||| 2 ^ i)).run ih t σ ws k) ws) = true := hk'
        obtain ⟨blk, mk, h1, h2, h3⟩ := opW_al hop hk2
        obtain ⟨σ', m, h4⟩ := Hp.newK_true h1
        obtain ⟨h5, h6⟩ := again_s hws h4
        rw [hput] at h5
        obtain ⟨tr, tN, σN, q1, q2, q3, q4, q5, q6⟩ := ihd _ _ _ _ _ hlt' hws' h5
        have hc : ∀ j, done.testBit j = true ∧ depm.testBit j = true → chk.testBit j = true := fun j hj => by
          rw [hchk, hop]; simp [isWr, hj.1, hj.2]
        refine ⟨⟨i, t, σ, mk σ.nx, .al blk σ.nx, putT C o.dst (mk σ.nx) t, σ'⟩ :: tr, tN, σN, q1, ⟨rfl, rfl, q2⟩, by simp [q3], ?_, ⟨(fun e => by cases e), q5⟩, ?_⟩
        · intro e he
          rcases List.mem_cons.1 he with rfl | he
          · exact ⟨o, ho, hglob, rfl, hruns, rfl, m, h2, hdf, mk, rfl, fun he => h3 he⟩
          · exact q4 e he
        · exact WsAll.imp (fun j tj vj hj hb _ => .inr ⟨hb.1 (hc j hj), hb.2 (hb.1 (hc j hj))⟩) hws (h6.and q6)
      | wr f =>
        rw [hop] at hk'
        have hk2 : f ih t .nil σ (fun v σ => WL.again chk σ (putR d v t fun t => (dlW P C ops A depm r (done ||| 2 ^ i)).run ih t σ ws k) ws) = true := hk'
        obtain ⟨v, σ', h1, h2⟩ := opW_wr H hop hk2
        obtain ⟨h5, h6⟩ := again_s hws h1
        rw [hput] at h5
        obtain ⟨tr, tN, σN, q1, q2, q3, q4, q5, q6⟩ := ihd _ _ _ _ _ hlt' hws' h5
        have hc : ∀ j, done.testBit j = true ∧ depm.testBit j = true → (A.getD i 0).testBit j = false → chk.testBit j = true := fun j hj ha => by
          rw [hchk, hop]
          simp only [isWr, if_true, Nat.testBit_xor, Nat.testBit_and, hj.1, hj.2, ha]
          rfl
        refine ⟨⟨i, t, σ, v, .wr, putT C o.dst v t, σ'⟩ :: tr, tN, σN, q1, ⟨rfl, rfl, q2⟩, by simp [q3], ?_, ⟨(fun e => by cases e), q5⟩, ?_⟩
        · intro e he
          rcases List.mem_cons.1 he with rfl | he
          · exact ⟨o, ho, hglob, rfl, hruns, by rw [hop]; rfl, hdf, h2⟩
          · exact q4 e he
        · refine WsAll.imp (fun j tj vj hj hb _ => ?_) hws (h6.and q6)
          cases ha : (A.getD i 0).testBit j with
          | true => exact .inl ⟨rfl, ha⟩
          | false => exact .inr ⟨hb.1 (hc j hj ha), hb.2 (hb.1 (hc j hj ha))⟩
    unfold dlW at hk
    simp only [hgo] at hk
    split at hk
    · rename_i d hd hgd
      have hput := fun v t k => (putR_eq hd v t k).2
      have hglob := (putR_eq hd .undef t (fun _ => true)).1
      exact run d hput hglob (.inl hgd) _ rfl hk
    · rename_i d j w hd hgd
      split at hk
      case h_2 => cases hk
      rename_i g hg
      have hput := fun v t k => (putR_eq hd v t k).2
      have hglob := (putR_eq hd .undef t (fun _ => true)).1
      have hk' : guardK g w t .nil (putR d .undef t fun t => (dlW P C ops A depm r (done ||| 2 ^ i)).run ih t σ ws k) (DL.one ih i d (opW P C o.op) (if isWr (opW P C o.op) then (done &&& depm) ^^^ ((done &&& depm) &&& A.getD i 0) else done &&& depm) ((dlW P C ops A depm r (done ||| 2 ^ i)).run ih) t σ ws k) = true := hk
      have skip : Skips C ops o t → (putR d .undef t fun t => (dlW P C ops A depm r (done ||| 2 ^ i)).run ih t σ ws k) = true → ∃ tr tN σN, k tN σN = true ∧ Chain t σ tr tN σN ∧ tr.map (·.i) = i :: r ∧ (∀ e ∈ tr, EntOK P C ops e) ∧ TailOK P C ops A tr ∧ WsAll (fun i t v => (∀ o, ops[i]? = some o → RdOK P C t .nil σ o true v) → Later P C ops A i t v tr) ws := fun hs hk2 => by
        rw [hput] at hk2
        exact quiet .undef .skip ws (.inl rfl) hws' hk2 ⟨o, ho, hglob, rfl, hs, rfl, rfl⟩ fun tr hall => ⟨(fun e => by cases e), hall⟩
      rcases guardK_true hk' with ⟨e1, hk2⟩ | ⟨b, e1, hb, hk2⟩ | ⟨e1, hk2⟩
      · exact skip ⟨j, w, g, hgd, hg, .inl e1⟩ hk2
      · exact skip ⟨j, w, g, hgd, hg, .inr ⟨b, hb, e1⟩⟩ hk2
      · exact run d hput hglob (.inr ⟨j, w, g, hgd, hg, e1⟩) _ rfl hk2
    · cases hk
end
end Go.Am
