import Derived.Test.YtpjibkdeaogjjaaGreatDoorAmS25
set_option linter.unusedVariables false
set_option linter.unusedSimpArgs false
/-! Soundness in another form, 1: a run may come to several ends, and each of them is gone on from. Operations, regions. -/
namespace Go.Am
open Go
def CodeQ (P : Program) (c : Code) (fn : Nat) (rd : Option Ad) (t : Regs) (d : List Ad) (σ : Hp) (k : KC) : Prop :=
  ∀ {B : Fz} {φ : Emb} {a : Act} {w : World} {ro : Option Nat}, Rel P B φ σ w.heap → B.le w.heap.size → ER φ (csz w.heap) (cxOf P fn) t a.tmps → DR φ rd d a.defers → RdR φ rd ro →
    c.wpIn (FW ro) 0 P (fun e' a' w' => ∃ e t' d' σ', k e t' d' σ' = true ∧ Ended P B φ σ w (cxOf P fn) rd e t' d' σ' e' a' w') a w
def LoopQ (P : Program) (c : Code) (fn : Nat) (rd : Option Ad) (t : Regs) (d : List Ad) (σ : Hp) (k : KC) : Prop :=
  ∀ {B : Fz} {φ : Emb} {a : Act} {w : World} {ro : Option Nat}, Rel P B φ σ w.heap → B.le w.heap.size → ER φ (csz w.heap) (cxOf P fn) t a.tmps → DR φ rd d a.defers → RdR φ rd ro →
    LoopIn (FW ro) 0 P c (fun e' a' w' => ∃ e t' d' σ', k e t' d' σ' = true ∧ Ended P B φ σ w (cxOf P fn) rd e t' d' σ' e' a' w') a w
def DidQ (P : Program) (B : Fz) (φ : Emb) (σ : Hp) (w : World) (k : KV) (r : Value) (w' : World) : Prop := ∃ v σ', k v σ' = true ∧ Did P B φ σ w v σ' r w'
def CallQ (P : Program) (f : Nat) (σ : Hp) (args : AV) (k : KV) : Prop :=
  (∀ xs w, (callFunc f xs).run P w = .ok (.enter f xs) w) ∧
  ∀ {B : Fz} {φ : Emb} {w : World} {xs : Array Value}, Rel P B φ σ w.heap → B.le w.heap.size → LR φ (csz w.heap) args xs.toList →
    CallsIn Fence.wide 0 P f xs w fun e w' => ∃ r, e = .returned r ∧ DidQ P B φ σ w k r w'
structure LvQ (P : Program) (ih : Lv) : Prop where
  call : ∀ {f : Nat} {args : AV} {σ : Hp} {k : KV}, ih.call f args σ k = true → CallQ P f σ args k
  code : ∀ {c : Code} {fn : Nat} {rd : Option Ad} {t : Regs} {d : List Ad} {σ : Hp} {k : AExit → Regs → List Ad → Hp → Bool}, ih.code c fn rd t d σ k = true → CodeQ P c fn rd t d σ k
  loop : ∀ {c : Code} {fn : Nat} {rd : Option Ad} {t : Regs} {d : List Ad} {σ : Hp} {k : AExit → Regs → List Ad → Hp → Bool}, ih.code (.loop c) fn rd t d σ k = true → LoopQ P c fn rd t d σ k
theorem CallOK.toQ {P : Program} {f : Nat} {σ σ' : Hp} {args v : AV} {k : KV} (h : CallOK P f σ args v σ') (hk : k v σ' = true) : CallQ P f σ args k :=
  ⟨h.1, fun r hB hl => (h.2 r hB hl).mono (by rintro e w' ⟨x, rfl, hx⟩; exact ⟨x, rfl, v, σ', hk, hx⟩)⟩
theorem Did.trans {P : Program} {B : Fz} {φ φ' : Emb} {σ σ' σ'' : Hp} {w w' w'' : World} {v : AV} {r : Value} (x : Ext B φ σ w.heap φ' σ' w'.heap) (s : Same w w') (h : Did P B φ' σ' w' v σ'' r w'') : Did P B φ σ w v σ'' r w'' :=
  let ⟨φ'', h1, h2, h3, h4, h5, h6⟩ := h
  ⟨φ'', h1, x.trans h2, h3, h4.trans s.os, h5.trans s.tape, h6.trans s.output⟩
/-! ### Operations -/
def NextQ (P : Program) (B : Fz) (φ : Emb) (σ : Hp) (w : World) (k : KV) : Result Next → Prop
  | .ok (.value r) w' => DidQ P B φ σ w k r w'
  | .ok .skip w' => DidQ P B φ σ w k undef w'
  | .ok (.enter f xs) w' => w' = w ∧ CallsIn Fence.wide 0 P f xs w fun e w'' => ∃ r, e = .returned r ∧ DidQ P B φ σ w k r w''
  | .ok (.round l f tm as bd) w' => w' = w ∧ RoundIn Fence.wide 0 P l f tm as bd w fun e w'' => ∃ r, e = .returned r ∧ DidQ P B φ σ w k r w''
  | _ => False
theorem NextOK.toQ {P : Program} {B : Fz} {φ : Emb} {σ σ' : Hp} {w : World} {v : AV} {k : KV} (hk : k v σ' = true) {res : Result Next} (h : NextOK P B φ σ w v σ' res) : NextQ P B φ σ w k res := by
  cases res with
  | halt x w' => exact h.elim
  | ok x w' =>
    cases x <;> simp only [NextOK] at h
    case value r => exact ⟨v, σ', hk, h⟩
    case skip => exact ⟨v, σ', hk, h⟩
    case enter f xs =>
      obtain ⟨rfl, h⟩ := h
      exact ⟨rfl, CallsIn.mono h (by rintro e w'' ⟨r, rfl, hr⟩; exact ⟨r, rfl, v, σ', hk, hr⟩)⟩
    case round l f tm as bd =>
      obtain ⟨rfl, h⟩ := h
      exact ⟨rfl, RoundIn.mono h (by rintro e w'' ⟨r, rfl, hr⟩; exact ⟨r, rfl, v, σ', hk, hr⟩)⟩
def OpQ (P : Program) (C : Cx) (t : Regs) (ls : Ls) (σ : Hp) (o : Oper) (k : KV) : Prop :=
  ∀ {B : Fz} {φ : Emb} {w : World} {ρ : Operand → Value}, (∀ v, ρ (.const v) = v) → (∀ f, ρ (.func f) = .func (.func f) #[] #[]) → Rel P B φ σ w.heap → B.le w.heap.size → EVO C φ (csz w.heap) t ls ρ o.op → NextQ P B φ σ w k ((execOp ρ o).run P w)
noncomputable def lv0 : Lv := ⟨fun _ _ _ _ => false, fun _ _ _ _ _ _ _ => false⟩
theorem lv0_ok {P : Program} : LvOK P lv0 := ⟨(fun h => by cases h), (fun h => by cases h), (fun h => by cases h)⟩
section
variable {P : Program} {C : Cx} {t : Regs} {ls : Ls} {σ : Hp} {k : KV} {ih : Lv}
theorem roundK_q (H : LvQ P ih) {β : Ad} {args : AV} (hk : roundK ih β args σ k = true) :
    ∀ {B : Fz} {φ : Emb} {w : World} {l : Nat} {xs : Array Value}, Rel P B φ σ w.heap → B.le w.heap.size → φ β = some (l, 0) → LR φ (csz w.heap) args xs.toList → NextQ P B φ σ w k ((Instr.yield l xs).run P w) := by
  intro B φ w l xs r hB hβ hl
  obtain ⟨b0, hg0, hk_1⟩ := Hp.getK_true hk
  obtain ⟨st, j, fn, tr, ps, as, bd, df, rfl, hk_2⟩ := Blk.loopK_true hk_1
  obtain ⟨hst, hk_3⟩ := sel_yes hk_2
  have hst' : st = 0 := Nat.eq_of_beq_eq_true hst
  subst hst'
  obtain ⟨tp, hk_4, hsp⟩ := setParams_true hk_3
  obtain ⟨rc, hw, q1, q2, q3, q4, q5, q6, q7, q8, _⟩ := r.setLoop hβ hg0
  obtain ⟨hlen, hER⟩ := hsp q8 q7 hl
  rw [run_yield hw (by rw [q3]; simpa using hlen)]
  refine ⟨rfl, roundIn_of_wpIn trivial ?_⟩
  rw [q3, q4, q5]
  have hz := foldl_zip ps xs rc.tmps
  refine wpIn_mono (H.code hk_4 (a := { tmps := _, defers := [] }) (ro := some l) r hB (by rw [← hz] at hER; exact hER) (fun h => by cases h) hβ) ?_
  rintro e0 a₁ w₁ ⟨e1, t1, d1, σ1, hk_5, rfl, ⟨φ1, r1, x1, er1, _⟩, s1⟩
  rcases AExit.caseK_true hk_5 with ⟨rfl, hk_6⟩ | ⟨_, _, hk_6⟩ | ⟨_, hk_6⟩
  case inr.inl => cases hk_6
  case inr.inr => cases hk_6
  obtain ⟨b1, hg1, hk_7⟩ := Hp.getK_true hk_6
  obtain ⟨st1, j1, fn1, tr1, ps1, as1, bd1, df1, rfl, hk_8⟩ := Blk.loopK_true hk_7
  obtain ⟨hst1, hk_9⟩ := sel_yes hk_8
  have hst1' : st1 = 0 := Nat.eq_of_beq_eq_true hst1
  subst hst1'
  rw [Hp.setK_eq] at hk_9
  have hβ1 : φ1 β = some (l, 0) := x1.le _ _ hβ
  obtain ⟨rc1, hw1, u1, u2, u3, u4, u5, u6, u7, u8, u9⟩ := r1.setLoop hβ1 hg1
  refine ⟨_, run_beginRound hw1 (by rw [u1]; rfl), ?_⟩
  obtain ⟨r2, x2⟩ := u9 1 j1
  have hobj : ({ rc1 with state := stOf 1, pending := j1.code } : Loop) = { rc1 with state := .busy } := by rw [← u2]; rfl
  rw [hobj] at r2 x2
  have hsz : B.le w₁.heap.size := Fz.le_trans hB x1.size
  refine wpIn_mono (H.code hk_9 (a := a₁) (w := w₁.putObj l (.loop { rc1 with state := .busy })) (ro := some l) r2 (Fz.le_trans hsz x2.size) (er1.mono φ1.le_refl x2.csz) (fun h => by cases h) hβ1) ?_
  rintro e0 a₂ w₃ ⟨e2, t2, d2, σ2, hk_10, rfl, ⟨φ2, r3, x3, _, _⟩, s2⟩
  obtain ⟨b2, hg2, hk_11⟩ := Hp.getK_true hk_10
  obtain ⟨st2, j2, fn2, tr2, ps2, as2, bd2, df2, rfl, hk_12⟩ := Blk.loopK_true hk_11
  have hβ2 := x3.le _ _ hβ1
  obtain ⟨rc2, hw2, v1, v2, v3, v4, v5, v6, v7, v8, v9⟩ := r3.setLoop hβ2 hg2
  -- the round's end
  have fin : ∀ (st' : Nat) (j' : Jump) (bb : Bool), k (.bool bb) (σ2.set β (.loop st' j' fn2 tr2 ps2 as2 bd2 df2)) = true → bb = (Jump.code j').isNone → stOf st' = (if (Jump.code j').isNone then LoopState.ready else .done) →
      (∀ (R : Ending → World → Prop) (a' : Act) (w : World) (l : Nat), (∃ v w', (Instr.endRound l (Jump.code j')).run P w = .ok v w' ∧ R (.returned v) w') → roundPost P l R (exitOf e2) a' w) →
      roundPost P l (fun e w'' => ∃ r, e = .returned r ∧ DidQ P B φ σ w k r w'') (exitOf e2) a₂ w₃ := fun st' j' bb hk' hbb hso hpost => by
    obtain ⟨r4, x4⟩ := v9 st' j'
    rw [hso] at r4 x4
    refine hpost _ _ _ _ ⟨_, _, run_endRound _ hw2, _, rfl, _, _, hk', φ2, r4, x1.trans (x2.trans (x3.trans x4)), ?_, ?_, ?_, ?_⟩
    · rw [hbb]; exact .bool _
    · exact s2.os.trans s1.os
    · exact s2.tape.trans s1.tape
    · exact s2.output.trans s1.output
  rcases AExit.caseK_true hk_12 with ⟨he, hk_13⟩ | ⟨id, he, hk_13⟩ | ⟨he, hk_13⟩
  · rw [Hp.setK_eq] at hk_13
    exact fin 0 .none true hk_13 rfl rfl (fun R a' w l h => by rw [he]; exact h)
  · rw [Hp.setK_eq] at hk_13
    exact fin 2 (.exit id) false hk_13 rfl rfl (fun R a' w l h => by rw [he]; exact h)
  · rw [Hp.setK_eq] at hk_13
    exact fin 2 .ret false hk_13 rfl rfl (fun R a' w l h => by rw [he]; exact h)
theorem callfK_q (H : LvQ P ih) {f args : AV} (hk : callfK ih f args σ k = true) :
    ∀ {B : Fz} {φ : Emb} {w : World} {fv : Value} {xs : Array Value}, Rel P B φ σ w.heap → B.le w.heap.size → VR φ (csz w.heap) f fv → LR φ (csz w.heap) args xs.toList →
      ∃ g first cap, fv = .func (.func g) first cap ∧ (∀ xs w, (callFunc g xs).run P w = .ok (.enter g xs) w) ∧ CallsIn Fence.wide 0 P g (first ++ xs ++ cap) w fun e w' => ∃ r, e = .returned r ∧ DidQ P B φ σ w k r w' := by
  rcases AV.asFn_true hk with ⟨g, cap, rfl, hk_1⟩ | ⟨β, rfl, hk_1⟩
  case inr => cases hk_1
  rcases AV.asCons_true hk_1 with ⟨_, hk_2⟩ | ⟨fs, cs, rfl, hk_2⟩
  · cases hk_2
  obtain ⟨a1, hk_3, h1⟩ := appK_true hk_2
  obtain ⟨a2, hk_4, h2⟩ := appK_true hk_3
  obtain ⟨h3, h4⟩ := H.call hk_4
  intro B φ w fv xs r hB hf hl
  obtain ⟨fs', cs', first, cap, ee, rfl, l1, l2⟩ := hf.func_inv
  cases ee
  refine ⟨g, first, cap, rfl, h3, h4 r hB ?_⟩
  have := h2 l1 (h1 hl l2)
  simpa using this
theorem wr_still {o : Oper} {f : OpF} (h : opW P C o.op = .wr f) (hc : ∀ X args ts, o.op ≠ .call ⟨.value X, args, ts⟩) (ih' : Lv) : f ih' t ls σ k = f ih t ls σ k := by
  obtain ⟨dst, op, ty, pos, after, guard⟩ := o
  simp only at h hc
  cases op
  case call c =>
    obtain ⟨callee, args, argTypes⟩ := c
    cases callee with
    | value X => exact absurd rfl (hc X args argTypes)
    | builtin b =>
      simp only [opW] at h
      unfold builtinW at h
      (repeat' split at h) <;> cases h <;> rfl
    | invoke a b => simp only [opW] at h; cases h
  case binOp op T x y yt =>
    simp only [opW] at h
    split at h
    case h_2 => cases h
    unfold binW at h
    split at h
    · unfold intW at h
      split at h
      split at h <;> (try split at h) <;> cases h
    · unfold strW at h
      split at h <;> cases h
    · split at h
      · unfold eqW at h; (repeat' split at h) <;> cases h
      · unfold eqW at h; (repeat' split at h) <;> cases h
      · cases h
  case convert S D x =>
    simp only [opW] at h
    split at h
    · rename_i x' p q hx hS hD
      cases hq : q.signed <;> simp only [hq, if_true, if_false, Bool.false_eq_true] at h <;> cases h
    · cases h
    · split at h <;> cases h
    · split at h <;> cases h
    · split at h
      · split at h
        · cases h; rfl
        · cases h
      · cases h
    · cases h
  all_goals (simp only [opW] at h; (repeat' split at h) <;> cases h <;> rfl)
theorem opW_wr_q (H : LvQ P ih) {o : Oper} {f : OpF} (h : opW P C o.op = .wr f) (hk : f ih t ls σ k = true) : OpQ P C t ls σ o k := by
  intro B φ w ρ hcc hff r hB he
  by_cases hc : ∃ X args ts, o.op = .call ⟨.value X, args, ts⟩
  case neg =>
    have hs := wr_still (t := t) (ls := ls) (σ := σ) (k := k) (ih := ih) h (fun X args ts e => hc ⟨X, args, ts, e⟩) lv0
    obtain ⟨v, σ', h1, h2⟩ := opW_wr lv0_ok h (hs.trans hk)
    exact (h2 hcc hff r hB he).toQ h1
  obtain ⟨X, args, argTypes, hop⟩ := hc
  obtain ⟨dst, op, ty, pos, after, guard⟩ := o
  simp only at h hop
  subst hop
  have lrs : ∀ {Xs : OpdF} {φ : Emb} {w : World} {ρ : Operand → Value}, unW (opdsW C args.toList) = some Xs → EVO C φ (csz w.heap) t ls ρ (.call ⟨.value X, args, argTypes⟩) → LR φ (csz w.heap) (Xs t ls) (args.map ρ).toList := fun {Xs φ w ρ} hxs he => by
    have := opdsW_r (t := t) (ls := ls) (unW_some hxs) (φ := φ) (κ := csz w.heap) (ρ := ρ) fun Y hY f hf => he Y (by simp [Op.operands, Call.operands]; exact .inr (by simpa using hY)) f hf
    simpa using this
  simp only [opW] at h
  split at h
  · rename_i g hcal
    cases hcal
    split at h
    · rename_i xs hxs
      cases h
      obtain ⟨h2, h3⟩ := H.call (show ih.call g (xs t ls) σ k = true from hk)
      rw [run_callv (hff g), h2]
      refine ⟨rfl, h3 r hB ?_⟩
      simpa using lrs hxs he
    · cases h
  · rename_i X' hne hcal
    cases hcal
    split at h
    · rename_i f' xs hX hxs
      cases h
      have hk2 : (f' t ls).asFn (fun f cap => cap.asCons false fun fs cs => AV.appK cs (xs t ls) fun a => AV.appK a fs fun a => ih.call f a σ k) (fun β => roundK ih β (xs t ls) σ k) = true := hk
      have hXm : X ∈ (Op.call ⟨.value X, args, argTypes⟩).operands.toList := by simp [Op.operands, Call.operands]
      rcases AV.asFn_true hk2 with ⟨g, cap, hfv, hk3⟩ | ⟨β, hfv, hk3⟩
      · have hk4 : callfK ih (f' t ls) (xs t ls) σ k = true := by unfold callfK; rw [hfv]; exact hk3
        obtain ⟨g, first, cap, e1, e2, e3⟩ := callfK_q H hk4 r hB (he X hXm _ (unW_some hX)) (lrs hxs he)
        rw [run_callv e1, e2]
        exact ⟨rfl, e3⟩
      · have hv := he X hXm _ (unW_some hX)
        rw [hfv] at hv
        generalize hρ : ρ X = fv at hv
        cases hv with
        | yield _ b hb =>
          rw [run_cally hρ]
          exact roundK_q H hk3 r hB hb (lrs hxs he)
    · cases h
  · rename_i hcal; cases hcal
  · rename_i hcal; cases hcal
theorem OpW.run_q (H : LvQ P ih) {o : Oper} {k : KV} (hk : (opW P C o.op).run ih t ls σ k = true) : (∀ c, o.op ≠ .defer c) ∧ OpQ P C t ls σ o k := by
  cases ho : opW P C o.op with
  | wr f =>
    have hd : ∀ c, o.op ≠ .defer c := fun c e => by rw [e, opW_defer] at hk; cases hk
    rw [ho] at hk
    exact ⟨hd, opW_wr_q H ho hk⟩
  | rd f dep =>
    have hk' : (opW P C o.op).run lv0 t ls σ k = true := by rw [ho] at hk ⊢; exact hk
    obtain ⟨v, σ', h1, h2, h3⟩ := OpW.run_s lv0_ok hk'
    exact ⟨h2, fun hc hf r hB he => (h3 hc hf r hB he).toQ h1⟩
  | al f =>
    have hk' : (opW P C o.op).run lv0 t ls σ k = true := by rw [ho] at hk ⊢; exact hk
    obtain ⟨v, σ', h1, h2, h3⟩ := OpW.run_s lv0_ok hk'
    exact ⟨h2, fun hc hf r hB he => (h3 hc hf r hB he).toQ h1⟩
  | bad => rw [ho] at hk; cases hk
theorem NextQ.wp {B : Fz} {φ : Emb} {w : World} {k : KV} {o : Oper} {a : Act} {next : Act → World → Prop} {Q : Exit → Act → World → Prop} {ro : Option Nat} (hd : ∀ c, o.op ≠ .defer c) (h : NextQ P B φ σ w k ((execOp a.eval o).run P w))
    (hn : ∀ v σ' r w', k v σ' = true → Did P B φ σ w v σ' r w' → next (a.put o.dst r) w') : o.wpIn (FW ro) 0 P a w next Q := by
  refine ⟨fun _ _ => trivial, ?_⟩
  rw [Oper.semAt_eq _ _ _ hd]
  generalize (execOp a.eval o).run P w = res at h ⊢
  cases res with
  | halt x w' => exact h.elim
  | ok x w' =>
    cases x <;> simp only [NextQ] at h
    case value r => obtain ⟨v, σ', h1, h2⟩ := h; exact hn _ _ _ _ h1 h2
    case skip => obtain ⟨v, σ', h1, h2⟩ := h; exact hn _ _ _ _ h1 h2
    case enter f xs =>
      obtain ⟨rfl, h⟩ := h
      exact ⟨fun hh => (by cases hh), CallsIn.mono h (by rintro e w'' ⟨r, rfl, v, σ', h1, h2⟩; exact hn _ _ _ _ h1 h2)⟩
    case round l f tm as bd =>
      obtain ⟨rfl, h⟩ := h
      exact ⟨fun hh => (by cases hh), RoundIn.mono h (by rintro e w'' ⟨r, rfl, v, σ', h1, h2⟩; exact hn _ _ _ _ h1 h2)⟩
theorem opsW_q (H : LvQ P ih) (all : List Oper) : ∀ (r : List Oper) (i : Nat) (C : Cx) (t : Regs) (ls : Ls) (σ : Hp) (k : KO), all.drop i = r → (opsW P all C r).run ih t ls σ k = true →
    ∀ {B : Fz} {φ : Emb} {a : Act} {w : World} {ro : Option Nat} {Q : Exit → Act → World → Prop}, Rel P B φ σ w.heap → B.le w.heap.size → EnvR φ (csz w.heap) C t ls a.tmps →
      (∀ t' σ' a' w', k t' σ' = true → RegionOK P B φ σ w C t' σ' a a' w' → Q .normal a' w') → wpOpsIn (FW ro) 0 P all.toArray Q (List.range' i r.length) a w := by
  intro r
  induction r with
  | nil =>
    intro i C t ls σ k hdr hk B φ a w ro Q hr hB he hq
    exact hq _ _ _ _ hk ⟨⟨φ, hr, .refl _ _ _ _, he.er⟩, rfl, .refl _⟩
  | cons o r ihr =>
    intro i C t ls σ k hdr hk B φ a w ro Q hr hB he hq
    have hoi : all.toArray[i]? = some o := by
      rw [List.getElem?_toArray]
      have : (all.drop i)[0]? = some o := by rw [hdr]; rfl
      simpa using this
    have hdr' : all.drop (i + 1) = r := by
      have : (all.drop i).drop 1 = r := by rw [hdr]; rfl
      simpa [List.drop_drop, Nat.add_comm] using this
    have hrange : List.range' i (o :: r).length = i :: List.range' (i + 1) r.length := by rw [List.length_cons, List.range'_succ]
    -- what comes behind it
    have next : ∀ {C' : Cx} (hE : C'.E = C.E) (hn : C'.n = C.n) {φ' : Emb} {a' : Act} {σ1 : Hp} {w' : World}, Ext B φ σ w.heap φ' σ1 w'.heap → a'.defers = a.defers → Same w w' →
        ∀ t' σ' a'' w'', k t' σ' = true → RegionOK P B φ' σ1 w' C' t' σ' a' a'' w'' → Q .normal a'' w'' := fun {C'} hE hn {φ' a' σ1 w'} x hd hs t' σ' a'' w'' hk ⟨⟨φ'', r1, x1, e1⟩, d1, s1⟩ =>
      hq _ _ _ _ hk ⟨⟨φ'', r1, x.trans x1, e1.cx hE.symm hn.symm⟩, d1.trans hd, hs.trans s1⟩
    rw [hrange]
    unfold opsW at hk
    split at hk
    · -- a move that wants no work
      rename_i b hal
      obtain ⟨u, b⟩ := b
      obtain ⟨X, e1, e2, e3, e4⟩ := he.alias hal
      simp only [wpOpsIn, hoi]
      have hw : Region.wanted o (yielded all.toArray a.tmps) = true := by unfold Region.wanted; rw [e3]
      rw [if_pos hw]
      refine ⟨fun _ _ => trivial, ?_⟩
      rw [Oper.semAt_eq _ _ _ (fun c hc => by rw [e2] at hc; cases hc)]
      have hx : (execOp a.eval o).run P w = .ok (.value (a.eval X)) w := by simp only [execOp, e2]; rfl
      rw [hx, Oper.uponIn_value, e1]
      exact ihr (i + 1) _ t ls σ k hdr' hk hr hB (e4 a.defers) (next (C' := { C with binds := (u, b) :: C.binds }) rfl rfl (.refl _ _ _ _) (put_eta _ _ _) (.refl _))
    · rename_i hal
      split at hk
      · rename_i d C' hdst hgd
        rw [consW_run] at hk
        obtain ⟨hdf, h2⟩ := OpW.run_q H hk
        obtain ⟨hE, hn⟩ := dstW_cx hdst
        simp only [wpOpsIn, hoi]
        have hw : Region.wanted o (yielded all.toArray a.tmps) = true := by unfold Region.wanted; rw [hgd]
        rw [if_pos hw]
        refine NextQ.wp hdf (h2 (fun _ => rfl) (fun _ => rfl) hr hB (he.evo _)) fun v σ1 x w' h1 hdid => ?_
        rw [putK_eq hdst] at h1
        obtain ⟨φ', r1, x1, v1, s1⟩ := hdid
        exact ihr (i + 1) C' _ _ σ1 k hdr' h1 r1 (Fz.le_trans hB x1.size) ((he.mono x1.le x1.csz).put hdst v1 (ds := a.defers)) (next hE hn x1 (put_eta _ _ _) ⟨s1.1, s1.2.1, s1.2.2⟩)
      · rename_i d C' j w0 hdst hgd
        split at hk
        case h_2 => cases hk
        rename_i g hg
        have hk' : guardK g w0 t ls (putK d .undef t ls fun t ls => (opsW P all C' r).run ih t ls σ k) ((opW P C o.op).run ih t ls σ fun v σ => putK d v t ls fun t ls => (opsW P all C' r).run ih t ls σ k) = true := hk
        obtain ⟨hE, hn⟩ := dstW_cx hdst
        have skip : (g t ls = .undef ∨ ∃ b, b ≠ w0 ∧ g t ls = .bool b) → (putK d .undef t ls fun t ls => (opsW P all C' r).run ih t ls σ k) = true → wpOpsIn (FW ro) 0 P all.toArray Q (i :: List.range' (i + 1) r.length) a w := fun hgv hk2 => by
          rw [putK_eq hdst] at hk2
          simp only [wpOpsIn, hoi]
          have hw : Region.wanted o (yielded all.toArray a.tmps) = false := by
            obtain ⟨_, q2, q3⟩ := wanted_r (C := C) (t := t) (ls := ls) (φ := φ) (κ := csz w.heap) hgd hg fun u _ f hf => he.tmp hf
            rcases hgv with e | ⟨b, hb, e⟩
            · exact q2 e
            · exact q3 b hb e
          rw [hw, if_neg (by simp)]
          exact ⟨fun _ _ => trivial, ihr (i + 1) C' _ _ σ k hdr' hk2 hr hB (he.put hdst .undef (ds := a.defers)) (next hE hn (.refl _ _ _ _) (put_eta _ _ _) (.refl _))⟩
        rcases guardK_true hk' with ⟨e1, hk2⟩ | ⟨b, e1, hb, hk2⟩ | ⟨e1, hk2⟩
        · exact skip (.inl e1) hk2
        · exact skip (.inr ⟨b, hb, e1⟩) hk2
        · obtain ⟨hdf, h2⟩ := OpW.run_q H hk2
          simp only [wpOpsIn, hoi]
          have hw : Region.wanted o (yielded all.toArray a.tmps) = true := (wanted_r (C := C) (t := t) (ls := ls) (φ := φ) (κ := csz w.heap) hgd hg fun u _ f hf => he.tmp hf).1 e1
          rw [if_pos hw]
          refine NextQ.wp hdf (h2 (fun _ => rfl) (fun _ => rfl) hr hB (he.evo _)) fun v σ1 x w' h1 hdid => ?_
          rw [putK_eq hdst] at h1
          obtain ⟨φ', r1, x1, v1, s1⟩ := hdid
          exact ihr (i + 1) C' _ _ σ1 k hdr' h1 r1 (Fz.le_trans hB x1.size) ((he.mono x1.le x1.csz).put hdst v1 (ds := a.defers)) (next hE hn x1 (put_eta _ _ _) ⟨s1.1, s1.2.1, s1.2.2⟩)
      · cases hk
end
end Go.Am
