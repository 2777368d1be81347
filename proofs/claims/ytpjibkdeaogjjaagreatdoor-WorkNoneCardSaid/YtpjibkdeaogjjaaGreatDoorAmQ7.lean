import Derived.Test.YtpjibkdeaogjjaaGreatDoorAmQ6
import Derived.Test.YtpjibkdeaogjjaaGreatDoorAmS28
set_option linter.unusedVariables false
set_option linter.unusedSimpArgs false
/-! Soundness in another form, 7: that a run comes to an end at all, whatever is chosen; calls whose answer is the same in whatever order. -/
namespace Go.Am
open Go
structure LvE (ih : Lv) : Prop where
  call : ∀ {f : Nat} {args : AV} {σ : Hp} {k : KV}, ih.call f args σ k = true → ∃ v σ', k v σ' = true
  code : ∀ {c : Code} {fn : Nat} {rd : Option Ad} {t : Regs} {d : List Ad} {σ : Hp} {k : KC}, ih.code c fn rd t d σ k = true → ∃ e t' d' σ', k e t' d' σ' = true
theorem LvOK.toE {P : Program} {ih : Lv} (H : LvOK P ih) : LvE ih :=
  ⟨fun h => let ⟨v, σ', h1, _⟩ := H.call h; ⟨v, σ', h1⟩, fun h => let ⟨e, t', d', σ', h1, _⟩ := H.code h; ⟨e, t', d', σ', h1⟩⟩
section
variable {P : Program} {C : Cx} {t : Regs} {ls : Ls} {σ : Hp} {k : KV} {ih : Lv}
theorem roundK_e (H : LvE ih) {β : Ad} {args : AV} (hk : roundK ih β args σ k = true) : ∃ v σ', k v σ' = true := by
  obtain ⟨b0, hg0, hk_1⟩ := Hp.getK_true hk
  obtain ⟨st, j, fn, tr, ps, as, bd, df, rfl, hk_2⟩ := Blk.loopK_true hk_1
  obtain ⟨hst, hk_3⟩ := sel_yes hk_2
  obtain ⟨tp, hk_4, _⟩ := setParams_true hk_3
  obtain ⟨e1, t1, d1, σ1, hk_5⟩ := H.code hk_4
  rcases AExit.caseK_true hk_5 with ⟨rfl, hk_6⟩ | ⟨_, _, hk_6⟩ | ⟨_, hk_6⟩
  case inr.inl => cases hk_6
  case inr.inr => cases hk_6
  obtain ⟨b1, hg1, hk_7⟩ := Hp.getK_true hk_6
  obtain ⟨st1, j1, fn1, tr1, ps1, as1, bd1, df1, rfl, hk_8⟩ := Blk.loopK_true hk_7
  obtain ⟨hst1, hk_9⟩ := sel_yes hk_8
  rw [Hp.setK_eq] at hk_9
  obtain ⟨e2, t2, d2, σ2, hk_10⟩ := H.code hk_9
  obtain ⟨b2, hg2, hk_11⟩ := Hp.getK_true hk_10
  obtain ⟨st2, j2, fn2, tr2, ps2, as2, bd2, df2, rfl, hk_12⟩ := Blk.loopK_true hk_11
  rcases AExit.caseK_true hk_12 with ⟨he, hk_13⟩ | ⟨id, he, hk_13⟩ | ⟨he, hk_13⟩ <;> rw [Hp.setK_eq] at hk_13 <;> exact ⟨_, _, hk_13⟩
theorem callfK_e (H : LvE ih) {f args : AV} (hk : callfK ih f args σ k = true) : ∃ v σ', k v σ' = true := by
  rcases AV.asFn_true hk with ⟨g, cap, rfl, hk_1⟩ | ⟨β, rfl, hk_1⟩
  case inr => cases hk_1
  rcases AV.asCons_true hk_1 with ⟨_, hk_2⟩ | ⟨fs, cs, rfl, hk_2⟩
  · cases hk_2
  obtain ⟨a1, hk_3, h1⟩ := appK_true hk_2
  obtain ⟨a2, hk_4, h2⟩ := appK_true hk_3
  exact H.call hk_4
theorem OpW.run_e (H : LvE ih) {o : Oper} (hk : (opW P C o.op).run ih t ls σ k = true) : ∃ v σ', k v σ' = true := by
  cases ho : opW P C o.op with
  | rd f dep =>
    have hk' : (opW P C o.op).run lv0 t ls σ k = true := by rw [ho] at hk ⊢; exact hk
    obtain ⟨v, σ', h1, _⟩ := OpW.run_s lv0_ok hk'
    exact ⟨v, σ', h1⟩
  | al f =>
    have hk' : (opW P C o.op).run lv0 t ls σ k = true := by rw [ho] at hk ⊢; exact hk
    obtain ⟨v, σ', h1, _⟩ := OpW.run_s lv0_ok hk'
    exact ⟨v, σ', h1⟩
  | bad => rw [ho] at hk; cases hk
  | wr f =>
    rw [ho] at hk
    by_cases hc : ∃ X args ts, o.op = .call ⟨.value X, args, ts⟩
    case neg =>
      have hs := wr_still (t := t) (ls := ls) (σ := σ) (k := k) (ih := ih) ho (fun X args ts e => hc ⟨X, args, ts, e⟩) lv0
      obtain ⟨v, σ', h1, h2⟩ := opW_wr lv0_ok ho (hs.trans hk)
      exact ⟨v, σ', h1⟩
    obtain ⟨X, args, argTypes, hop⟩ := hc
    rw [hop] at ho
    simp only [opW] at ho
    split at ho
    · rename_i g hcal
      cases hcal
      split at ho
      · rename_i xs hxs
        cases ho
        exact H.call (show ih.call g (xs t ls) σ k = true from hk)
      · cases ho
    · rename_i X' hne hcal
      cases hcal
      split at ho
      · rename_i f' xs hX hxs
        cases ho
        have hk2 : (f' t ls).asFn (fun f cap => cap.asCons false fun fs cs => AV.appK cs (xs t ls) fun a => AV.appK a fs fun a => ih.call f a σ k) (fun β => roundK ih β (xs t ls) σ k) = true := hk
        rcases AV.asFn_true hk2 with ⟨g, cap, hfv, hk3⟩ | ⟨β, hfv, hk3⟩
        · have hk4 : callfK ih (f' t ls) (xs t ls) σ k = true := by unfold callfK; rw [hfv]; exact hk3
          exact callfK_e H hk4
        · exact roundK_e H hk3
      · cases ho
    · rename_i hcal; cases hcal
    · rename_i hcal; cases hcal
theorem putK_e {dst : Option Tmp} {C' : Cx} {d : Dst} (h : dstW C dst = some (d, C')) {v : AV} {kk : Regs → Ls → Bool} (hk : putK d v t ls kk = true) : ∃ t' ls', kk t' ls' = true := ⟨_, _, by rw [putK_eq h] at hk; exact hk⟩
theorem opsW_e (H : LvE ih) (all : List Oper) : ∀ (r : List Oper) (C : Cx) (t : Regs) (ls : Ls) (σ : Hp) (k : KO), (opsW P all C r).run ih t ls σ k = true → ∃ t' σ', k t' σ' = true := by
  intro r
  induction r with
  | nil => intro C t ls σ k hk; exact ⟨t, σ, hk⟩
  | cons o r ihr =>
    intro C t ls σ k hk
    unfold opsW at hk
    split at hk
    · exact ihr _ _ _ _ _ hk
    · split at hk
      · rename_i d C' hdst hgd
        rw [consW_run] at hk
        obtain ⟨v, σ1, h1⟩ := OpW.run_e H hk
        obtain ⟨t1, ls1, h2⟩ := putK_e hdst h1
        exact ihr _ _ _ _ _ h2
      · rename_i d C' j w0 hdst hgd
        split at hk
        case h_2 => cases hk
        rename_i g hg
        have hk' : guardK g w0 t ls (putK d .undef t ls fun t ls => (opsW P all C' r).run ih t ls σ k) ((opW P C o.op).run ih t ls σ fun v σ => putK d v t ls fun t ls => (opsW P all C' r).run ih t ls σ k) = true := hk
        rcases guardK_true hk' with ⟨e1, hk2⟩ | ⟨b, e1, hb, hk2⟩ | ⟨e1, hk2⟩
        · obtain ⟨t1, ls1, h2⟩ := putK_e hdst hk2
          exact ihr _ _ _ _ _ h2
        · obtain ⟨t1, ls1, h2⟩ := putK_e hdst hk2
          exact ihr _ _ _ _ _ h2
        · obtain ⟨v, σ1, h1⟩ := OpW.run_e H hk2
          obtain ⟨t1, ls1, h2⟩ := putK_e hdst h1
          exact ihr _ _ _ _ _ h2
      · cases hk
theorem opsL_e (H : LvE ih) (all s : List Oper) : ∀ (r : List Oper) (C : Cx) (t : Regs) (ls : Ls) (σ : Hp) (k : Regs → Ls → Hp → Bool) (W : OpsW) (C2 : Cx), opsL P all s C r = some (W, C2) → W.runL ih t ls σ k = true → ∃ t' ls' σ', k t' ls' σ' = true := by
  intro r
  induction r with
  | nil => intro C t ls σ k W C2 hW hk; cases hW; exact ⟨t, ls, σ, hk⟩
  | cons o r ihr =>
    intro C t ls σ k W C2 hW hk
    unfold opsL at hW
    split at hW
    · exact ihr _ _ _ _ _ _ _ hW hk
    · split at hW
      · rename_i d C' hdst hgd
        split at hW
        case h_2 => cases hW
        rename_i W' C3 hW'
        cases hW
        rw [consW_runL] at hk
        obtain ⟨v, σ1, h1⟩ := OpW.run_e H hk
        obtain ⟨t1, ls1, h2⟩ := putK_e hdst h1
        exact ihr _ _ _ _ _ _ _ hW' h2
      · rename_i d C' j w0 hdst hgd
        split at hW
        case h_2 => cases hW
        rename_i g W' C3 hg hW'
        cases hW
        have hk' : guardK g w0 t ls (putK d .undef t ls fun t ls => W'.runL ih t ls σ k) ((opW P C o.op).run ih t ls σ fun v σ => putK d v t ls fun t ls => W'.runL ih t ls σ k) = true := hk
        rcases guardK_true hk' with ⟨e1, hk2⟩ | ⟨b, e1, hb, hk2⟩ | ⟨e1, hk2⟩
        · obtain ⟨t1, ls1, h2⟩ := putK_e hdst hk2
          exact ihr _ _ _ _ _ _ _ hW' h2
        · obtain ⟨t1, ls1, h2⟩ := putK_e hdst hk2
          exact ihr _ _ _ _ _ _ _ hW' h2
        · obtain ⟨v, σ1, h1⟩ := OpW.run_e H hk2
          obtain ⟨t1, ls1, h2⟩ := putK_e hdst h1
          exact ihr _ _ _ _ _ _ _ hW' h2
      · cases hW
theorem rangeGo_e (H : LvE ih) {f : AV} {ps : List Nat} {as bd : Code} {fn : Nat} {t : Regs} {k : KC} {df : Ad} {d : List Ad} {σ : Hp} (hk : rangeGo f ps as bd ih fn t k df d σ = true) : ∃ e t' d' σ', k e t' d' σ' = true := by
  obtain ⟨σ1, m, hk1⟩ := Hp.newK_true hk
  obtain ⟨v, σ2, hk2⟩ := callfK_e H hk1
  obtain ⟨b0, hg, hk3⟩ := Hp.getK_true hk2
  obtain ⟨st, j, fn2, t2, ps2, as2, bd2, df2, rfl, hk4⟩ := Blk.loopK_true hk3
  obtain ⟨hst, hk5⟩ := sel_no hk4
  rw [Hp.setK_eq] at hk5
  cases j with
  | none => exact ⟨_, _, _, _, hk5⟩
  | exit id => exact ⟨_, _, _, _, hk5⟩
  | ret => exact ⟨_, _, _, _, hk5⟩
/-- Of sequences that are gone through in a way of their own. -/
def UnitE (U : Nat → Code → Code → Option CodeW) : Prop := ∀ (ih : Lv), LvE ih → ∀ (fn : Nat) (x y : Code) (u : CodeW), U fn x y = some u → ∀ {rd : Option Ad} {t : Regs} {d : List Ad} {σ : Hp} {k : KC}, u.run ih fn rd t d σ k = true → ∃ e t' d' σ', k e t' d' σ' = true
theorem code_e (H : LvE ih) {N : Lv} (HN : LvOK P N) {U : Nat → Code → Code → Option CodeW} (HU : UnitE U) (fn : Nat) : ∀ (c : Code) {rd : Option Ad} {t : Regs} {d : List Ad} {σ : Hp} {k : KC}, (codeQ P N (U fn) (cxOf P fn) c).run ih fn rd t d σ k = true → ∃ e t' d' σ', k e t' d' σ' = true := by
  intro c
  induction c with
  | skip => intro rd t d σ k hk; exact ⟨_, _, _, _, hk⟩
  | ret => intro rd t d σ k hk; exact ⟨_, _, _, _, hk⟩
  | exit id => intro rd t d σ k hk; exact ⟨_, _, _, _, hk⟩
  | label l => intro rd t d σ k hk; cases hk
  | goto l => intro rd t d σ k hk; cases hk
  | refuse why => intro rd t d σ k hk; cases hk
  | scope body _ => intro rd t d σ k hk; cases hk
  | region id ops draw =>
    intro rd t d σ k hk
    cases draw with
    | false =>
      have hk' : (opsW P ops.toList (cxOf P fn) ops.toList).run ih t .nil σ (fun t σ => k .normal t d σ) = true := hk
      obtain ⟨t', σ', h⟩ := opsW_e H _ _ _ _ _ _ _ hk'
      exact ⟨_, _, _, _, h⟩
    | true =>
      cases hdl : dregW P (cxOf P fn) ops.toList with
      | none =>
        have hk' : (Option.rec (motive := fun _ => CodeW) codeW.bad (drawQ N) (dregW P (cxOf P fn) ops.toList)).run ih fn rd t d σ k = true := hk
        rw [hdl] at hk'
        cases hk'
      | some dl =>
        have hk' : (Option.rec (motive := fun _ => CodeW) codeW.bad (drawQ N) (dregW P (cxOf P fn) ops.toList)).run ih fn rd t d σ k = true := hk
        rw [hdl] at hk'
        have hk2 : dl.run N t σ .nil (fun t σ => k .normal t d σ) = true := hk'
        obtain ⟨t', σ', h1, h2⟩ := dreg_s HN (cxOf_binds P fn) hdl hk2
        exact ⟨_, _, _, _, h1⟩
  | seq x y ihx ihy =>
    intro rd t d σ k hk
    have hk' : (Option.rec (motive := fun _ => CodeW) (.mk (cSeq (codeQ P N (U fn) (cxOf P fn) x) (codeQ P N (U fn) (cxOf P fn) y))) (fun u => u) (U fn x y)).run ih fn rd t d σ k = true := hk
    cases hu : U fn x y with
    | some u =>
      rw [hu] at hk'
      exact HU ih H fn x y u hu hk'
    | none =>
    rw [hu] at hk'
    have hk2 : (codeQ P N (U fn) (cxOf P fn) x).run ih fn rd t d σ (fun e t d σ => AExit.caseK ((codeQ P N (U fn) (cxOf P fn) y).run ih fn rd t d σ k) (fun id => k (.exit id) t d σ) (k .ret t d σ) e) = true := hk'
    obtain ⟨e1, t1, d1, σ1, h1⟩ := ihx hk2
    rcases AExit.caseK_true h1 with ⟨rfl, hk3⟩ | ⟨id, rfl, hk3⟩ | ⟨rfl, hk3⟩
    · exact ihy hk3
    · exact ⟨_, _, _, _, hk3⟩
    · exact ⟨_, _, _, _, hk3⟩
  | cond c x y ihx ihy =>
    intro rd t d σ k hk
    cases hc : unW (opdW (cxOf P fn) c) with
    | none =>
      have hk' : (Option.rec (motive := fun _ => CodeW) codeW.bad (fun c => .mk (cCond c (codeQ P N (U fn) (cxOf P fn) x) (codeQ P N (U fn) (cxOf P fn) y))) (unW (opdW (cxOf P fn) c))).run ih fn rd t d σ k = true := hk
      rw [hc] at hk'; cases hk'
    | some f =>
      have hk' : (Option.rec (motive := fun _ => CodeW) codeW.bad (fun c => .mk (cCond c (codeQ P N (U fn) (cxOf P fn) x) (codeQ P N (U fn) (cxOf P fn) y))) (unW (opdW (cxOf P fn) c))).run ih fn rd t d σ k = true := hk
      rw [hc] at hk'
      have hk2 : (f t .nil).asBool (fun c => sel c ((codeQ P N (U fn) (cxOf P fn) x).run ih fn rd t d σ k) ((codeQ P N (U fn) (cxOf P fn) y).run ih fn rd t d σ k)) = true := hk'
      obtain ⟨b, hb, hk3⟩ := AV.asBool_true hk2
      rw [sel_true_iff] at hk3
      rcases hk3 with ⟨rfl, hk4⟩ | ⟨rfl, hk4⟩
      · exact ihx hk4
      · exact ihy hk4
  | block id x ihx =>
    intro rd t d σ k hk
    have hk' : (codeQ P N (U fn) (cxOf P fn) x).run ih fn rd t d σ (fun e t d σ => AExit.caseK (k .normal t d σ) (fun id' => sel (Nat.beq id id') (k .normal t d σ) (k (.exit id') t d σ)) (k .ret t d σ) e) = true := hk
    obtain ⟨e1, t1, d1, σ1, h1⟩ := ihx hk'
    rcases AExit.caseK_true h1 with ⟨rfl, hk2⟩ | ⟨id', rfl, hk2⟩ | ⟨rfl, hk2⟩
    · exact ⟨_, _, _, _, hk2⟩
    · rw [sel_true_iff] at hk2
      rcases hk2 with ⟨hid, hk3⟩ | ⟨hid, hk3⟩ <;> exact ⟨_, _, _, _, hk3⟩
    · exact ⟨_, _, _, _, hk2⟩
  | loop x ihx =>
    intro rd t d σ k hk
    have hk' : (codeQ P N (U fn) (cxOf P fn) x).run ih fn rd t d σ (fun e t d σ => AExit.caseK (ih.code (.loop x) fn rd t d σ k) (fun id => k (.exit id) t d σ) (k .ret t d σ) e) = true := hk
    obtain ⟨e1, t1, d1, σ1, h1⟩ := ihx hk'
    rcases AExit.caseK_true h1 with ⟨rfl, hk2⟩ | ⟨id, rfl, hk2⟩ | ⟨rfl, hk2⟩
    · exact H.code hk2
    · exact ⟨_, _, _, _, hk2⟩
    · exact ⟨_, _, _, _, hk2⟩
  | rangeFunc g ps as bd _ _ =>
    intro rd t d σ k hk
    cases hg : unW (opdW (cxOf P fn) g) with
    | none =>
      have hk' : (Option.rec (motive := fun _ => CodeW) codeW.bad (fun f => if ps.toList.all (cxOf P fn).glob then .mk (cRange f ps.toList as bd) else codeW.bad) (unW (opdW (cxOf P fn) g))).run ih fn rd t d σ k = true := hk
      rw [hg] at hk'; cases hk'
    | some f =>
      have hk' : (Option.rec (motive := fun _ => CodeW) codeW.bad (fun f => if ps.toList.all (cxOf P fn).glob then .mk (cRange f ps.toList as bd) else codeW.bad) (unW (opdW (cxOf P fn) g))).run ih fn rd t d σ k = true := hk
      rw [hg] at hk'
      have hk2 : (if ps.toList.all (cxOf P fn).glob then CodeW.mk (cRange f ps.toList as bd) else codeW.bad).run ih fn rd t d σ k = true := hk'
      split at hk2
      case isFalse => cases hk2
      cases rd with
      | none =>
        have hk3 : σ.newK (.defr true) (fun df σ => rangeGo (f t .nil) ps.toList as bd ih fn t k df (.cons df d) σ) = true := hk2
        obtain ⟨σ0, m, hk4⟩ := Hp.newK_true hk3
        exact rangeGo_e H hk4
      | some l0 =>
        have hk3 : σ.getK l0 (fun b => b.loopK fun _ _ _ _ _ _ _ df => rangeGo (f t .nil) ps.toList as bd ih fn t k df d σ) = true := hk2
        obtain ⟨b0, hg0, hk4⟩ := Hp.getK_true hk3
        obtain ⟨st, j, fn2, t2, ps2, as2, bd2, df2, rfl, hk5⟩ := Blk.loopK_true hk4
        exact rangeGo_e H hk5
theorem enter_e {f : Nat} {fn : Func} {r : ResW} {cw : CodeW} (hr : resW P (cxOf P f) fn.results.toList = some r)
    (hcw : ∀ {t : Regs} {d : List Ad} {σ : Hp} {k : KC}, cw.run ih f none t d σ k = true → ∃ e t' d' σ', k e t' d' σ' = true)
    {args : AV} {σ : Hp} {k : KV} (hk : enterK ih f (.mk cw r) args σ k = true) : ∃ v σ', k v σ' = true := by
  have hbinds := cxOf_binds P f
  have hk' : argsK 256 args 0 (.all (.all (.all .undef))) (fun t => cw.run ih f none t [] σ fun e t d σ =>
    AExit.caseK (marksK d σ fun σ => r.out t σ fun v => k v σ) (fun _ => false) (marksK d σ fun σ => r.out t σ fun v => k v σ) e) = true := hk
  obtain ⟨t0, h1, _⟩ := argsK_true _ _ _ _ _ (by decide) hk'
  obtain ⟨e, t1, d1, σ1, h3⟩ := hcw h1
  have fin : (marksK d1 σ1 fun σ => r.out t1 σ fun v => k v σ) = true → ∃ v σ', k v σ' = true := fun hk2 => by
    obtain ⟨σ2, h4, _⟩ := marks_s (P := P) d1 σ1 _ hk2
    obtain ⟨v, h5, _⟩ := resOut_s hbinds hr h4
    exact ⟨v, σ2, h5⟩
  rcases AExit.caseK_true h3 with ⟨he, hk2⟩ | ⟨_, _, hk2⟩ | ⟨he, hk2⟩
  · exact fin hk2
  · cases hk2
  · exact fin hk2
theorem lvQ_e {S : Nat → Option SumF} (hS : SumOK P S) {N : Lv} (HN : LvOK P N) {U : Nat → Code → Code → Option CodeW} (HU : UnitE U) : ∀ n, LvE (lvQ P S N U n)
  | 0 => ⟨(fun h => by cases h), (fun h => by cases h)⟩
  | n + 1 => by
    have H := lvQ_e hS HN HU n
    refine ⟨fun {f args σ k} hk => ?_, fun {c fn rd t d σ k} hk => code_e H HN HU fn c hk⟩
    have hk' : Option.rec (motive := fun _ => Bool) (Option.rec (motive := fun _ => Bool) false (fun w => enterK (lvQ P S N U n) f w args σ k) (fnQ P N U f)) (fun F => F args σ k) (S f) = true := hk
    cases hs : S f with
    | some F =>
      rw [hs] at hk'
      obtain ⟨v, σ', h1, h2⟩ := hS f F hs hk'
      exact ⟨v, σ', h1⟩
    | none =>
      rw [hs] at hk'
      cases hf : fnQ P N U f with
      | none =>
        have hk2 : Option.rec (motive := fun _ => Bool) false (fun w => enterK (lvQ P S N U n) f w args σ k) (fnQ P N U f) = true := hk'
        rw [hf] at hk2; cases hk2
      | some fw =>
        have hk2 : Option.rec (motive := fun _ => Bool) false (fun w => enterK (lvQ P S N U n) f w args σ k) (fnQ P N U f) = true := hk'
        rw [hf] at hk2
        unfold fnQ at hf
        split at hf
        case h_2 => cases hf
        rename_i fn hfn
        split at hf
        case h_2 => cases hf
        rename_i b r hb hr
        split at hf
        · cases hf
        cases hf
        exact enter_e hr (fun h => code_e H HN HU f b h) hk2
theorem picksK_e {all : Bool} {f : AV → AV → AMap → Bool} {a v : AV} {r : AMap} {pre : AMap → AMap} (h : (AMap.cons a v r).picksK all f pre = true) : f a v (pre r) = true := by
  have h' : sel all (sel (f a v (pre r)) (r.picksK all f fun x => pre (.cons a v x)) false) (f a v (pre r)) = true := h
  cases all with
  | true => exact (sel_yes (show sel (f a v (pre r)) (r.picksK true f fun x => pre (.cons a v x)) false = true from h')).1
  | false => exact h'
theorem mapW_e (H : LvE ih) {all : Bool} {fn : Nat} {x y : Code} {u : MU} (hu : mapW P (cxOf P fn) x y = some u) {rd : Option Ad} {t : Regs} {d : List Ad} {σ : Hp} {k : KC} (hk : mapCode all u ih fn rd t d σ k = true) : ∃ e t' d' σ', k e t' d' σ' = true := by
  unfold mapW at hu
  split at hu
  · cases hu
  rename_i ops1 ops2 tok Z bid b2 hsh
  split at hu
  case h_2 => cases hu
  rename_i init last hd r2 en r3 Y hlast hZ
  split at hu
  case h_2 => cases hu
  rename_i it T X tn it1 te it2 hrg hnx hen
  split at hu
  case isFalse => cases hu
  rename_i hcond
  obtain ⟨rfl, rfl, hit, htok, hmt⟩ := hcond
  split at hu
  case h_2 => cases hu
  rename_i W C1 hW
  split at hu
  case h_2 => cases hu
  rename_i fx dn Cn de Ce ftok fit hfx hdn hde hftok hfit
  cases hu
  have hk1 : W.runL ih t .nil σ (fun t ls σ => (fx t ls).asMp
      (σ.newK .dead fun α σ => (regW it).setK t (.ptr α 0) fun t => doneK fit α dn (opsW P (hd :: r2) Cn r2) ftok ih t σ fun t σ => k .normal t d σ)
      fun β => σ.mpK β fun m => σ.newK .dead fun α σ => σ.setK β .dead fun σ => (regW it).setK t (.ptr α 0) fun t =>
        goK all (doneK fit α dn (opsW P (hd :: r2) Cn r2) ftok ih) (fun a v t d σ k => stepK fit α dn (opsW P (hd :: r2) Cn r2) ftok de (opsW P (en :: r3) Ce r3) b2 Y ih fn rd a v t d σ k) (finK β m) bid k 64 m t d σ) = true := hk
  have hdone : ∀ {α : Ad} {t : Regs} {σ : Hp} {kk : Regs → Hp → Bool}, doneK fit α dn (opsW P (hd :: r2) Cn r2) ftok ih t σ kk = true → ∃ t' σ', kk t' σ' = true := fun {α t σ kk} h => by
    obtain ⟨_, h1⟩ := hereK_true h
    obtain ⟨t1, ls1, h2⟩ := putK_e hdn h1
    obtain ⟨t2, σ2, h3⟩ := opsW_e H _ _ _ _ _ _ _ h2
    obtain ⟨c, _, h4⟩ := AV.asBool_true h3
    exact ⟨_, _, (sel_no h4).2⟩
  obtain ⟨t1, ls1, σ1, hk2⟩ := opsL_e H _ _ _ _ _ _ _ _ _ _ hW hk1
  rcases AV.asMp_true hk2 with ⟨hfv, hk3⟩ | ⟨β, hfv, hk3⟩
  · obtain ⟨σ2, hm2, hk4⟩ := Hp.newK_true hk3
    rw [RegW.setK_eq] at hk4
    obtain ⟨t', σ', h⟩ := hdone hk4
    exact ⟨_, _, _, _, h⟩
  · obtain ⟨m, hg, hk4⟩ := Hp.mpK_true hk3
    obtain ⟨σ2, hm2, hk5⟩ := Hp.newK_true hk4
    rw [Hp.setK_eq, RegW.setK_eq] at hk5
    have go : ∀ (n : Nat) (m' : AMap) (t : Regs) (d : List Ad) (σ : Hp), goK all (doneK fit σ1.nx dn (opsW P (hd :: r2) Cn r2) ftok ih) (fun a v t d σ k => stepK fit σ1.nx dn (opsW P (hd :: r2) Cn r2) ftok de (opsW P (en :: r3) Ce r3) b2 Y ih fn rd a v t d σ k) (finK β m) bid k n m' t d σ = true → ∃ e t' d' σ', k e t' d' σ' = true := by
      intro n
      induction n with
      | zero => intro m' t d σ h; cases h
      | succ n ihn =>
        intro m' t d σ h
        cases m' with
        | nil =>
          have h' : doneK fit σ1.nx dn (opsW P (hd :: r2) Cn r2) ftok ih t σ (fun t σ => finK β m σ fun σ => k .normal t d σ) = true := h
          obtain ⟨t2, σ2, h2⟩ := hdone h'
          exact ⟨_, _, _, _, (finK_true h2).2⟩
        | cons a v r =>
          have hp : (AMap.cons a v r).picksK all (fun av vv rm => stepK fit σ1.nx dn (opsW P (hd :: r2) Cn r2) ftok de (opsW P (en :: r3) Ce r3) b2 Y ih fn rd av vv t d σ fun e t d σ =>
            AExit.caseK (goK all (doneK fit σ1.nx dn (opsW P (hd :: r2) Cn r2) ftok ih) (fun a v t d σ k => stepK fit σ1.nx dn (opsW P (hd :: r2) Cn r2) ftok de (opsW P (en :: r3) Ce r3) b2 Y ih fn rd a v t d σ k) (finK β m) bid k n rm t d σ) (fun id => finK β m σ fun σ => sel (Nat.beq bid id) (k .normal t d σ) (k (.exit id) t d σ)) (finK β m σ fun σ => k .ret t d σ) e) (fun x => x) = true := h
          have h1 := picksK_e hp
          obtain ⟨_, h2⟩ := hereK_true (show hereK fit σ1.nx t _ = true from h1)
          obtain ⟨t3, ls3, h3⟩ := putK_e hdn h2
          obtain ⟨t4, σ4, h4⟩ := opsW_e H _ _ _ _ _ _ _ h3
          obtain ⟨c, _, h5⟩ := AV.asBool_true h4
          obtain ⟨_, h6⟩ := hereK_true (sel_yes h5).2
          obtain ⟨t7, ls7, h7⟩ := putK_e hde h6
          obtain ⟨t8, σ8, h8⟩ := opsW_e H _ _ _ _ _ _ _ h7
          obtain ⟨e9, t9, d9, σ9, h9⟩ := H.code h8
          rcases AExit.caseK_true h9 with ⟨rfl, h10⟩ | ⟨id, rfl, h10⟩ | ⟨rfl, h10⟩
          · exact ihn _ _ _ _ h10
          · rw [sel_true_iff] at h10
            rcases h10 with ⟨_, h11⟩ | ⟨_, h11⟩
            · exact ihn _ _ _ _ h11
            · obtain ⟨_, h12⟩ := finK_true (show finK β m σ9 (fun σ => sel (Nat.beq bid id) (k .normal t9 d9 σ) (k (.exit id) t9 d9 σ)) = true from h11)
              rw [sel_true_iff] at h12
              rcases h12 with ⟨_, h13⟩ | ⟨_, h13⟩ <;> exact ⟨_, _, _, _, h13⟩
          · obtain ⟨_, h11⟩ := finK_true (show finK β m σ9 (fun σ => k .ret t9 d9 σ) = true from h10)
            exact ⟨_, _, _, _, h11⟩
    exact go _ _ _ _ _ hk5
theorem unitQ_e {all : Bool} : UnitE (unitQ P all) := fun ih H fn x y u hu {rd t d σ k} hk => by
  unfold unitQ at hu
  split at hu
  · rename_i u' hu'
    cases hu
    exact mapW_e H hu' hk
  · cases hu
end
/-! ### Calls whose answer is the same in whatever order -/
/-- The blocks from one on are let go. -/
noncomputable def buryK (nx : Ad) (k : Hp → Bool) : Nat → Ad → Hp → Bool :=
  Nat.rec (motive := fun _ => Ad → Hp → Bool) (fun _ _ => false) (fun _ ih γ l => Ad.beqK γ nx (k l) (l.setK γ .dead fun l => γ.succK fun γ => ih γ l))
/-- The block that an answer is made of stays. -/
noncomputable def stayK (v : AV) (l l' : Hp) (k : Hp → Bool) : Bool :=
  AV.rec (motive := fun _ => Bool) (k l') (fun _ => k l') (fun _ _ => k l') (fun _ _ => k l') (fun _ _ => k l') (k l') (k l') (fun β _ => l.getK β fun b => l'.setK β b k) (k l') (fun β _ _ _ _ _ => l.getK β fun b => l'.setK β b k) (k l') (fun β => l.getK β fun b => l'.setK β b k)
    (k l') (fun _ _ _ => k l') (fun _ => k l') (k l') (fun _ _ _ => k l') (fun _ _ _ => k l') (fun _ _ => k l') (k l') (fun _ _ _ _ => k l') (k l') (fun _ _ => k l') (fun _ _ => k l') (fun _ _ _ _ _ => k l') v
/-- One order is gone through (L1) for an answer; it is that in every order (LA). -/
noncomputable def permF (L1 LA : Lv) (f : Nat) : SumF := fun args σ k =>
  L1.call f args σ fun v0 l0 => buryK l0.nx (fun l1 => stayK v0 l0 l1 fun l => sel (LA.call f args σ fun v σ' => sel (AV.eqK v v0) (Hp.weakK σ σ' l) false) (k v0 l) false) 8192 σ.nx l0
theorem buryK_true {nx : Ad} {k : Hp → Bool} : ∀ (n : Nat) {γ : Ad} {l : Hp}, buryK nx k n γ l = true → ∃ l, k l = true
  | 0, _, _, h => by cases h
  | n + 1, γ, l, h => by
    have h' : Ad.beqK γ nx (k l) (l.setK γ .dead fun l => γ.succK fun γ => buryK nx k n γ l) = true := h
    rw [Ad.beqK_eq] at h'
    split at h'
    · exact ⟨_, h'⟩
    · rw [Hp.setK_eq] at h'
      obtain ⟨q, _, h2⟩ := Ad.succK_true h'
      exact buryK_true n h2
theorem stayK_true {v : AV} {l l' : Hp} {k : Hp → Bool} (h : stayK v l l' k = true) : ∃ x, k x = true := by
  cases v <;> first | exact ⟨_, h⟩ | (obtain ⟨b, _, h1⟩ := Hp.getK_true h; rw [Hp.setK_eq] at h1; exact ⟨_, h1⟩)
theorem perm_ok {P : Program} {L1 LA : Lv} (H1 : LvE L1) (HA : LvQ P LA) {f : Nat} {args : AV} {σ : Hp} {k : KV} (hk : permF L1 LA f args σ k = true) : ∃ v σ', k v σ' = true ∧ CallOK P f σ args v σ' := by
  obtain ⟨v0, l0, h1⟩ := H1.call (show L1.call f args σ _ = true from hk)
  obtain ⟨l1, h2⟩ := buryK_true _ h1
  obtain ⟨l, h3⟩ := stayK_true h2
  obtain ⟨h4, h5⟩ := sel_yes h3
  obtain ⟨h6, h7⟩ := HA.call h4
  refine ⟨v0, l, h5, h6, fun r hB hl => (h7 r hB hl).mono ?_⟩
  rintro e w' ⟨x, rfl, v, σ', h8, hd⟩
  obtain ⟨h9, h10⟩ := sel_yes h8
  obtain rfl := AV.eqK_true h9
  exact ⟨x, rfl, hd.weaken (Hp.weakK_true h10)⟩
end Go.Am
