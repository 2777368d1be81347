import Derived.Test.YtpjibkdeaogjjaaGreatDoorAmQ1
set_option linter.unusedVariables false
set_option linter.unusedSimpArgs false
/-! Soundness in another form, 2: code, functions, the second machine. Regions that draw their order call by way of the first machine (N); some sequences of code (U) are gone through in a way of their own. -/
namespace Go.Am
open Go
abbrev UnitF := Nat → Code → Code → Option CodeW
noncomputable def drawQ (N : Lv) (l : DL) : CodeW := .mk fun _ _ _ t d σ k => l.run N t σ .nil fun t σ => k .normal t d σ
noncomputable def codeQ (P : Program) (N : Lv) (U : Code → Code → Option CodeW) (C : Cx) : Code → CodeW :=
  Code.rec (motive := fun _ => CodeW)
    (.mk fun _ _ _ t d σ k => k .normal t d σ)
    (fun _ ops draw => Bool.rec (motive := fun _ => CodeW) (codeW.opsCode (opsW P ops.toList C ops.toList)) (Option.rec (motive := fun _ => CodeW) codeW.bad (drawQ N) (dregW P C ops.toList)) draw)
    (fun x y a b => Option.rec (motive := fun _ => CodeW) (.mk (cSeq a b)) (fun u => u) (U x y))
    (fun c _ _ a b => Option.rec (motive := fun _ => CodeW) codeW.bad (fun c => .mk (cCond c a b)) (unW (opdW C c)))
    (fun id _ a => .mk (cBlock id a))
    (fun c a => .mk (cLoop c a))
    (fun f ps as body _ _ => Option.rec (motive := fun _ => CodeW) codeW.bad (fun f => if ps.toList.all C.glob then .mk (cRange f ps.toList as body) else codeW.bad) (unW (opdW C f)))
    (fun id => .mk fun _ _ _ t d σ k => k (.exit id) t d σ)
    (fun _ _ => codeW.bad) (fun _ => codeW.bad) (fun _ => codeW.bad)
    (.mk fun _ _ _ t d σ k => k .ret t d σ)
    (fun _ => codeW.bad)
noncomputable def fnQ (P : Program) (N : Lv) (U : Nat → Code → Code → Option CodeW) (f : Nat) : Option FnW :=
  match P.funcs[f]? with
  | some fn => match fn.body, resW P (cxOf P f) fn.results.toList with
    | some b, some r => if (fn.name == "runtime.NumGoroutine") then none else some (.mk (codeQ P N (U f) (cxOf P f) b) r)
    | _, _ => none
  | none => none
noncomputable def nextQ (P : Program) (S : Nat → Option SumF) (N : Lv) (U : Nat → Code → Code → Option CodeW) (ih : Lv) : Lv where
  call f args σ k := Option.rec (motive := fun _ => Bool) (Option.rec (motive := fun _ => Bool) false (fun w => enterK ih f w args σ k) (fnQ P N U f)) (fun F => F args σ k) (S f)
  code c fn rd t d σ k := (codeQ P N (U fn) (cxOf P fn) c).run ih fn rd t d σ k
noncomputable def lvQ (P : Program) (S : Nat → Option SumF) (N : Lv) (U : Nat → Code → Code → Option CodeW) : Nat → Lv :=
  Nat.rec (motive := fun _ => Lv) ⟨fun _ _ _ _ => false, fun _ _ _ _ _ _ _ => false⟩ (fun _ ih => nextQ P S N U ih)
/-- What a sequence's own way has to hold. -/
def UnitOK (P : Program) (U : Nat → Code → Code → Option CodeW) : Prop := ∀ (ih : Lv), LvQ P ih → ∀ (fn : Nat) (x y : Code) (u : CodeW), U fn x y = some u → ∀ {rd : Option Ad} {t : Regs} {d : List Ad} {σ : Hp} {k : KC}, u.run ih fn rd t d σ k = true → CodeQ P (.seq x y) fn rd t d σ k
section
variable {P : Program} {ih : Lv}
theorem rangeGo_q (H : LvQ P ih) {f : AV} {ps : List Nat} {as bd : Code} {fn : Nat} {t : Regs} {k : KC} {df : Ad} {d : List Ad} {σ : Hp} (hk : rangeGo f ps as bd ih fn t k df d σ = true) :
    ∀ {B : Fz} {φ : Emb} {w : World} {fv : Value} {dd : Nat} {tmps : Array Value} (fn' : FuncId), Rel P B φ σ w.heap → B.le w.heap.size → ER φ (csz w.heap) (cxOf P fn) t tmps → VR φ (csz w.heap) f fv → φ df = some (dd, 0) → ps.all (cxOf P fn).glob = true →
      ∃ g first cap, fv = .func (.func g) first cap ∧ (∀ xs w, (callFunc g xs).run P w = .ok (.enter g xs) w) ∧
        CallsIn Fence.wide 0 P g (first ++ #[.func (.yield w.heap.size) #[] #[]] ++ cap) (w.alloc (.loop { state := .ready, pending := none, fn := fn', tmps := tmps, params := ps.toArray, assign := as, body := bd, defers := dd })) fun e' w' =>
          ∃ r, e' = .returned r ∧ ∃ e σ' w4, k e t d σ' = true ∧ (Instr.endLoop w.heap.size).run P w' = .ok (jumpOf e) w4 ∧ ∃ φ', Rel P B φ' σ' w4.heap ∧ Ext B φ σ w.heap φ' σ' w4.heap ∧ Same w w4 := by
  intro B φ w fv dd tmps fn' r hB he hf hdf hps
  obtain ⟨σ1, m, hk1⟩ := Hp.newK_true hk
  have hn := r.nx_none
  have hsz := csz_push w.heap (.loop { state := .ready, pending := none, fn := fn', tmps := tmps, params := ps.toArray, assign := as, body := bd, defers := dd })
  obtain ⟨r1, x1⟩ := r.made m (.loop { state := .ready, pending := none, fn := fn', tmps := tmps, params := ps.toArray, assign := as, body := bd, defers := dd }) hB rfl
    (.loop 0 .none fn t ps as bd df _ dd tmps fn' (by simp [stOf, Jump.code]) (he.mono (Emb.put_le hn) hsz) (Emb.put_le hn _ _ hdf) hps)
  obtain ⟨g, first, cap, e1, e2, e3⟩ := callfK_q H hk1 (w := w.alloc (.loop { state := .ready, pending := none, fn := fn', tmps := tmps, params := ps.toArray, assign := as, body := bd, defers := dd })) (xs := #[.func (.yield w.heap.size) #[] #[]]) r1 (Fz.le_trans hB x1.size) (hf.mono (Emb.put_le hn) hsz)
    (LR.cons (.yield _ _ (Emb.put_self _ _ _)) LR.nil)
  refine ⟨g, first, cap, e1, e2, CallsIn.mono e3 ?_⟩
  rintro e' w' ⟨rr, rfl, v, σ2, hk2, φ', r2, x2, _, o1, o2, o3⟩
  obtain ⟨b0, hg, hk3⟩ := Hp.getK_true hk2
  obtain ⟨st, j, fn2, t2, ps2, as2, bd2, df2, rfl, hk4⟩ := Blk.loopK_true hk3
  obtain ⟨hst, hk5⟩ := sel_no hk4
  rw [Hp.setK_eq] at hk5
  have hβ : φ' σ.nx = some (w.heap.size, 0) := x2.le _ _ (Emb.put_self _ _ _)
  obtain ⟨rc, hw, u1, u2, u3, u4, u5, u6, u7, u8, u9⟩ := r2.setLoop hβ hg
  obtain ⟨r3, x3⟩ := u9 3 j
  have hobj : ({ rc with state := stOf 3, pending := j.code } : Loop) = { rc with state := .exhausted } := by rw [← u2]; rfl
  rw [hobj] at r3 x3
  have hbu : ∀ γ, (σ2.set σ.nx .dead).get γ = if γ = σ.nx then some .dead else (σ2.set σ.nx (.loop 3 j fn2 t2 ps2 as2 bd2 df2)).get γ := fun γ => by
    rw [Hp.get_set, Hp.get_set]
    by_cases hγ : γ = σ.nx
    · rw [if_pos hγ, if_pos hγ]
    · rw [if_neg hγ, if_neg hγ, if_neg hγ]
  have fin : ∀ e, jumpOf e = j.code → k e t d (σ2.set σ.nx .dead) = true →
      ∃ r, Ending.returned rr = .returned r ∧ ∃ e σ' w4, k e t d σ' = true ∧ (Instr.endLoop w.heap.size).run P w' = .ok (jumpOf e) w4 ∧ ∃ φ', Rel P B φ' σ' w4.heap ∧ Ext B φ σ w.heap φ' σ' w4.heap ∧ Same w w4 := fun e hje hke =>
    ⟨rr, rfl, e, _, w'.putObj w.heap.size (.loop { rc with state := .exhausted }), hke, by rw [run_endLoop hw (by rw [u1]; exact stOf_busy hst), u2, hje], φ', r3.bury hbu rfl, (x1.trans (x2.trans x3)).bury (Nat.le_refl _) hbu rfl, ⟨o1, o2, o3⟩⟩
  cases j with
  | none => exact fin .normal rfl hk5
  | exit id => exact fin (.exit id) rfl hk5
  | ret => exact fin .ret rfl hk5
theorem range_fin_q {fn : Nat} {g : Operand} {f : AV} {ps : List Nat} {as bd : Code} {rd : Option Ad} {t : Regs} {d : List Ad} {σ : Hp} {df : Ad} {d' : List Ad} {σ0 : Hp} {k : KC} (H : LvQ P ih) (hev : ∀ {φ : Emb} {κ : Nat → Nat} {a : Act}, ER φ κ (cxOf P fn) t a.tmps → VR φ κ f (a.eval g)) (hps : ps.all (cxOf P fn).glob = true)
    (hk : rangeGo f ps as bd ih fn t k df d' σ0 = true) (hent : EntersOK P fn ps as bd rd t d σ df d' σ0) : CodeQ P (.rangeFunc g ps.toArray as bd) fn rd t d σ k := by
  intro B φ a w ro r hB he hd hr
  refine wpIn_rangeFunc fun fn' _ => ?_
  obtain ⟨φ1, w1, dd, marks, r1, x1, s1, hdf, hdr, hrun⟩ := hent r hB he hd hr
  obtain ⟨gg, first, cap, e1, e2, e3⟩ := rangeGo_q H hk fn' r1 (Fz.le_trans hB x1.size) (he.mono x1.le x1.csz) ((hev he).mono x1.le x1.csz) hdf hps
  have hrun' := hrun fn'
  generalize w1.alloc (.loop { state := .ready, pending := none, fn := fn', tmps := a.tmps, params := ps.toArray, assign := as, body := bd, defers := dd }) = W at e3 hrun'
  have e4 := callsIn_fw (ro := ro) (CallsIn.mono (R' := rangePost (FW ro) 0 P w1.heap.size (fun e' a' w' => ∃ e t' d' σ', k e t' d' σ' = true ∧ Ended P B φ σ w (cxOf P fn) rd e t' d' σ' e' a' w') { a with defers := marks ++ a.defers }) e3 (by
    rintro e' w' ⟨rr, rfl, e, σ', w4, hke, h4, φ', r4, x4, s4⟩
    have hE : ∃ e t' d' σ', k e t' d' σ' = true ∧ Ended P B φ σ w (cxOf P fn) rd e t' d' σ' (exitOf e) { a with defers := marks ++ a.defers } w4 :=
      ⟨e, t, d', σ', hke, rfl, ⟨φ', r4, x1.trans x4, he.mono (x1.trans x4).le (x1.trans x4).csz, hdr.mono x4.le⟩, s1.trans s4⟩
    have hE' : ∃ e1 t' d' σ', k e1 t' d' σ' = true ∧ Ended P B φ σ w (cxOf P fn) rd e1 t' d' σ' (exitOf e) { a with defers := marks ++ a.defers } w4 :=
      ⟨e, t, d', σ', hke, rfl, ⟨φ', r4, x1.trans x4, he.mono (x1.trans x4).le (x1.trans x4).csz, hdr.mono x4.le⟩, s1.trans s4⟩
    refine ⟨_, w4, h4, ?_⟩
    cases e with
    | normal => exact hE'
    | exit id => exact wpIn_exit hE'
    | ret => exact wpIn_ret hE'))
  refine ⟨w1.heap.size, marks, W, { target := .fn (.func gg) cap, args := first ++ #[.func (.yield w1.heap.size) #[] #[]] }, W, gg, first ++ #[.func (.yield w1.heap.size) #[] #[]] ++ cap, W, hrun', ?_, fun _ _ => trivial, ?_, fun hh => (by cases hh), ?_⟩
  · simp only [resolve, rangeCall, e1, Deferred.ofValue, Sem.run_pure]
    rw [show (#[Operand.const (Value.func (Fn.yield w1.heap.size) #[] #[])] : Array Operand).map a.eval = #[Value.func (Fn.yield w1.heap.size) #[] #[]] from by simp [Act.eval]]
  · simp [invoke, e2]
  · exact e4
theorem code_q (H : LvQ P ih) (hm : P.follows .mixedOrders = true) {N : Lv} (HN : LvOK P N) {U : Nat → Code → Code → Option CodeW} (HU : UnitOK P U) (fn : Nat) : ∀ (c : Code) {rd : Option Ad} {t : Regs} {d : List Ad} {σ : Hp} {k : KC}, (codeQ P N (U fn) (cxOf P fn) c).run ih fn rd t d σ k = true →
    CodeQ P c fn rd t d σ k ∧ ∀ b, c = .loop b → LoopQ P b fn rd t d σ k := by
  intro c
  induction c with
  | skip =>
    intro rd t d σ k hk
    refine ⟨fun r hB he hd hr => wpIn_skip ⟨_, _, _, _, hk, rfl, ⟨_, r, .refl _ _ _ _, he, hd⟩, .refl _⟩, fun b e => by cases e⟩
  | ret =>
    intro rd t d σ k hk
    refine ⟨fun r hB he hd hr => wpIn_ret ⟨_, _, _, _, hk, rfl, ⟨_, r, .refl _ _ _ _, he, hd⟩, .refl _⟩, fun b e => by cases e⟩
  | exit id =>
    intro rd t d σ k hk
    refine ⟨fun r hB he hd hr => wpIn_exit ⟨_, _, _, _, hk, rfl, ⟨_, r, .refl _ _ _ _, he, hd⟩, .refl _⟩, fun b e => by cases e⟩
  | label l => intro rd t d σ k hk; cases hk
  | goto l => intro rd t d σ k hk; cases hk
  | refuse why => intro rd t d σ k hk; cases hk
  | scope body _ => intro rd t d σ k hk; cases hk
  | region id ops draw =>
    intro rd t d σ k hk
    refine ⟨?_, fun b e => by cases e⟩
    have hreg : ∀ {B : Fz} {φ : Emb} {a a' : Act} {w w' : World} {t' : Regs} {σ' : Hp}, DR φ rd d a.defers → RegionOK P B φ σ w (cxOf P fn) t' σ' a a' w' → Ended P B φ σ w (cxOf P fn) rd .normal t' d σ' .normal a' w' := fun {B φ a a' w w' t' σ'} hd ⟨⟨φ', r1, x1, e1⟩, hdf, s⟩ =>
      ⟨rfl, ⟨φ', r1, x1, e1, by rw [hdf]; exact hd.mono x1.le⟩, s⟩
    cases draw with
    | false =>
      have hk' : (opsW P ops.toList (cxOf P fn) ops.toList).run ih t .nil σ (fun t σ => k .normal t d σ) = true := hk
      intro B φ a w ro r hB he hd hr
      refine wpIn_region ?_
      have := opsW_q H ops.toList ops.toList 0 (cxOf P fn) t .nil σ _ rfl hk' (ro := ro) (Q := fun e' a' w' => ∃ e t' d' σ', k e t' d' σ' = true ∧ Ended P B φ σ w (cxOf P fn) rd e t' d' σ' e' a' w') r hB (EnvR.of_er (cxOf_binds P fn) he) fun t' σ' a' w' hk2 hreg' => ⟨_, _, _, _, hk2, hreg hd hreg'⟩
      rw [List.range_eq_range']
      simpa using this
    | true =>
      cases hdl : dregW P (cxOf P fn) ops.toList with
      | none =>
        have hk' : (Option.rec (motive := fun _ => CodeW) codeW.bad (drawQ N) (dregW P (cxOf P fn) ops.toList)).run ih fn rd t d σ k = true := hk
        rw [hdl] at hk'
        cases hk'
      | some dl =>
        have hk' : (Option.rec (motive := fun _ => CodeW) codeW.bad (drawQ N) (dregW P (cxOf P fn) ops.toList)).run ih fn rd t d σ k = true := hk
        rw [hdl] at hk'
        have hk2 : dl.run N t σ .nil (fun t σ => k .normal t d σ) = true := hk'
        obtain ⟨t', σ', h1, h2⟩ := dreg_s HN (cxOf_binds P fn) hdl hk2
        intro B φ a w ro r hB he hd hr
        refine wpIn_region_any hm ?_
        have := h2 (w := { w with drawn := w.drawn + 1 }) (ro := ro) (Q := fun e' a' w' => ∃ e t' d' σ', k e t' d' σ' = true ∧ Ended P B φ σ w (cxOf P fn) rd e t' d' σ' e' a' w') r hB he fun a' w' hreg' => by
          have := hreg hd hreg'
          exact ⟨_, _, _, _, h1, this.e, this.ex, ⟨this.same.os, this.same.tape, this.same.output⟩⟩
        simpa using this
  | seq x y ihx ihy =>
    intro rd t d σ k hk
    refine ⟨?_, fun b e => by cases e⟩
    have hk' : (Option.rec (motive := fun _ => CodeW) (.mk (cSeq (codeQ P N (U fn) (cxOf P fn) x) (codeQ P N (U fn) (cxOf P fn) y))) (fun u => u) (U fn x y)).run ih fn rd t d σ k = true := hk
    cases hu : U fn x y with
    | some u =>
      rw [hu] at hk'
      exact fun {B φ a w ro} r hB he hd hr => HU ih H fn x y u hu hk' r hB he hd hr
    | none =>
    rw [hu] at hk'
    have hk2 : (codeQ P N (U fn) (cxOf P fn) x).run ih fn rd t d σ (fun e t d σ => AExit.caseK ((codeQ P N (U fn) (cxOf P fn) y).run ih fn rd t d σ k) (fun id => k (.exit id) t d σ) (k .ret t d σ) e) = true := hk'
    intro B φ a w ro r hB he hd hr
    refine wpIn_seq (wpIn_mono ((ihx hk2).1 r hB he hd hr) ?_)
    rintro e' a' w' ⟨e1, t1, d1, σ1, h1, hend⟩
    rcases AExit.caseK_true h1 with ⟨rfl, hk3⟩ | ⟨id, rfl, hk3⟩ | ⟨rfl, hk3⟩
    · obtain ⟨rfl, ⟨φ', r1, x1, er1, dr1⟩, s1⟩ := hend
      refine wpIn_mono ((ihy hk3).1 r1 (Fz.le_trans hB x1.size) er1 dr1 (hr.mono x1.le)) ?_
      rintro e'' a'' w'' ⟨e2, t2, d2, σ2, h2, hend2⟩
      exact ⟨e2, t2, d2, σ2, h2, hend2.trans x1 s1⟩
    · have he' := hend.e
      subst he'
      exact ⟨_, _, _, _, hk3, hend⟩
    · have he' := hend.e
      subst he'
      exact ⟨_, _, _, _, hk3, hend⟩
  | cond c x y ihx ihy =>
    intro rd t d σ k hk
    refine ⟨?_, fun b e => by cases e⟩
    cases hc : unW (opdW (cxOf P fn) c) with
    | none =>
      have hk' : (Option.rec (motive := fun _ => CodeW) codeW.bad (fun c => .mk (cCond c (codeQ P N (U fn) (cxOf P fn) x) (codeQ P N (U fn) (cxOf P fn) y))) (unW (opdW (cxOf P fn) c))).run ih fn rd t d σ k = true := hk
      rw [hc] at hk'; cases hk'
    | some f =>
      have hk' : (Option.rec (motive := fun _ => CodeW) codeW.bad (fun c => .mk (cCond c (codeQ P N (U fn) (cxOf P fn) x) (codeQ P N (U fn) (cxOf P fn) y))) (unW (opdW (cxOf P fn) c))).run ih fn rd t d σ k = true := hk
      rw [hc] at hk'
      have hk2 : (f t .nil).asBool (fun c => sel c ((codeQ P N (U fn) (cxOf P fn) x).run ih fn rd t d σ k) ((codeQ P N (U fn) (cxOf P fn) y).run ih fn rd t d σ k)) = true := hk'
      obtain ⟨b, hb, hk3⟩ := AV.asBool_true hk2
      have hev : ∀ {φ : Emb} {κ : Nat → Nat} {a : Act}, ER φ κ (cxOf P fn) t a.tmps → a.eval c = .bool b := fun {φ κ a} he => by
        have := opd_r (t := t) (ls := .nil) (unW_some hc) fun u _ f hf => (EnvR.of_er (cxOf_binds P fn) he).tmp hf
        rw [hb] at this
        cases hx : a.eval c <;> rw [hx] at this <;> cases this
        rfl
      rw [sel_true_iff] at hk3
      rcases hk3 with ⟨rfl, hk4⟩ | ⟨rfl, hk4⟩
      · exact fun {B φ a w ro} r hB he hd hr => wpIn_cond_true (hev he) ((ihx hk4).1 r hB he hd hr)
      · exact fun {B φ a w ro} r hB he hd hr => wpIn_cond_false (hev he) ((ihy hk4).1 r hB he hd hr)
  | block id x ihx =>
    intro rd t d σ k hk
    refine ⟨?_, fun b e => by cases e⟩
    have hk' : (codeQ P N (U fn) (cxOf P fn) x).run ih fn rd t d σ (fun e t d σ => AExit.caseK (k .normal t d σ) (fun id' => sel (Nat.beq id id') (k .normal t d σ) (k (.exit id') t d σ)) (k .ret t d σ) e) = true := hk
    intro B φ a w ro r hB he hd hr
    refine wpIn_block (wpIn_mono ((ihx hk').1 r hB he hd hr) ?_)
    rintro e' a' w' ⟨e1, t1, d1, σ1, h1, rfl, hex, s⟩
    have fin : ∀ e2, k e2 t1 d1 σ1 = true → (∀ (Q : Exit → Act → World → Prop) a w, Q (exitOf e2) a w → Exit.inBlock id Q (exitOf e1) a w) → Exit.inBlock id (fun e' a' w' => ∃ e t' d' σ', k e t' d' σ' = true ∧ Ended P B φ σ w (cxOf P fn) rd e t' d' σ' e' a' w') (exitOf e1) a' w' := fun e2 hk2 hq =>
      hq _ _ _ ⟨_, _, _, _, hk2, rfl, hex, s⟩
    rcases AExit.caseK_true h1 with ⟨rfl, hk2⟩ | ⟨id', rfl, hk2⟩ | ⟨rfl, hk2⟩
    · exact fin .normal hk2 fun Q a w h => h
    · rw [sel_true_iff] at hk2
      rcases hk2 with ⟨hid, hk3⟩ | ⟨hid, hk3⟩
      · have : id = id' := Nat.eq_of_beq_eq_true hid
        subst this
        exact fin .normal hk3 fun Q a w h => by simp only [exitOf, Exit.inBlock, if_true]; exact h
      · have : id' ≠ id := fun e => by subst e; simp at hid
        exact fin (.exit id') hk3 fun Q a w h => by simp only [exitOf, Exit.inBlock, if_neg this]; exact h
    · exact fin .ret hk2 fun Q a w h => h
  | loop x ihx =>
    intro rd t d σ k hk
    have hk' : (codeQ P N (U fn) (cxOf P fn) x).run ih fn rd t d σ (fun e t d σ => AExit.caseK (ih.code (.loop x) fn rd t d σ k) (fun id => k (.exit id) t d σ) (k .ret t d σ) e) = true := hk
    have key : LoopQ P x fn rd t d σ k := by
      intro B φ a w ro r hB he hd hr
      refine LoopIn.round (wpIn_mono ((ihx hk').1 r hB he hd hr) ?_)
      rintro e' a' w' ⟨e1, t1, d1, σ1, h1, hend⟩
      rcases AExit.caseK_true h1 with ⟨rfl, hk2⟩ | ⟨id, rfl, hk2⟩ | ⟨rfl, hk2⟩
      · obtain ⟨rfl, ⟨φ', r1, x1, er1, dr1⟩, s1⟩ := hend
        refine LoopIn.mono (H.loop hk2 r1 (Fz.le_trans hB x1.size) er1 dr1 (hr.mono x1.le)) ?_
        rintro e'' a'' w'' ⟨e2, t2, d2, σ2, h2, hend2⟩
        exact ⟨e2, t2, d2, σ2, h2, hend2.trans x1 s1⟩
      · have he' := hend.e
        subst he'
        exact ⟨_, _, _, _, hk2, hend⟩
      · have he' := hend.e
        subst he'
        exact ⟨_, _, _, _, hk2, hend⟩
    refine ⟨fun {B φ a w ro} r hB he hd hr => (key r hB he hd hr).wpIn, fun b e => by cases e; exact key⟩
  | rangeFunc g ps as bd _ _ =>
    intro rd t d σ k hk
    refine ⟨?_, fun b e => by cases e⟩
    cases hg : unW (opdW (cxOf P fn) g) with
    | none =>
      have hk' : (Option.rec (motive := fun _ => CodeW) codeW.bad (fun f => if ps.toList.all (cxOf P fn).glob then .mk (cRange f ps.toList as bd) else codeW.bad) (unW (opdW (cxOf P fn) g))).run ih fn rd t d σ k = true := hk
      rw [hg] at hk'; cases hk'
    | some f =>
      have hk' : (Option.rec (motive := fun _ => CodeW) codeW.bad (fun f => if ps.toList.all (cxOf P fn).glob then .mk (cRange f ps.toList as bd) else codeW.bad) (unW (opdW (cxOf P fn) g))).run ih fn rd t d σ k = true := hk
      rw [hg] at hk'
      have hk2 : (if ps.toList.all (cxOf P fn).glob then CodeW.mk (cRange f ps.toList as bd) else codeW.bad).run ih fn rd t d σ k = true := hk'
      split at hk2
      case isFalse => cases hk2
      rename_i hps
      have hev : ∀ {φ : Emb} {κ : Nat → Nat} {a : Act}, ER φ κ (cxOf P fn) t a.tmps → VR φ κ (f t .nil) (a.eval g) := fun {φ κ a} he => opd_r (t := t) (ls := .nil) (unW_some hg) fun u _ f hf => (EnvR.of_er (cxOf_binds P fn) he).tmp hf
      cases rd with
      | none =>
        have hk3 : σ.newK (.defr true) (fun df σ => rangeGo (f t .nil) ps.toList as bd ih fn t k df (.cons df d) σ) = true := hk2
        obtain ⟨σ0, m, hk4⟩ := Hp.newK_true hk3
        refine fun {B0 φ0 a0 w0 ro0} r0 hB0 he0 hd0 hr0 => range_fin_q (ps := ps.toList) (df := σ.nx) (d' := σ.nx :: d) (σ0 := σ0) H hev hps hk4 (fun {B φ a w ro} r hB he hd hr => ?_) r0 hB0 he0 hd0 hr0
        cases ro with
        | some l => exact hr.elim
        | none =>
          have hn := r.nx_none
          obtain ⟨r1, x1⟩ := r.made m (.deferred (some [])) hB rfl (.defr true _ (by simp))
          refine ⟨φ.put σ.nx (w.heap.size, 0), w.alloc (.deferred (some [])), w.heap.size, [{ target := .collected w.heap.size, args := #[] }], r1, x1, ⟨rfl, rfl, rfl⟩, Emb.put_self _ _ _, fun _ => ⟨⟨_, Emb.put_self _ _ _, rfl⟩, (hd rfl).mono x1.le⟩, fun fn' => ?_⟩
          rw [run_enterLoop_outer]
          simp
      | some l0 =>
        have hk3 : σ.getK l0 (fun b => b.loopK fun _ _ _ _ _ _ _ df => rangeGo (f t .nil) ps.toList as bd ih fn t k df d σ) = true := hk2
        obtain ⟨b0, hg0, hk4⟩ := Hp.getK_true hk3
        obtain ⟨st, j, fn2, t2, ps2, as2, bd2, df2, rfl, hk5⟩ := Blk.loopK_true hk4
        refine fun {B0 φ0 a0 w0 ro0} r0 hB0 he0 hd0 hr0 => range_fin_q (ps := ps.toList) (df := df2) (d' := d) (σ0 := σ) H hev hps hk5 (fun {B φ a w ro} r hB he hd hr => ?_) r0 hB0 he0 hd0 hr0
        cases ro with
        | none => exact hr.elim
        | some l =>
          obtain ⟨rc, hw, _, _, _, _, _, u6, _⟩ := r.setLoop hr hg0
          refine ⟨φ, w, rc.defers, [], r, .refl _ _ _ _, .refl _, u6, (fun h => by cases h), fun fn' => ?_⟩
          rw [enterLoop_inner hw]
theorem enter_q {f : Nat} {fn : Func} {b : Code} {r : ResW} {cw : CodeW} (hfn : P.funcs[f]? = some fn) (hb : fn.body = some b) (hname : ¬ fn.name = "runtime.NumGoroutine") (hr : resW P (cxOf P f) fn.results.toList = some r)
    (hcw : ∀ {t : Regs} {d : List Ad} {σ : Hp} {k : KC}, cw.run ih f none t d σ k = true → CodeQ P b f none t d σ k)
    {args : AV} {σ : Hp} {k : KV} (hk : enterK ih f (.mk cw r) args σ k = true) : CallQ P f σ args k := by
  have hbinds := cxOf_binds P f
  have hn : (cxOf P f).n = fn.ntmps := by unfold cxOf; rw [hfn]
  have hcall : ∀ xs w, (callFunc f xs).run P w = .ok (.enter f xs) w := fun xs w => by
    unfold callFunc
    simp [hfn, hname, hb]
  have hk' : argsK 256 args 0 (.all (.all (.all .undef))) (fun t => cw.run ih f none t [] σ fun e t d σ =>
    AExit.caseK (marksK d σ fun σ => r.out t σ fun v => k v σ) (fun _ => false) (marksK d σ fun σ => r.out t σ fun v => k v σ) e) = true := hk
  obtain ⟨t0, h1, h2⟩ := argsK_true _ _ _ _ _ (by decide) hk'
  refine ⟨hcall, fun {B φ w xs} rl hB hl => ?_⟩
  refine callsIn_of_wp_marks hfn hb trivial ?_
  have her : ER φ (csz w.heap) (cxOf P f) t0 (xs ++ Array.replicate (fn.ntmps - xs.size) undef) := by
    have key : ∀ i : Nat, (cxOf P f).glob i = true → ∃ x, (xs ++ Array.replicate (fn.ntmps - xs.size) undef)[i]? = some x ∧ VR φ (csz w.heap) (t0.get i) x := fun i hi => by
      obtain ⟨hi1, hi2⟩ := Cx.glob_lt hi
      rw [hn] at hi2
      obtain ⟨q1, q2⟩ := h2 hl i hi1
      rw [Array.length_toList] at q1 q2
      by_cases hix : i < xs.size
      · obtain ⟨x, e1, e2⟩ := q2 (Nat.zero_le _) (by omega)
        refine ⟨x, ?_, e2⟩
        rw [Array.getElem?_append_left hix]
        simpa using e1
      · refine ⟨undef, ?_, ?_⟩
        · rw [Array.getElem?_append_right (by omega), Array.getElem?_replicate, if_pos (by omega)]
        · rw [q1 (.inr (by omega)), Regs.get_all]; exact .undef
    exact ⟨by rw [hn]; simp; omega, fun i hi => key i hi⟩
  refine wpIn_mono (hcw h1 (a := { tmps := _, defers := [] }) (ro := none) rl hB her (fun _ => trivial) trivial) ?_
  rintro e' a' w' ⟨e, t1, d1, σ1, h3, rfl, ⟨φ', r1, x1, er1, dr1⟩, s1⟩
  have fin : (e = .normal ∨ e = .ret) → (marksK d1 σ1 fun σ => r.out t1 σ fun v => k v σ) = true → bodyPostM Fence.wide 0 P fn (fun e w' => ∃ r, e = .returned r ∧ DidQ P B φ σ w k r w') (exitOf e) a' w' := fun hee hk2 => by
    obtain ⟨σ2, h4, h8⟩ := marks_s (P := P) d1 σ1 _ hk2
    obtain ⟨v, h5, h6⟩ := resOut_s hbinds hr h4
    have hleave := h8 (fn := fn) (tmps := a'.tmps) (R := fun e w' => ∃ r, e = .returned r ∧ DidQ P B φ σ w k r w') r1 (dr1 rfl) fun w'' r2 x2 s2 => by
      obtain ⟨x, e1, e2⟩ := h6 r2 (er1.mono φ'.le_refl x2.csz)
      refine ⟨x, e1, x, rfl, v, σ2, h5, φ', r2, x1.trans x2, e2, ?_, ?_, ?_⟩
      · exact s2.os.trans s1.os
      · exact s2.tape.trans s1.tape
      · exact s2.output.trans s1.output
    rcases hee with rfl | rfl
    · exact hleave
    · exact hleave
  rcases AExit.caseK_true h3 with ⟨he, hk2⟩ | ⟨_, _, hk2⟩ | ⟨he, hk2⟩
  · exact fin (.inl he) hk2
  · cases hk2
  · exact fin (.inr he) hk2
theorem lvQ_ok (hm : P.follows .mixedOrders = true) {S : Nat → Option SumF} (hS : SumOK P S) {N : Lv} (HN : LvOK P N) {U : Nat → Code → Code → Option CodeW} (HU : UnitOK P U) : ∀ n, LvQ P (lvQ P S N U n)
  | 0 => ⟨(fun h => by cases h), (fun h => by cases h), (fun h => by cases h)⟩
  | n + 1 => by
    have H := lvQ_ok hm hS HN HU n
    refine ⟨fun {f args σ k} hk => ?_, fun {c fn rd t d σ k} hk => (code_q H hm HN HU fn c hk).1, fun {c fn rd t d σ k} hk => (code_q H hm HN HU fn (.loop c) hk).2 c rfl⟩
    have hk' : Option.rec (motive := fun _ => Bool) (Option.rec (motive := fun _ => Bool) false (fun w => enterK (lvQ P S N U n) f w args σ k) (fnQ P N U f)) (fun F => F args σ k) (S f) = true := hk
    cases hs : S f with
    | some F =>
      rw [hs] at hk'
      obtain ⟨v, σ', h1, h2⟩ := hS f F hs hk'
      exact h2.toQ h1
    | none =>
      rw [hs] at hk'
      cases hf : fnQ P N U f with
      | none =>
        have hk2 : Option.rec (motive := fun _ => Bool) false (fun w => enterK (lvQ P S N U n) f w args σ k) (fnQ P N U f) = true := hk'
        rw [hf] at hk2; cases hk2
      | some fw =>
        have hk2 : Option.rec (motive := fun _ => Bool) false (fun w => enterK (lvQ P S N U n) f w args σ k) (fnQ P N U f) = true := hk'
        rw [hf] at hk2
        unfold fnQ at hf
        split at hf
        case h_2 => cases hf
        rename_i fn hfn
        split at hf
        case h_2 => cases hf
        rename_i b r hb hr
        split at hf
        · cases hf
        rename_i hname
        cases hf
        exact enter_q hfn hb (by simpa using hname) hr (fun h => (code_q H hm HN HU f b h).1) hk2
end
end Go.Am
