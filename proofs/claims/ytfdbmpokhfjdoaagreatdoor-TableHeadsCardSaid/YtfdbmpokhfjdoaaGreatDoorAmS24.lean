import Derived.Test.YtfdbmpokhfjdoaaGreatDoorAmS23
set_option linter.unusedVariables false
set_option linter.unusedSimpArgs false
/-! Soundness, 24: code, functions, all. -/
namespace Go.Am
open Go
theorem cxOf_binds (P : Program) (f : Nat) : (cxOf P f).binds = [] := by unfold cxOf; split <;> rfl
theorem EnvR.of_er {φ : Emb} {κ : Nat → Nat} {C : Cx} {t : Regs} {tmps : Array Value} (hb : C.binds = []) (h : ER φ κ C t tmps) : EnvR φ κ C t .nil tmps := ⟨h, fun u b hm => by rw [hb] at hm; cases hm⟩
section
variable {P : Program} {ih : Lv}
theorem dreg_s (H : LvOK P ih) {C : Cx} {ops : List Oper} (hb : C.binds = []) {dl : DL} (hd : dregW P C ops = some dl) {t : Regs} {σ : Hp} {k : KO} (hk : dl.run ih t σ .nil k = true) : ∃ t' σ', k t' σ' = true ∧
    ∀ {B : Fz} {φ : Emb} {a : Act} {w : World} {ro : Option Nat} {Q : Exit → Act → World → Prop}, Rel P B φ σ w.heap → B.le w.heap.size → ER φ (csz w.heap) C t a.tmps →
      (∀ a' w', RegionOK P B φ σ w C t' σ' a a' w' → Q .normal a' w') → wpAnyIn (FW ro) 0 P .any ops.toArray Q ops.length (Array.replicate ops.length false) a w := by
  unfold dregW at hd
  simp only at hd
  split at hd
  case isFalse => cases hd
  rename_i hcond
  cases hd
  simp only [Bool.and_eq_true, beq_iff_eq, List.all_eq_true, decide_eq_true_eq] at hcond
  obtain ⟨⟨⟨⟨h1, h2⟩, h3⟩, h4⟩, h5⟩ := hcond
  generalize hord : orderF (ancs ops []) ((List.range ops.length).filter fun i => (maskW P C isWr ops 0).testBit i) ((List.range ops.length).filter fun i => !(maskW P C isWr ops 0).testBit i) (maskW P C isWr ops 0) = ord at h1 h2 h3 hk
  obtain ⟨tr, tN, σN, q1, q2, q3, q4, q5, _⟩ := dl_s H rfl ord 0 t σ .nil k h3 trivial hk
  refine ⟨tN, σN, q1, fun {B φ a w ro Q} hr hB he hq => ?_⟩
  have hspec := orderOk_spec ord 0 0 h1
  have hnd : ord.Nodup := by
    rw [List.nodup_iff_pairwise_ne, List.pairwise_iff_getElem]
    intro i j hi hj hij
    have hs : ord = ord.take j ++ ord[j] :: ord.drop (j + 1) := by rw [List.getElem_cons_drop, List.take_append_drop]
    have := (hspec _ _ _ hs).2.1.2
    intro e
    apply this
    rw [← e]
    exact List.mem_take_iff_getElem.2 ⟨i, by omega, rfl⟩
  have sp : ∀ p e q, tr = p ++ e :: q → ord = p.map (·.i) ++ e.i :: q.map (·.i) := fun p e q h => by rw [← q3, h]; simp
  have pl : Plan P C ops (ancs ops []) tr t σ tN σN := by
    refine ⟨hb, q4, q5, q2, fun i hi => ?_, fun p e q h => ?_, fun p e q h x hx => ?_, fun p e q h x hx hxk => ?_, fun i o x ho => ancs_bit h4 ho x, fun i o ho e hm => by have := edgesOk_spec ops 0 h4 i o ho e hm; omega, fun i o ho u hu j o' ho' hd => ?_⟩
    · have := all_in hnd h3 h2 hi
      rw [← q3] at this
      obtain ⟨e, hm, hei⟩ := List.mem_map.1 this
      obtain ⟨p, q, h⟩ := List.append_of_mem hm
      exact ⟨p, e, q, h, hei⟩
    · have hs := sp p e q h
      rw [hs] at hnd
      rw [List.nodup_append] at hnd
      obtain ⟨_, n2, n3⟩ := hnd
      rw [List.nodup_cons] at n2
      exact ⟨fun x hx => n3 _ (List.mem_map_of_mem hx) _ (by simp), fun x hx e' => n2.1 (by rw [← e']; exact List.mem_map_of_mem hx)⟩
    · have := (hspec _ _ _ (sp p e q h)).1 x hx
      rcases this with h | h
      · simp at h
      · obtain ⟨y, hy, hyx⟩ := List.mem_map.1 h
        exact ⟨y, hy, hyx⟩
    · refine (hspec _ _ _ (sp p e q h)).2.2 x.i (.inr ⟨List.mem_map_of_mem hx, ?_⟩)
      obtain ⟨ox, hox, _, _, hkx⟩ := q4 x (by rw [h]; simp [hx])
      rw [hxk] at hkx
      rw [maskW_bit]
      simp [hox, hkx.2.1]
    · have hj : j < ops.length := (List.getElem?_eq_some_iff.1 ho').1
      have := tmpsOk_spec ops 0 h5 i o ho u hu j hj (by rw [writersOf_bit]; simp [ho', hd])
      simpa using this
  obtain ⟨p, rest, hpr, w1, w2⟩ := first_wr tr
  have hch := Chain.split (p := p) (rest := rest) (by rw [← hpr]; exact q2)
  obtain ⟨f1, f2, f3, f4⟩ := chain_frame p _ _ _ _ hch.1 (fun x hx => q4 x (by rw [hpr]; simp [hx])) w1
  have hrel : Rel P B φ (hAt rest σN) w.heap := hr.frame (fun β y hy => f2 β (hr.fresh β y hy)) f1
  have hl : ∀ i, Lf (Array.replicate ops.length false) i = false := fun i => by
    unfold Lf
    simp only [Array.getD_eq_getD_getElem?, Array.getElem?_replicate]
    split <;> rfl
  refine sim pl hB (φ0 := φ) (a0 := a) (w0 := w) hq ops.length _ a w ⟨by simp, (fun i o h => by rw [hl] at h; cases h), ⟨φ, p, rest, hpr, (fun e he hk => absurd hk (w1 e he)), (fun e he => hl _), w2, hrel, ?_, ?_, ?_, ?_⟩, he.size, rfl, .refl _⟩ ?_
  · exact ⟨φ.le_refl, f1, fun β y e1 e2 => absurd (e2.symm.trans e1) (by simp), fun β e1 e2 => .inl (f2 β e2), Nat.le_refl _, fun _ => Nat.le_refl _, fun _ _ => rfl⟩
  · intro e hm blk β hk _
    obtain ⟨g1, g2, g3⟩ := f3 e hm blk β hk
    refine ⟨?_, g1, g2, g3⟩
    cases hφ : φ β with
    | none => rfl
    | some y => have := hr.fresh β y hφ; omega
  · intro x hx y hy b β b' γ hxk hyk _ _ hne
    exact f4 x hx y hy b β b' γ hxk hyk hne
  · intro u hu
    obtain ⟨x, e1, e2⟩ := he.get u hu
    refine ⟨x, e1, ?_⟩
    rw [valL_none tr _ fun e _ _ => hl _]
    exact e2
  · unfold freeN
    refine Nat.le_trans (List.length_filter_le _ _) ?_
    have : tr.length = ord.length := by rw [← q3]; simp
    omega
theorem OpsCode_run (l : OpsW) : (codeW.opsCode l).run ih = fun _ _ t d σ k => l.run ih t .nil σ fun t σ => k .normal t d σ := rfl
/-! ### Loops over functions -/
theorem enterLoop_inner {w : World} {l₀ : Nat} {r₀ : Loop} (h : w.heap[l₀]? = some (.loop r₀)) (fn : FuncId) (tmps : Array Value) (ps : Array Tmp) (assign body : Code) :
    (Instr.enterLoop fn tmps ps assign body (some l₀)).run P w = .ok (w.heap.size, []) (w.alloc (.loop { state := .ready, pending := none, fn, tmps, params := ps, assign, body, defers := r₀.defers })) := by
  unfold Instr.enterLoop
  simp only [Sem.run_bind, run_getLoop h, run_newObj_alloc, Result.andThen, Sem.run_pure]
/-- A block is let go. -/
theorem Rel.bury {P : Program} {B : Fz} {φ : Emb} {σ σ' : Hp} {h : Array Obj} (r : Rel P B φ σ h) {β : Ad} (hg : ∀ γ, σ'.get γ = if γ = β then some .dead else σ.get γ) (hn : σ'.nx = σ.nx) : Rel P B φ σ' h where
  fresh γ y hy := by rw [hn]; exact r.fresh γ y hy
  low γ b d hb := ⟨fun hB => by
    obtain ⟨k0, e0, dd⟩ := (r.low γ b d hb).1 hB
    rw [hg]
    by_cases hγ : γ = β
    · rw [if_pos hγ]; exact ⟨_, rfl, trivial⟩
    · rw [if_neg hγ]; exact ⟨k0, e0, dd⟩, (r.low γ b d hb).2⟩
  blk γ b d hb := by
    rw [hg]
    by_cases hγ : γ = β
    · rw [if_pos hγ]; exact ⟨_, rfl, .dead _ _⟩
    · rw [if_neg hγ]; exact r.blk γ b d hb
  inj γ δ b d d' k g h1 h2 h3 h4 h5 := by
    rw [hg] at h4 h5
    by_cases hγ : γ = β
    · rw [if_pos hγ] at h4; cases h4; exact .inl trivial
    · rw [if_neg hγ] at h4
      by_cases hδ : δ = β
      · rw [if_pos hδ] at h5; cases h5; exact .inr (.inl trivial)
      · rw [if_neg hδ] at h5
        exact r.inj γ δ b d d' k g h1 h2 h3 h4 h5
  olds γ b d k δ h1 h2 h3 := by
    rw [hg] at h2
    by_cases hγ : γ = β
    · rw [if_pos hγ] at h2; cases h2; cases h3
    · rw [if_neg hγ] at h2
      obtain ⟨b', d', g, h4, h5, h6⟩ := r.olds γ b d k δ h1 h2 h3
      rw [hg]
      by_cases hδ : δ = β
      · rw [if_pos hδ]; exact ⟨b', d', _, h4, rfl, .inl trivial⟩
      · rw [if_neg hδ]; exact ⟨b', d', g, h4, h5, h6⟩
theorem Ext.bury {B : Fz} {φ φ' : Emb} {σ σa σ' : Hp} {h h' : Array Obj} (x : Ext B φ σ h φ' σa h') {β : Ad} (hβ : σ.nx.toNat ≤ β.toNat) (hg : ∀ γ, σ'.get γ = if γ = β then some .dead else σa.get γ) (hn : σ'.nx = σa.nx) : Ext B φ σ h φ' σ' h' :=
  ⟨x.le, by rw [hn]; exact x.nx, x.new, fun γ h1 h2 => by rw [hg, if_neg (by rintro rfl; omega)]; exact x.frame γ h1 h2, x.size, x.csz, x.low⟩
def jumpOf : AExit → Option Code
  | .normal => none
  | .exit id => some (.exit id)
  | .ret => some .ret
theorem stOf_busy {st : Nat} (h : Nat.beq st 1 = false) : stOf st ≠ .busy := by
  match st, h with
  | 0, _ => simp [stOf]
  | 2, _ => simp [stOf]
  | n + 3, _ => simp [stOf]
theorem rangeGo_s (H : LvOK P ih) {f : AV} {ps : List Nat} {as bd : Code} {fn : Nat} {t : Regs} {k : KC} {df : Ad} {d : List Ad} {σ : Hp} (hk : rangeGo f ps as bd ih fn t k df d σ = true) : ∃ e σ', k e t d σ' = true ∧
    ∀ {B : Fz} {φ : Emb} {w : World} {fv : Value} {dd : Nat} {tmps : Array Value} (fn' : FuncId), Rel P B φ σ w.heap → B.le w.heap.size → ER φ (csz w.heap) (cxOf P fn) t tmps → VR φ (csz w.heap) f fv → φ df = some (dd, 0) → ps.all (cxOf P fn).glob = true →
      ∃ g first cap, fv = .func (.func g) first cap ∧ (∀ xs w, (callFunc g xs).run P w = .ok (.enter g xs) w) ∧
        CallsIn Fence.wide 0 P g (first ++ #[.func (.yield w.heap.size) #[] #[]] ++ cap) (w.alloc (.loop { state := .ready, pending := none, fn := fn', tmps := tmps, params := ps.toArray, assign := as, body := bd, defers := dd })) fun e' w' =>
          ∃ r, e' = .returned r ∧ ∃ w4, (Instr.endLoop w.heap.size).run P w' = .ok (jumpOf e) w4 ∧ ∃ φ', Rel P B φ' σ' w4.heap ∧ Ext B φ σ w.heap φ' σ' w4.heap ∧ Same w w4 := by
  obtain ⟨σ1, m, hk1⟩ := Hp.newK_true hk
  obtain ⟨v, σ2, hk2, hc⟩ := callfK_s H hk1
  obtain ⟨b0, hg, hk3⟩ := Hp.getK_true hk2
  obtain ⟨st, j, fn2, t2, ps2, as2, bd2, df2, rfl, hk4⟩ := Blk.loopK_true hk3
  obtain ⟨hst, hk5⟩ := sel_no hk4
  rw [Hp.setK_eq] at hk5
  have fin : ∀ e, jumpOf e = j.code → k e t d (σ2.set σ.nx .dead) = true → ∃ e σ', k e t d σ' = true ∧
    ∀ {B : Fz} {φ : Emb} {w : World} {fv : Value} {dd : Nat} {tmps : Array Value} (fn' : FuncId), Rel P B φ σ w.heap → B.le w.heap.size → ER φ (csz w.heap) (cxOf P fn) t tmps → VR φ (csz w.heap) f fv → φ df = some (dd, 0) → ps.all (cxOf P fn).glob = true →
      ∃ g first cap, fv = .func (.func g) first cap ∧ (∀ xs w, (callFunc g xs).run P w = .ok (.enter g xs) w) ∧
        CallsIn Fence.wide 0 P g (first ++ #[.func (.yield w.heap.size) #[] #[]] ++ cap) (w.alloc (.loop { state := .ready, pending := none, fn := fn', tmps := tmps, params := ps.toArray, assign := as, body := bd, defers := dd })) fun e' w' =>
          ∃ r, e' = .returned r ∧ ∃ w4, (Instr.endLoop w.heap.size).run P w' = .ok (jumpOf e) w4 ∧ ∃ φ', Rel P B φ' σ' w4.heap ∧ Ext B φ σ w.heap φ' σ' w4.heap ∧ Same w w4 := fun e hje hke => by
    refine ⟨e, _, hke, fun {B φ w fv dd tmps} fn' r hB he hf hdf hps => ?_⟩
    have hn := r.nx_none
    have hsz := csz_push w.heap (.loop { state := .ready, pending := none, fn := fn', tmps := tmps, params := ps.toArray, assign := as, body := bd, defers := dd })
    obtain ⟨r1, x1⟩ := r.made m (.loop { state := .ready, pending := none, fn := fn', tmps := tmps, params := ps.toArray, assign := as, body := bd, defers := dd }) hB rfl
      (.loop 0 .none fn t ps as bd df _ dd tmps fn' (by simp [stOf, Jump.code]) (he.mono (Emb.put_le hn) hsz) (Emb.put_le hn _ _ hdf) hps)
    obtain ⟨g, first, cap, e1, e2, e3⟩ := hc (w := w.alloc (.loop { state := .ready, pending := none, fn := fn', tmps := tmps, params := ps.toArray, assign := as, body := bd, defers := dd })) (xs := #[.func (.yield w.heap.size) #[] #[]]) r1 (Fz.le_trans hB x1.size) (hf.mono (Emb.put_le hn) hsz)
      (LR.cons (.yield _ _ (Emb.put_self _ _ _)) LR.nil)
    refine ⟨g, first, cap, e1, e2, CallsIn.mono e3 ?_⟩
    rintro e' w' ⟨rr, rfl, φ', r2, x2, _, o1, o2, o3⟩
    have hβ : φ' σ.nx = some (w.heap.size, 0) := x2.le _ _ (Emb.put_self _ _ _)
    obtain ⟨rc, hw, u1, u2, u3, u4, u5, u6, u7, u8, u9⟩ := r2.setLoop hβ hg
    obtain ⟨r3, x3⟩ := u9 3 j
    have hobj : ({ rc with state := stOf 3, pending := j.code } : Loop) = { rc with state := .exhausted } := by rw [← u2]; rfl
    rw [hobj] at r3 x3
    have hbu : ∀ γ, (σ2.set σ.nx .dead).get γ = if γ = σ.nx then some .dead else (σ2.set σ.nx (.loop 3 j fn2 t2 ps2 as2 bd2 df2)).get γ := fun γ => by
      rw [Hp.get_set, Hp.get_set]
      by_cases hγ : γ = σ.nx
      · rw [if_pos hγ, if_pos hγ]
      · rw [if_neg hγ, if_neg hγ, if_neg hγ]
    refine ⟨rr, rfl, w'.putObj w.heap.size (.loop { rc with state := .exhausted }), by rw [run_endLoop hw (by rw [u1]; exact stOf_busy hst), u2, hje], φ', r3.bury hbu rfl, (x1.trans (x2.trans x3)).bury (Nat.le_refl _) hbu rfl, ⟨o1, o2, o3⟩⟩
  cases j with
  | none => exact fin .normal rfl hk5
  | exit id => exact fin (.exit id) rfl hk5
  | ret => exact fin .ret rfl hk5
/-- What one call of the function that is ranged over comes to. -/
def RangeOK (P : Program) (fn : Nat) (f : AV) (ps : List Nat) (as bd : Code) (t : Regs) (df : Ad) (σ0 : Hp) (e : AExit) (σ' : Hp) : Prop :=
  ∀ {B : Fz} {φ : Emb} {w : World} {fv : Value} {dd : Nat} {tmps : Array Value} (fn' : FuncId), Rel P B φ σ0 w.heap → B.le w.heap.size → ER φ (csz w.heap) (cxOf P fn) t tmps → VR φ (csz w.heap) f fv → φ df = some (dd, 0) → ps.all (cxOf P fn).glob = true →
    ∃ g first cap, fv = .func (.func g) first cap ∧ (∀ xs w, (callFunc g xs).run P w = .ok (.enter g xs) w) ∧
      CallsIn Fence.wide 0 P g (first ++ #[.func (.yield w.heap.size) #[] #[]] ++ cap) (w.alloc (.loop { state := .ready, pending := none, fn := fn', tmps := tmps, params := ps.toArray, assign := as, body := bd, defers := dd })) fun e' w' =>
        ∃ r, e' = .returned r ∧ ∃ w4, (Instr.endLoop w.heap.size).run P w' = .ok (jumpOf e) w4 ∧ ∃ φ', Rel P B φ' σ' w4.heap ∧ Ext B φ σ0 w.heap φ' σ' w4.heap ∧ Same w w4
/-- The loop's block is laid. -/
def EntersOK (P : Program) (fn : Nat) (ps : List Nat) (as bd : Code) (rd : Option Ad) (t : Regs) (d : List Ad) (σ : Hp) (df : Ad) (d' : List Ad) (σ0 : Hp) : Prop :=
  ∀ {B : Fz} {φ : Emb} {a : Act} {w : World} {ro : Option Nat}, Rel P B φ σ w.heap → B.le w.heap.size → ER φ (csz w.heap) (cxOf P fn) t a.tmps → DR φ rd d a.defers → RdR φ rd ro →
    ∃ φ1 w1 dd marks, Rel P B φ1 σ0 w1.heap ∧ Ext B φ σ w.heap φ1 σ0 w1.heap ∧ Same w w1 ∧ φ1 df = some (dd, 0) ∧ DR φ1 rd d' (marks ++ a.defers) ∧
      ∀ fn', (Instr.enterLoop fn' a.tmps ps.toArray as bd ro).run P w = .ok (w1.heap.size, marks) (w1.alloc (.loop { state := .ready, pending := none, fn := fn', tmps := a.tmps, params := ps.toArray, assign := as, body := bd, defers := dd }))
theorem callsIn_fw {ro : Option Nat} {f : FuncId} {args : Array Value} {w : World} {R : Ending → World → Prop} (h : CallsIn Fence.wide 0 P f args w R) : CallsIn (FW ro) (0 - 1) P f args w R := h
theorem range_fin {fn : Nat} {g : Operand} {f : AV} {ps : List Nat} {as bd : Code} {rd : Option Ad} {t : Regs} {d : List Ad} {σ : Hp} {df : Ad} {d' : List Ad} {σ0 : Hp} {e : AExit} {σ' : Hp} (hev : ∀ {φ : Emb} {κ : Nat → Nat} {a : Act}, ER φ κ (cxOf P fn) t a.tmps → VR φ κ f (a.eval g)) (hps : ps.all (cxOf P fn).glob = true)
    (hcall : RangeOK P fn f ps as bd t df σ0 e σ') (hent : EntersOK P fn ps as bd rd t d σ df d' σ0) : CodeOK P (.rangeFunc g ps.toArray as bd) fn rd t d σ e t d' σ' := by
  intro B φ a w ro r hB he hd hr
  refine wpIn_rangeFunc fun fn' _ => ?_
  obtain ⟨φ1, w1, dd, marks, r1, x1, s1, hdf, hdr, hrun⟩ := hent r hB he hd hr
  obtain ⟨gg, first, cap, e1, e2, e3⟩ := hcall fn' r1 (Fz.le_trans hB x1.size) (he.mono x1.le x1.csz) ((hev he).mono x1.le x1.csz) hdf hps
  have hrun' := hrun fn'
  generalize w1.alloc (.loop { state := .ready, pending := none, fn := fn', tmps := a.tmps, params := ps.toArray, assign := as, body := bd, defers := dd }) = W at e3 hrun'
  have e4 := callsIn_fw (ro := ro) (CallsIn.mono (R' := rangePost (FW ro) 0 P w1.heap.size (Ended P B φ σ w (cxOf P fn) rd e t d' σ') { a with defers := marks ++ a.defers }) e3 (by
    rintro e' w' ⟨rr, rfl, w4, h4, φ', r4, x4, s4⟩
    have hE : Ended P B φ σ w (cxOf P fn) rd e t d' σ' (exitOf e) { a with defers := marks ++ a.defers } w4 :=
      ⟨rfl, ⟨φ', r4, x1.trans x4, he.mono (x1.trans x4).le (x1.trans x4).csz, hdr.mono x4.le⟩, s1.trans s4⟩
    refine ⟨_, w4, h4, ?_⟩
    cases e with
    | normal => exact hE
    | exit id => exact wpIn_exit hE
    | ret => exact wpIn_ret hE))
  refine ⟨w1.heap.size, marks, W, { target := .fn (.func gg) cap, args := first ++ #[.func (.yield w1.heap.size) #[] #[]] }, W, gg, first ++ #[.func (.yield w1.heap.size) #[] #[]] ++ cap, W, hrun', ?_, fun _ _ => trivial, ?_, fun hh => (by cases hh), ?_⟩
  · simp only [resolve, rangeCall, e1, Deferred.ofValue, Sem.run_pure]
    rw [show (#[Operand.const (Value.func (Fn.yield w1.heap.size) #[] #[])] : Array Operand).map a.eval = #[Value.func (Fn.yield w1.heap.size) #[] #[]] from by simp [Act.eval]]
  · simp [invoke, e2]
  · exact e4
theorem code_s (H : LvOK P ih) (hm : P.follows .mixedOrders = true) (fn : Nat) : ∀ (c : Code) {rd : Option Ad} {t : Regs} {d : List Ad} {σ : Hp} {k : KC}, (codeW P (cxOf P fn) c).run ih fn rd t d σ k = true →
    (∃ e t' d' σ', k e t' d' σ' = true ∧ CodeOK P c fn rd t d σ e t' d' σ') ∧ ∀ b, c = .loop b → ∃ e t' d' σ', k e t' d' σ' = true ∧ LoopOK P b fn rd t d σ e t' d' σ' := by
  intro c
  induction c with
  | skip =>
    intro rd t d σ k hk
    refine ⟨⟨.normal, t, d, σ, hk, fun r hB he hd hr => wpIn_skip ⟨rfl, ⟨_, r, .refl _ _ _ _, he, hd⟩, .refl _⟩⟩, fun b e => by cases e⟩
  | ret =>
    intro rd t d σ k hk
    refine ⟨⟨.ret, t, d, σ, hk, fun r hB he hd hr => wpIn_ret ⟨rfl, ⟨_, r, .refl _ _ _ _, he, hd⟩, .refl _⟩⟩, fun b e => by cases e⟩
  | exit id =>
    intro rd t d σ k hk
    refine ⟨⟨.exit id, t, d, σ, hk, fun r hB he hd hr => wpIn_exit ⟨rfl, ⟨_, r, .refl _ _ _ _, he, hd⟩, .refl _⟩⟩, fun b e => by cases e⟩
  | label l => intro rd t d σ k hk; cases hk
  | goto l => intro rd t d σ k hk; cases hk
  | refuse why => intro rd t d σ k hk; cases hk
  | scope body _ => intro rd t d σ k hk; cases hk
  | region id ops draw =>
    intro rd t d σ k hk
    refine ⟨?_, fun b e => by cases e⟩
    have hreg : ∀ {B : Fz} {φ : Emb} {a a' : Act} {w w' : World} {t' : Regs} {σ' : Hp}, DR φ rd d a.defers → RegionOK P B φ σ w (cxOf P fn) t' σ' a a' w' → Ended P B φ σ w (cxOf P fn) rd .normal t' d σ' .normal a' w' := fun {B φ a a' w w' t' σ'} hd ⟨⟨φ', r1, x1, e1⟩, hdf, s⟩ =>
      ⟨rfl, ⟨φ', r1, x1, e1, by rw [hdf]; exact hd.mono x1.le⟩, s⟩
    cases draw with
    | false =>
      have hk' : (opsW P ops.toList (cxOf P fn) ops.toList).run ih t .nil σ (fun t σ => k .normal t d σ) = true := hk
      obtain ⟨t', σ', h1, h2⟩ := opsW_s H ops.toList ops.toList 0 (cxOf P fn) t .nil σ _ rfl hk'
      refine ⟨.normal, t', d, σ', h1, fun {B φ a w ro} r hB he hd hr => wpIn_region ?_⟩
      have := h2 (ro := ro) (Q := Ended P B φ σ w (cxOf P fn) rd .normal t' d σ') r hB (EnvR.of_er (cxOf_binds P fn) he) fun a' w' hreg' => hreg hd hreg'
      rw [List.range_eq_range']
      simpa using this
    | true =>
      cases hdl : dregW P (cxOf P fn) ops.toList with
      | none =>
        have hk' : (Option.rec (motive := fun _ => CodeW) codeW.bad codeW.drawCode (dregW P (cxOf P fn) ops.toList)).run ih fn rd t d σ k = true := hk
        rw [hdl] at hk'
        cases hk'
      | some dl =>
        have hk' : (Option.rec (motive := fun _ => CodeW) codeW.bad codeW.drawCode (dregW P (cxOf P fn) ops.toList)).run ih fn rd t d σ k = true := hk
        rw [hdl] at hk'
        have hk2 : dl.run ih t σ .nil (fun t σ => k .normal t d σ) = true := hk'
        obtain ⟨t', σ', h1, h2⟩ := dreg_s H (cxOf_binds P fn) hdl hk2
        refine ⟨.normal, t', d, σ', h1, fun {B φ a w ro} r hB he hd hr => wpIn_region_any hm ?_⟩
        have := h2 (w := { w with drawn := w.drawn + 1 }) (ro := ro) (Q := Ended P B φ σ w (cxOf P fn) rd .normal t' d σ') r hB he fun a' w' hreg' => by
          have := hreg hd hreg'
          exact ⟨this.e, this.ex, ⟨this.same.os, this.same.tape, this.same.output⟩⟩
        simpa using this
  | seq x y ihx ihy =>
    intro rd t d σ k hk
    refine ⟨?_, fun b e => by cases e⟩
    have hk' : (codeW P (cxOf P fn) x).run ih fn rd t d σ (fun e t d σ => AExit.caseK ((codeW P (cxOf P fn) y).run ih fn rd t d σ k) (fun id => k (.exit id) t d σ) (k .ret t d σ) e) = true := hk
    obtain ⟨⟨e1, t1, d1, σ1, h1, c1⟩, _⟩ := ihx hk'
    have stop : e1 ≠ .normal → k e1 t1 d1 σ1 = true → ∃ e t' d' σ', k e t' d' σ' = true ∧ CodeOK P (.seq x y) fn rd t d σ e t' d' σ' := fun hne hk2 => by
      refine ⟨e1, t1, d1, σ1, hk2, fun {B φ a w ro} r hB he hd hr => wpIn_seq (wpIn_mono (c1 r hB he hd hr) fun e a' w' hend => ?_)⟩
      have he' := hend.e
      cases e1 with
      | normal => exact absurd rfl hne
      | exit id => subst he'; exact hend
      | ret => subst he'; exact hend
    rcases AExit.caseK_true h1 with ⟨rfl, hk2⟩ | ⟨id, rfl, hk2⟩ | ⟨rfl, hk2⟩
    · obtain ⟨⟨e2, t2, d2, σ2, h2, c2⟩, _⟩ := ihy hk2
      refine ⟨e2, t2, d2, σ2, h2, fun {B φ a w ro} r hB he hd hr => wpIn_seq (wpIn_mono (c1 r hB he hd hr) ?_)⟩
      rintro e a' w' ⟨rfl, ⟨φ', r1, x1, er1, dr1⟩, s1⟩
      exact wpIn_mono (c2 r1 (Fz.le_trans hB x1.size) er1 dr1 (hr.mono x1.le)) fun e a'' w'' hend => hend.trans x1 s1
    · exact stop (by simp) hk2
    · exact stop (by simp) hk2
  | cond c x y ihx ihy =>
    intro rd t d σ k hk
    refine ⟨?_, fun b e => by cases e⟩
    cases hc : unW (opdW (cxOf P fn) c) with
    | none =>
      have hk' : (Option.rec (motive := fun _ => CodeW) codeW.bad (fun c => .mk (cCond c (codeW P (cxOf P fn) x) (codeW P (cxOf P fn) y))) (unW (opdW (cxOf P fn) c))).run ih fn rd t d σ k = true := hk
      rw [hc] at hk'; cases hk'
    | some f =>
      have hk' : (Option.rec (motive := fun _ => CodeW) codeW.bad (fun c => .mk (cCond c (codeW P (cxOf P fn) x) (codeW P (cxOf P fn) y))) (unW (opdW (cxOf P fn) c))).run ih fn rd t d σ k = true := hk
      rw [hc] at hk'
      have hk2 : (f t .nil).asBool (fun c => sel c ((codeW P (cxOf P fn) x).run ih fn rd t d σ k) ((codeW P (cxOf P fn) y).run ih fn rd t d σ k)) = true := hk'
      obtain ⟨b, hb, hk3⟩ := AV.asBool_true hk2
      have hev : ∀ {φ : Emb} {κ : Nat → Nat} {a : Act}, ER φ κ (cxOf P fn) t a.tmps → a.eval c = .bool b := fun {φ κ a} he => by
        have := opd_r (t := t) (ls := .nil) (unW_some hc) fun u _ f hf => (EnvR.of_er (cxOf_binds P fn) he).tmp hf
        rw [hb] at this
        cases hx : a.eval c <;> rw [hx] at this <;> cases this
        rfl
      rw [sel_true_iff] at hk3
      rcases hk3 with ⟨rfl, hk4⟩ | ⟨rfl, hk4⟩
      · obtain ⟨⟨e, t', d', σ', h1, c1⟩, _⟩ := ihx hk4
        exact ⟨e, t', d', σ', h1, fun {B φ a w ro} r hB he hd hr => wpIn_cond_true (hev he) (c1 r hB he hd hr)⟩
      · obtain ⟨⟨e, t', d', σ', h1, c1⟩, _⟩ := ihy hk4
        exact ⟨e, t', d', σ', h1, fun {B φ a w ro} r hB he hd hr => wpIn_cond_false (hev he) (c1 r hB he hd hr)⟩
  | block id x ihx =>
    intro rd t d σ k hk
    refine ⟨?_, fun b e => by cases e⟩
    have hk' : (codeW P (cxOf P fn) x).run ih fn rd t d σ (fun e t d σ => AExit.caseK (k .normal t d σ) (fun id' => sel (Nat.beq id id') (k .normal t d σ) (k (.exit id') t d σ)) (k .ret t d σ) e) = true := hk
    obtain ⟨⟨e1, t1, d1, σ1, h1, c1⟩, _⟩ := ihx hk'
    have fin : ∀ e2, k e2 t1 d1 σ1 = true → (∀ (Q : Exit → Act → World → Prop) a w, Q (exitOf e2) a w → Exit.inBlock id Q (exitOf e1) a w) → ∃ e t' d' σ', k e t' d' σ' = true ∧ CodeOK P (.block id x) fn rd t d σ e t' d' σ' := fun e2 hk2 hq => by
      refine ⟨e2, t1, d1, σ1, hk2, fun {B φ a w ro} r hB he hd hr => wpIn_block (wpIn_mono (c1 r hB he hd hr) ?_)⟩
      rintro e a' w' ⟨rfl, hex, s⟩
      exact hq _ _ _ ⟨rfl, hex, s⟩
    rcases AExit.caseK_true h1 with ⟨rfl, hk2⟩ | ⟨id', rfl, hk2⟩ | ⟨rfl, hk2⟩
    · exact fin .normal hk2 fun Q a w h => h
    · rw [sel_true_iff] at hk2
      rcases hk2 with ⟨hid, hk3⟩ | ⟨hid, hk3⟩
      · have : id = id' := Nat.eq_of_beq_eq_true hid
        subst this
        exact fin .normal hk3 fun Q a w h => by simp only [exitOf, Exit.inBlock, if_true]; exact h
      · have : id' ≠ id := fun e => by subst e; simp at hid
        exact fin (.exit id') hk3 fun Q a w h => by simp only [exitOf, Exit.inBlock, if_neg this]; exact h
    · exact fin .ret hk2 fun Q a w h => h
  | loop x ihx =>
    intro rd t d σ k hk
    have hk' : (codeW P (cxOf P fn) x).run ih fn rd t d σ (fun e t d σ => AExit.caseK (ih.code (.loop x) fn rd t d σ k) (fun id => k (.exit id) t d σ) (k .ret t d σ) e) = true := hk
    obtain ⟨⟨e1, t1, d1, σ1, h1, c1⟩, _⟩ := ihx hk'
    have key : ∃ e t' d' σ', k e t' d' σ' = true ∧ LoopOK P x fn rd t d σ e t' d' σ' := by
      have stop : e1 ≠ .normal → k e1 t1 d1 σ1 = true → ∃ e t' d' σ', k e t' d' σ' = true ∧ LoopOK P x fn rd t d σ e t' d' σ' := fun hne hk2 => by
        refine ⟨e1, t1, d1, σ1, hk2, fun {B φ a w ro} r hB he hd hr => LoopIn.round (wpIn_mono (c1 r hB he hd hr) fun e a' w' hend => ?_)⟩
        have he' := hend.e
        cases e1 with
        | normal => exact absurd rfl hne
        | exit id => subst he'; exact hend
        | ret => subst he'; exact hend
      rcases AExit.caseK_true h1 with ⟨rfl, hk2⟩ | ⟨id, rfl, hk2⟩ | ⟨rfl, hk2⟩
      · obtain ⟨e2, t2, d2, σ2, h2, c2⟩ := H.loop hk2
        refine ⟨e2, t2, d2, σ2, h2, fun {B φ a w ro} r hB he hd hr => LoopIn.round (wpIn_mono (c1 r hB he hd hr) ?_)⟩
        rintro e a' w' ⟨rfl, ⟨φ', r1, x1, er1, dr1⟩, s1⟩
        exact LoopIn.mono (c2 r1 (Fz.le_trans hB x1.size) er1 dr1 (hr.mono x1.le)) fun e a'' w'' hend => hend.trans x1 s1
      · exact stop (by simp) hk2
      · exact stop (by simp) hk2
    refine ⟨?_, fun b e => by cases e; exact key⟩
    obtain ⟨e, t', d', σ', h2, c2⟩ := key
    exact ⟨e, t', d', σ', h2, fun {B φ a w ro} r hB he hd hr => (c2 r hB he hd hr).wpIn⟩
  | rangeFunc g ps as bd _ _ =>
    intro rd t d σ k hk
    refine ⟨?_, fun b e => by cases e⟩
    cases hg : unW (opdW (cxOf P fn) g) with
    | none =>
      have hk' : (Option.rec (motive := fun _ => CodeW) codeW.bad (fun f => if ps.toList.all (cxOf P fn).glob then .mk (cRange f ps.toList as bd) else codeW.bad) (unW (opdW (cxOf P fn) g))).run ih fn rd t d σ k = true := hk
      rw [hg] at hk'; cases hk'
    | some f =>
      have hk' : (Option.rec (motive := fun _ => CodeW) codeW.bad (fun f => if ps.toList.all (cxOf P fn).glob then .mk (cRange f ps.toList as bd) else codeW.bad) (unW (opdW (cxOf P fn) g))).run ih fn rd t d σ k = true := hk
      rw [hg] at hk'
      have hk2 : (if ps.toList.all (cxOf P fn).glob then CodeW.mk (cRange f ps.toList as bd) else codeW.bad).run ih fn rd t d σ k = true := hk'
      split at hk2
      case isFalse => cases hk2
      rename_i hps
      have hev : ∀ {φ : Emb} {κ : Nat → Nat} {a : Act}, ER φ κ (cxOf P fn) t a.tmps → VR φ κ (f t .nil) (a.eval g) := fun {φ κ a} he => opd_r (t := t) (ls := .nil) (unW_some hg) fun u _ f hf => (EnvR.of_er (cxOf_binds P fn) he).tmp hf
      cases rd with
      | none =>
        have hk3 : σ.newK (.defr true) (fun df σ => rangeGo (f t .nil) ps.toList as bd ih fn t k df (.cons df d) σ) = true := hk2
        obtain ⟨σ0, m, hk4⟩ := Hp.newK_true hk3
        obtain ⟨e, σ', h1, h2⟩ := rangeGo_s H hk4
        refine ⟨e, t, _, σ', h1, range_fin (ps := ps.toList) hev hps (fun fn' => h2 fn') (df := σ.nx) (d' := σ.nx :: d) (σ0 := σ0) fun {B φ a w ro} r hB he hd hr => ?_⟩
        cases ro with
        | some l => exact hr.elim
        | none =>
          have hn := r.nx_none
          obtain ⟨r1, x1⟩ := r.made m (.deferred (some [])) hB rfl (.defr true _ (by simp))
          refine ⟨φ.put σ.nx (w.heap.size, 0), w.alloc (.deferred (some [])), w.heap.size, [{ target := .collected w.heap.size, args := #[] }], r1, x1, ⟨rfl, rfl, rfl⟩, Emb.put_self _ _ _, fun _ => ⟨⟨_, Emb.put_self _ _ _, rfl⟩, (hd rfl).mono x1.le⟩, fun fn' => ?_⟩
          rw [run_enterLoop_outer]
          simp
      | some l0 =>
        have hk3 : σ.getK l0 (fun b => b.loopK fun _ _ _ _ _ _ _ df => rangeGo (f t .nil) ps.toList as bd ih fn t k df d σ) = true := hk2
        obtain ⟨b0, hg0, hk4⟩ := Hp.getK_true hk3
        obtain ⟨st, j, fn2, t2, ps2, as2, bd2, df2, rfl, hk5⟩ := Blk.loopK_true hk4
        obtain ⟨e, σ', h1, h2⟩ := rangeGo_s H hk5
        refine ⟨e, t, d, σ', h1, range_fin (ps := ps.toList) hev hps (fun fn' => h2 fn') (df := df2) (d' := d) (σ0 := σ) fun {B φ a w ro} r hB he hd hr => ?_⟩
        cases ro with
        | none => exact hr.elim
        | some l =>
          obtain ⟨rc, hw, _, _, _, _, _, u6, _⟩ := r.setLoop hr hg0
          refine ⟨φ, w, rc.defers, [], r, .refl _ _ _ _, .refl _, u6, (fun h => by cases h), fun fn' => ?_⟩
          rw [enterLoop_inner hw]
end
end Go.Am
