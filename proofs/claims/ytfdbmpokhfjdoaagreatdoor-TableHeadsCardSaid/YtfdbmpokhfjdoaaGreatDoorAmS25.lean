import Derived.Test.YtfdbmpokhfjdoaaGreatDoorAmS24
set_option linter.unusedVariables false
set_option linter.unusedSimpArgs false
/-! Soundness, 25: functions; the machine's levels. -/
namespace Go.Am
open Go
section
variable {P : Program} {B : Fz} {φ : Emb} {σ : Hp} {h : Array Obj}
theorem Rel.setDefr (r : Rel P B φ σ h) {β : Ad} {b : Nat} (hβ : φ β = some (b, 0)) (hk : σ.get β = some (.defr true)) :
    h[b]? = some (.deferred (some [])) ∧ Rel P B φ (σ.set β (.defr false)) (hset h b (.deferred none)) ∧ Ext B φ σ h φ (σ.set β (.defr false)) (hset h b (.deferred none)) := by
  obtain ⟨k, hk', hb⟩ := r.blk _ _ _ hβ
  rw [hk] at hk'; cases hk'
  cases hb with
  | defr _ _ hw =>
    have hcs := csz_loop (o' := .deferred none) hw (fun _ _ _ h => by cases h)
    refine ⟨hw, r.change hβ hk (fun h => h) (fun h => h) false (k' := .defr false) (fun γ => ?_) rfl rfl (fun _ => rfl) (by simp) hcs (fun b' hb' => hset_ne hb') ?_ ?_⟩
    · rw [Hp.get_set]; simp
    · exact .defr _ _ (hset_self hw)
    · intro _ γ d' g hm; cases hm
end
section
variable {P : Program} {ih : Lv}
theorem marks_s : ∀ (d : List Ad) (σ : Hp) (k : Hp → Bool), marksK d σ k = true → ∃ σ', k σ' = true ∧
    ∀ {fn : Func} {tmps : Array Value} {R : Ending → World → Prop} {B : Fz} {φ : Emb} {w : World} {ds : List Deferred}, Rel P B φ σ w.heap → MarksR φ d ds →
      (∀ w', Rel P B φ σ' w'.heap → Ext B φ σ w.heap φ σ' w'.heap → Same w w' → LeavesInM Fence.wide 0 P fn tmps R [] .returning w') → LeavesInM Fence.wide 0 P fn tmps R ds .returning w
  | [], σ, k, hk => ⟨σ, hk, fun {fn tmps R B φ w ds} r hm hq => by
    cases ds with
    | nil => exact hq w r (.refl _ _ _ _) (.refl _)
    | cons x ds => exact hm.elim⟩
  | β :: d, σ, k, hk => by
    have hk' : σ.getK β (fun b => b.defrK fun o => sel o (σ.setK β (.defr false) fun σ => marksK d σ k) false) = true := hk
    obtain ⟨b0, hg, hk1⟩ := Hp.getK_true hk'
    obtain ⟨o, rfl, hk2⟩ := Blk.defrK_true hk1
    obtain ⟨rfl, hk3⟩ := sel_yes hk2
    rw [Hp.setK_eq] at hk3
    obtain ⟨σ', h1, h2⟩ := marks_s d _ k hk3
    refine ⟨σ', h1, fun {fn tmps R B φ w ds} r hm hq => ?_⟩
    cases ds with
    | nil => exact hm.elim
    | cons x ds =>
      obtain ⟨⟨b, hβ, rfl⟩, hm'⟩ := hm
      obtain ⟨hw, r1, x1⟩ := r.setDefr hβ hg
      refine ⟨by simp, .inl ⟨b, _, rfl, run_takeDeferred hw, ?_⟩⟩
      exact h2 (w := w.putObj b (.deferred none)) r1 hm' fun w' r2 x2 s2 => hq w' r2 (x1.trans x2) ⟨s2.os, s2.tape, s2.output⟩
theorem argsK_true : ∀ (n : Nat) (a : AV) (i : Nat) (t : Regs) (k : Regs → Bool), i + n ≤ 512 → argsK n a i t k = true → ∃ t', k t' = true ∧
    ∀ {φ : Emb} {κ : Nat → Nat} {xs : List Value}, LR φ κ a xs → ∀ j, j < 512 → (j < i ∨ i + xs.length ≤ j → t'.get j = t.get j) ∧ (i ≤ j → j < i + xs.length → ∃ x, xs[j - i]? = some x ∧ VR φ κ (t'.get j) x)
  | 0, a, i, t, k, _, hk => by cases hk
  | n + 1, a, i, t, k, hin, hk => by
    have hk' : a.asCons (k t) (fun v r => (regW i).setK t v fun t => argsK n r (i + 1) t k) = true := hk
    rcases AV.asCons_true hk' with ⟨rfl, hk1⟩ | ⟨v, r, rfl, hk1⟩
    · refine ⟨t, hk1, fun {φ κ xs} hl j hj => ?_⟩
      have := hl.nil_inv
      subst this
      exact ⟨fun _ => rfl, fun h1 h2 => by simp at h2; omega⟩
    · rw [RegW.setK_eq] at hk1
      obtain ⟨t', h1, h2⟩ := argsK_true n r (i + 1) _ k (by omega) hk1
      refine ⟨t', h1, fun {φ κ xs} hl j hj => ?_⟩
      obtain ⟨y, ys, rfl, hy, hys⟩ := hl.cons_inv
      obtain ⟨q1, q2⟩ := h2 hys j hj
      simp only [List.length_cons]
      refine ⟨fun hor => ?_, fun ha hb => ?_⟩
      · rw [q1 (by omega), Regs.get_set _ _ _ _ (by omega) hj, if_neg (by omega)]
      · by_cases hji : j = i
        · subst hji
          refine ⟨y, by simp, ?_⟩
          rw [q1 (.inl (by omega)), Regs.get_set _ _ _ _ (by omega) hj, if_pos rfl]
          exact hy
        · obtain ⟨x, e1, e2⟩ := q2 (by omega) (by omega)
          refine ⟨x, ?_, e2⟩
          rw [show j - i = (j - (i + 1)) + 1 by omega, List.getElem?_cons_succ]
          exact e1
theorem loadAt_asAddr {T : TypeId} {av r : Value} {w : World} (h : (Instr.loadAt T av).run P w = .ok r w) : (do loadVar T (← asAddr av) : Sem Value).run P w = .ok r w := by
  unfold Instr.loadAt Instr.sureAddr at h
  split at h
  · exact h
  · cases h
/-- What the results are. -/
def resOne (tmps : Array Value) : ResultVar → Sem Value
  | .tmp t => pure (tmps.getD t undef)
  | .cell a t => do loadVar t (← asAddr (tmps.getD a undef))
theorem results_eq (fn : Func) (tmps : Array Value) : results fn tmps = (do
    let vs ← fn.results.mapM (resOne tmps)
    pure (if h : vs.size = 1 then vs[0] else .tuple vs)) := by
  unfold results
  congr 1
def ResR (P : Program) (B : Fz) (φ : Emb) (σ : Hp) (w : World) (rs : List ResultVar) (tmps : Array Value) (l : AV) : Prop := ∃ xs, (rs.mapM (resOne tmps)).run P w = .ok xs w ∧ LR φ (csz w.heap) l xs
theorem resOne_s {C : Cx} (hb : C.binds = []) {t : Regs} {σ : Hp} {rv : ResultVar} {r : List ResultVar} {f : RdF} {rr : ResW} {k : AV → Bool} (hw : resW P C (rv :: r) = some (.cons f rr)) (hk : f t .nil σ k = true) :
    resW P C r = some rr ∧ ∃ v, k v = true ∧ ∀ {B : Fz} {φ : Emb} {w : World} {tmps : Array Value}, Rel P B φ σ w.heap → ER φ (csz w.heap) C t tmps → ∃ x, (resOne tmps rv).run P w = .ok x w ∧ VR φ (csz w.heap) v x := by
  have htmp : ∀ {u : Tmp} {g : OpdF}, unW (tmpW C u) = some g → ∀ {φ : Emb} {κ : Nat → Nat} {tmps : Array Value}, ER φ κ C t tmps → VR φ κ (g t .nil) (tmps.getD u undef) := fun {u g} hg {φ κ tmps} he => by
    obtain ⟨x, h1, h2⟩ := (EnvR.of_er hb he).tmp (unW_some hg)
    simp only [Array.getD_eq_getD_getElem?, h1, Option.getD_some]
    exact h2
  cases rv with
  | tmp u =>
    unfold resW at hw
    split at hw
    · rename_i g r' hg hr'
      cases hw
      refine ⟨hr', _, hk, fun {B φ w tmps} hr he => ⟨_, rfl, htmp hg he⟩⟩
    · cases hw
  | cell u T =>
    unfold resW at hw
    split at hw
    · rename_i g n r' hg hT hn hr'
      cases hw
      obtain ⟨v, hv, hs⟩ := rLoadN_s (P := P) hk hT hn
      refine ⟨hr', v, hv, fun {B φ w tmps} hr he => ?_⟩
      obtain ⟨x, h1, h2⟩ := hs hr (htmp hg he)
      exact ⟨x, loadAt_asAddr h1, h2⟩
    · rename_i g n r' hg hT hn hr'
      cases hw
      obtain ⟨v, hv, hs⟩ := rLoad1_s (P := P) hk hT
      refine ⟨hr', v, hv, fun {B φ w tmps} hr he => ?_⟩
      obtain ⟨x, h1, h2⟩ := hs hr (htmp hg he)
      exact ⟨x, loadAt_asAddr h1, h2⟩
    · cases hw
theorem resEv_s {C : Cx} (hb : C.binds = []) {t : Regs} {σ : Hp} : ∀ (rs : List ResultVar) (r : ResW) (k : AV → Bool), resW P C rs = some r → r.ev t σ k = true → ∃ l, k l = true ∧
    ∀ {B : Fz} {φ : Emb} {w : World} {tmps : Array Value}, Rel P B φ σ w.heap → ER φ (csz w.heap) C t tmps → ResR P B φ σ w rs tmps l
  | [], r, k, hw, hk => by
    cases hw
    exact ⟨.nil, hk, fun _ _ => ⟨[], rfl, LR.nil⟩⟩
  | rv :: rs, r, k, hw, hk => by
    cases r with
    | nil => cases rv <;> (unfold resW at hw; split at hw <;> cases hw)
    | cons f rr =>
      have hk' : f t .nil σ (fun v => rr.ev t σ fun l => k (.cons v l)) = true := hk
      obtain ⟨hrr, v, hv, hs⟩ := resOne_s hb hw hk'
      obtain ⟨l, hl, hs2⟩ := resEv_s hb rs rr _ hrr hv
      refine ⟨.cons v l, hl, fun {B φ w tmps} hr he => ?_⟩
      obtain ⟨x, h1, h2⟩ := hs hr he
      obtain ⟨xs, h3, h4⟩ := hs2 hr he
      refine ⟨x :: xs, ?_, LR.cons h2 h4⟩
      simp only [List.mapM_cons, Sem.run_bind, h1, Result.andThen_ok, h3, Sem.run_pure]
theorem resOut_s {C : Cx} (hb : C.binds = []) {t : Regs} {σ : Hp} {fn : Func} {r : ResW} {k : AV → Bool} (hw : resW P C fn.results.toList = some r) (hk : r.out t σ k = true) : ∃ v, k v = true ∧
    ∀ {B : Fz} {φ : Emb} {w : World} {tmps : Array Value}, Rel P B φ σ w.heap → ER φ (csz w.heap) C t tmps → ∃ x, (results fn tmps).run P w = .ok x w ∧ VR φ (csz w.heap) v x := by
  have hrun : ∀ {w : World} {tmps : Array Value} {xs : List Value}, (fn.results.toList.mapM (resOne tmps)).run P w = .ok xs w → (results fn tmps).run P w = .ok (if h : xs.length = 1 then xs[0] else .tuple xs.toArray) w := fun {w tmps xs} h => by
    rw [results_eq]
    have : fn.results.mapM (resOne tmps) = List.toArray <$> fn.results.toList.mapM (resOne tmps) := by
      rw [Array.mapM_eq_mapM_toList]
    rw [this]
    simp only [map_eq_pure_bind, Sem.run_bind, h, Result.andThen_ok, Sem.run_pure]
    congr 1
  cases hrs : fn.results.toList with
  | nil =>
    rw [hrs] at hw hrun
    cases hw
    exact ⟨.undef, hk, fun _ _ => ⟨_, hrun rfl, .undef⟩⟩
  | cons rv rs =>
    rw [hrs] at hw hrun
    cases r with
    | nil => cases rv <;> (unfold resW at hw; split at hw <;> cases hw)
    | cons f rr =>
      cases rr with
      | nil =>
        have hk' : f t .nil σ k = true := hk
        obtain ⟨hrr, v, hv, hs⟩ := resOne_s hb hw hk'
        have hnil : rs = [] := by
          cases rs with
          | nil => rfl
          | cons a b => cases a <;> (unfold resW at hrr; split at hrr <;> cases hrr)
        subst hnil
        refine ⟨v, hv, fun {B φ w tmps} hr he => ?_⟩
        obtain ⟨x, h1, h2⟩ := hs hr he
        refine ⟨x, ?_, h2⟩
        have := hrun (w := w) (tmps := tmps) (xs := [x]) (by simp only [List.mapM_cons, List.mapM_nil, Sem.run_bind, h1, Result.andThen_ok, Sem.run_pure])
        simpa using this
      | cons g rr =>
        have hk' : f t .nil σ (fun v => (ResW.cons g rr).ev t σ fun l => k (.tup (.cons v l))) = true := hk
        obtain ⟨hrr, v, hv, hs⟩ := resOne_s hb hw hk'
        obtain ⟨l, hl, hs2⟩ := resEv_s hb rs _ _ hrr hv
        have hne : ∃ a b, rs = a :: b := by
          cases rs with
          | nil => cases hrr
          | cons a b => exact ⟨a, b, rfl⟩
        obtain ⟨ra, rb, rfl⟩ := hne
        refine ⟨_, hl, fun {B φ w tmps} hr he => ?_⟩
        obtain ⟨x, h1, h2⟩ := hs hr he
        obtain ⟨xs, h3, h4⟩ := hs2 hr he
        have hlen : xs.length ≠ 0 := by
          intro h0
          have hx0 := List.length_eq_zero_iff.1 h0
          subst hx0
          simp only [List.mapM_cons, Sem.run_bind] at h3
          cases hra : (resOne tmps ra).run P w with
          | halt e w' => rw [hra] at h3; cases h3
          | ok y w' =>
            rw [hra] at h3
            simp only [Result.andThen_ok] at h3
            cases hrb : (List.mapM (resOne tmps) rb).run P w' with
            | halt e w'' => rw [hrb] at h3; cases h3
            | ok ys w'' => rw [hrb] at h3; simp only [Result.andThen_ok, Sem.run_pure] at h3; cases h3
        have h5 := hrun (w := w) (tmps := tmps) (xs := x :: xs) (by simp only [List.mapM_cons (a := rv), Sem.run_bind, h1, Result.andThen_ok, h3, Sem.run_pure])
        rw [dif_neg (by simp only [List.length_cons]; omega)] at h5
        exact ⟨_, h5, LR.tup (by simpa using LR.cons h2 h4)⟩
/-- Code that is compiled, by whatever way. -/
def CW (P : Program) (ih : Lv) (fn : Nat) (cw : CodeW) (c : Code) : Prop :=
  ∀ {rd : Option Ad} {t : Regs} {d : List Ad} {σ : Hp} {k : KC}, cw.run ih fn rd t d σ k = true → ∃ e t' d' σ', k e t' d' σ' = true ∧ CodeOK P c fn rd t d σ e t' d' σ'
theorem CW.code (H : LvOK P ih) (hm : P.follows .mixedOrders = true) (fn : Nat) (c : Code) : CW P ih fn (codeW P (cxOf P fn) c) c := fun hk => (code_s H hm fn c hk).1
theorem CW.seq {fn : Nat} {x y : CodeW} {cx cy : Code} (hx : CW P ih fn x cx) (hy : CW P ih fn y cy) : CW P ih fn (.mk (cSeq x y)) (.seq cx cy) := by
  intro rd t d σ k hk
  have hk' : x.run ih fn rd t d σ (fun e t d σ => AExit.caseK (y.run ih fn rd t d σ k) (fun id => k (.exit id) t d σ) (k .ret t d σ) e) = true := hk
  obtain ⟨e1, t1, d1, σ1, h1, c1⟩ := hx hk'
  have stop : e1 ≠ .normal → k e1 t1 d1 σ1 = true → ∃ e t' d' σ', k e t' d' σ' = true ∧ CodeOK P (.seq cx cy) fn rd t d σ e t' d' σ' := fun hne hk2 => by
    refine ⟨e1, t1, d1, σ1, hk2, fun {B φ a w ro} r hB he hd hr => wpIn_seq (wpIn_mono (c1 r hB he hd hr) fun e a' w' hend => ?_)⟩
    have he' := hend.e
    cases e1 with
    | normal => exact absurd rfl hne
    | exit id => subst he'; exact hend
    | ret => subst he'; exact hend
  rcases AExit.caseK_true h1 with ⟨rfl, hk2⟩ | ⟨id, rfl, hk2⟩ | ⟨rfl, hk2⟩
  · obtain ⟨e2, t2, d2, σ2, h2, c2⟩ := hy hk2
    refine ⟨e2, t2, d2, σ2, h2, fun {B φ a w ro} r hB he hd hr => wpIn_seq (wpIn_mono (c1 r hB he hd hr) ?_)⟩
    rintro e a' w' ⟨rfl, ⟨φ', r1, x1, er1, dr1⟩, s1⟩
    exact wpIn_mono (c2 r1 (Fz.le_trans hB x1.size) er1 dr1 (hr.mono x1.le)) fun e a'' w'' hend => hend.trans x1 s1
  · exact stop (by simp) hk2
  · exact stop (by simp) hk2
theorem enter_cw {f : Nat} {fn : Func} {b : Code} {r : ResW} {cw : CodeW} (hfn : P.funcs[f]? = some fn) (hb : fn.body = some b) (hname : ¬ fn.name = "runtime.NumGoroutine") (hr : resW P (cxOf P f) fn.results.toList = some r) (hcw : CW P ih f cw b)
    {args : AV} {σ : Hp} {k : KV} (hk : enterK ih f (.mk cw r) args σ k = true) : ∃ v σ', k v σ' = true ∧ CallOK P f σ args v σ' := by
  have hbinds := cxOf_binds P f
  have hn : (cxOf P f).n = fn.ntmps := by unfold cxOf; rw [hfn]
  have hcall : ∀ xs w, (callFunc f xs).run P w = .ok (.enter f xs) w := fun xs w => by
    unfold callFunc
    simp [hfn, hname, hb]
  have hk' : argsK 256 args 0 (.all (.all (.all .undef))) (fun t => cw.run ih f none t [] σ fun e t d σ =>
    AExit.caseK (marksK d σ fun σ => r.out t σ fun v => k v σ) (fun _ => false) (marksK d σ fun σ => r.out t σ fun v => k v σ) e) = true := hk
  obtain ⟨t0, h1, h2⟩ := argsK_true _ _ _ _ _ (by decide) hk'
  obtain ⟨e, t1, d1, σ1, h3, c1⟩ := hcw h1
  have fin : (e = .normal ∨ e = .ret) → (marksK d1 σ1 fun σ => r.out t1 σ fun v => k v σ) = true → ∃ v σ', k v σ' = true ∧ CallOK P f σ args v σ' := fun hee hk2 => by
    obtain ⟨σ2, h4, h8⟩ := marks_s (P := P) d1 σ1 _ hk2
    obtain ⟨v, h5, h6⟩ := resOut_s hbinds hr h4
    refine ⟨v, σ2, h5, hcall, fun {B φ w xs} rl hB hl => ?_⟩
    refine callsIn_of_wp_marks hfn hb trivial ?_
    have her : ER φ (csz w.heap) (cxOf P f) t0 (xs ++ Array.replicate (fn.ntmps - xs.size) undef) := by
      have key : ∀ i : Nat, (cxOf P f).glob i = true → ∃ x, (xs ++ Array.replicate (fn.ntmps - xs.size) undef)[i]? = some x ∧ VR φ (csz w.heap) (t0.get i) x := fun i hi => by
        obtain ⟨hi1, hi2⟩ := Cx.glob_lt hi
        rw [hn] at hi2
        obtain ⟨q1, q2⟩ := h2 hl i hi1
        rw [Array.length_toList] at q1 q2
        by_cases hix : i < xs.size
        · obtain ⟨x, e1, e2⟩ := q2 (Nat.zero_le _) (by omega)
          refine ⟨x, ?_, e2⟩
          rw [Array.getElem?_append_left hix]
          simpa using e1
        · refine ⟨undef, ?_, ?_⟩
          · rw [Array.getElem?_append_right (by omega), Array.getElem?_replicate, if_pos (by omega)]
          · rw [q1 (.inr (by omega)), Regs.get_all]; exact .undef
      exact ⟨by rw [hn]; simp; omega, fun i hi => key i hi⟩
    refine wpIn_mono (c1 (a := { tmps := _, defers := [] }) (ro := none) rl hB her (fun _ => trivial) trivial) ?_
    rintro e' a' w' ⟨rfl, ⟨φ', r1, x1, er1, dr1⟩, s1⟩
    have hleave := h8 (fn := fn) (tmps := a'.tmps) (R := fun e w' => ∃ r, e = .returned r ∧ Did P B φ σ w v σ2 r w') r1 (dr1 rfl) fun w'' r2 x2 s2 => by
      obtain ⟨x, e1, e2⟩ := h6 r2 (er1.mono φ'.le_refl x2.csz)
      refine ⟨x, e1, x, rfl, φ', r2, x1.trans x2, e2, ?_, ?_, ?_⟩
      · exact s2.os.trans s1.os
      · exact s2.tape.trans s1.tape
      · exact s2.output.trans s1.output
    rcases hee with rfl | rfl
    · exact hleave
    · exact hleave
  rcases AExit.caseK_true h3 with ⟨he, hk2⟩ | ⟨_, _, hk2⟩ | ⟨he, hk2⟩
  · exact fin (.inl he) hk2
  · cases hk2
  · exact fin (.inr he) hk2
theorem enter_s (H : LvOK P ih) (hm : P.follows .mixedOrders = true) {f : Nat} {fw : FnW} (hf : fnW P f = some fw) {args : AV} {σ : Hp} {k : KV} (hk : enterK ih f fw args σ k = true) : ∃ v σ', k v σ' = true ∧ CallOK P f σ args v σ' := by
  unfold fnW at hf
  split at hf
  case h_2 => cases hf
  rename_i fn hfn
  split at hf
  case h_2 => cases hf
  rename_i b r hb hr
  split at hf
  · cases hf
  rename_i hname
  cases hf
  exact enter_cw hfn hb (by simpa using hname) hr (CW.code H hm f b) hk
/-- Summaries that hold. -/
def SumOK (P : Program) (S : Nat → Option SumF) : Prop := ∀ f F, S f = some F → ∀ {args : AV} {σ : Hp} {k : KV}, F args σ k = true → ∃ v σ', k v σ' = true ∧ CallOK P f σ args v σ'
theorem lv_ok (hm : P.follows .mixedOrders = true) {S : Nat → Option SumF} (hS : SumOK P S) : ∀ n, LvOK P (lv P S n)
  | 0 => ⟨(fun h => by cases h), (fun h => by cases h), (fun h => by cases h)⟩
  | n + 1 => by
    have H := lv_ok hm hS n
    refine ⟨fun {f args σ k} hk => ?_, fun {c fn rd t d σ k} hk => (code_s H hm fn c hk).1, fun {c fn rd t d σ k} hk => (code_s H hm fn (.loop c) hk).2 c rfl⟩
    have hk' : Option.rec (motive := fun _ => Bool) (Option.rec (motive := fun _ => Bool) false (fun w => enterK (lv P S n) f w args σ k) (fnW P f)) (fun F => F args σ k) (S f) = true := hk
    cases hs : S f with
    | some F => rw [hs] at hk'; exact hS f F hs hk'
    | none =>
      rw [hs] at hk'
      cases hf : fnW P f with
      | none =>
        have hk2 : Option.rec (motive := fun _ => Bool) false (fun w => enterK (lv P S n) f w args σ k) (fnW P f) = true := hk'
        rw [hf] at hk2; cases hk2
      | some fw =>
        have hk2 : Option.rec (motive := fun _ => Bool) false (fun w => enterK (lv P S n) f w args σ k) (fnW P f) = true := hk'
        rw [hf] at hk2
        exact enter_s H hm hf hk2
end
end Go.Am
