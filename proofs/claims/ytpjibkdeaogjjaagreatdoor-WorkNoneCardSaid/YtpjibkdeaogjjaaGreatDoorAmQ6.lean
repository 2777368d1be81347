import Derived.Test.YtpjibkdeaogjjaaGreatDoorAmQ5
set_option linter.unusedVariables false
set_option linter.unusedSimpArgs false
/-! Soundness in another form, 6: what lies ahead of a loop over a map; the second machine, with these loops; calls whose answer is the same in whatever order. -/
namespace Go.Am
open Go
section
variable {P : Program} {ih : Lv}
theorem consW_runL {d : Dst} {o : OpW} {r : OpsW} {t : Regs} {ls : Ls} {σ : Hp} {k : Regs → Ls → Hp → Bool} : (consW d o r).runL ih t ls σ k = o.run ih t ls σ fun v σ => putK d v t ls fun t ls => r.runL ih t ls σ k := by
  cases o <;> cases d <;> rfl
theorem opsL_cx (all s : List Oper) : ∀ (r : List Oper) (C C2 : Cx) (W : OpsW), opsL P all s C r = some (W, C2) → C2.E = C.E ∧ C2.n = C.n := by
  intro r
  induction r with
  | nil => intro C C2 W h; cases h; exact ⟨rfl, rfl⟩
  | cons o r ih =>
    intro C C2 W h
    unfold opsL at h
    split at h
    · have h' := ih _ _ _ h
      exact h'
    · split at h
      · rename_i d C' hdst _
        split at h
        · rename_i w C3 hr
          cases h
          obtain ⟨h1, h2⟩ := ih _ _ _ hr
          obtain ⟨h3, h4⟩ := dstW_cx hdst
          exact ⟨h1.trans h3, h2.trans h4⟩
        · cases h
      · rename_i d C' j w0 hdst _
        split at h
        · rename_i g w C3 hg hr
          cases h
          obtain ⟨h1, h2⟩ := ih _ _ _ hr
          obtain ⟨h3, h4⟩ := dstW_cx hdst
          exact ⟨h1.trans h3, h2.trans h4⟩
        · cases h
      · cases h
theorem opsL_q (H : LvQ P ih) (all s : List Oper) : ∀ (r : List Oper) (i : Nat) (C : Cx) (t : Regs) (ls : Ls) (σ : Hp) (k : Regs → Ls → Hp → Bool) (W : OpsW) (C2 : Cx), all.drop i = r ++ s → opsL P all s C r = some (W, C2) → W.runL ih t ls σ k = true →
    ∀ {B : Fz} {φ : Emb} {a : Act} {w : World} {ro : Option Nat} {Q : Exit → Act → World → Prop}, Rel P B φ σ w.heap → B.le w.heap.size → EnvR φ (csz w.heap) C t ls a.tmps →
      (∀ t' ls' σ' a' w' φ', k t' ls' σ' = true → Rel P B φ' σ' w'.heap → Ext B φ σ w.heap φ' σ' w'.heap → EnvR φ' (csz w'.heap) C2 t' ls' a'.tmps → a'.defers = a.defers → Same w w' → wpOpsIn (FW ro) 0 P all.toArray Q (List.range' (i + r.length) s.length) a' w') →
      wpOpsIn (FW ro) 0 P all.toArray Q (List.range' i (r.length + s.length)) a w := by
  intro r
  induction r with
  | nil =>
    intro i C t ls σ k W C2 hdr hW hk B φ a w ro Q hr hB he hq
    cases hW
    have := hq t ls σ a w φ hk hr (.refl _ _ _ _) he rfl (.refl _)
    simpa using this
  | cons o r ihr =>
    intro i C t ls σ k W C2 hdr hW hk B φ a w ro Q hr hB he hq
    have hoi : all.toArray[i]? = some o := by
      rw [List.getElem?_toArray]
      have : (all.drop i)[0]? = some o := by rw [hdr]; rfl
      simpa using this
    have hdr' : all.drop (i + 1) = r ++ s := by
      have : (all.drop i).drop 1 = r ++ s := by rw [hdr]; rfl
      simpa [List.drop_drop, Nat.add_comm] using this
    have hrange : List.range' i ((o :: r).length + s.length) = i :: List.range' (i + 1) (r.length + s.length) := by rw [List.length_cons, show r.length + 1 + s.length = (r.length + s.length) + 1 by omega, List.range'_succ]
    -- what comes behind it
    have next : ∀ {φ1 : Emb} {a1 : Act} {σ1 : Hp} {w1 : World}, Ext B φ σ w.heap φ1 σ1 w1.heap → a1.defers = a.defers → Same w w1 →
        ∀ t' ls' σ' a' w' φ', k t' ls' σ' = true → Rel P B φ' σ' w'.heap → Ext B φ1 σ1 w1.heap φ' σ' w'.heap → EnvR φ' (csz w'.heap) C2 t' ls' a'.tmps → a'.defers = a1.defers → Same w1 w' → wpOpsIn (FW ro) 0 P all.toArray Q (List.range' ((i + 1) + r.length) s.length) a' w' := fun {φ1 a1 σ1 w1} x1 hd s1 t' ls' σ' a' w' φ' hk' r' x' e' d' s' => by
      have := hq t' ls' σ' a' w' φ' hk' r' (x1.trans x') e' (d'.trans hd) (s1.trans s')
      rw [List.length_cons, show i + (r.length + 1) = (i + 1) + r.length by omega] at this
      exact this
    rw [hrange]
    unfold opsL at hW
    split at hW
    · -- a move that wants no work
      rename_i b hal
      obtain ⟨u, b⟩ := b
      obtain ⟨X, e1, e2, e3, e4⟩ := he.alias hal
      simp only [wpOpsIn, hoi]
      have hw : Region.wanted o (yielded all.toArray a.tmps) = true := by unfold Region.wanted; rw [e3]
      rw [if_pos hw]
      refine ⟨fun _ _ => trivial, ?_⟩
      rw [Oper.semAt_eq _ _ _ (fun c hc => by rw [e2] at hc; cases hc)]
      have hx : (execOp a.eval o).run P w = .ok (.value (a.eval X)) w := by simp only [execOp, e2]; rfl
      rw [hx, Oper.uponIn_value, e1]
      exact ihr (i + 1) _ t ls σ k W C2 hdr' hW hk hr hB (e4 a.defers) (next (.refl _ _ _ _) (put_eta _ _ _) (.refl _))
    · rename_i hal
      split at hW
      · rename_i d C' hdst hgd
        split at hW
        case h_2 => cases hW
        rename_i W' C3 hW'
        cases hW
        rw [consW_runL] at hk
        obtain ⟨hdf, h2⟩ := OpW.run_q H hk
        simp only [wpOpsIn, hoi]
        have hw : Region.wanted o (yielded all.toArray a.tmps) = true := by unfold Region.wanted; rw [hgd]
        rw [if_pos hw]
        refine NextQ.wp hdf (h2 (fun _ => rfl) (fun _ => rfl) hr hB (he.evo _)) fun v σ1 x w' h1 hdid => ?_
        rw [putK_eq hdst] at h1
        obtain ⟨φ', r1, x1, v1, s1⟩ := hdid
        exact ihr (i + 1) C' _ _ σ1 k W' C2 hdr' hW' h1 r1 (Fz.le_trans hB x1.size) ((he.mono x1.le x1.csz).put hdst v1 (ds := a.defers)) (next x1 (put_eta _ _ _) ⟨s1.1, s1.2.1, s1.2.2⟩)
      · rename_i d C' j w0 hdst hgd
        split at hW
        case h_2 => cases hW
        rename_i g W' C3 hg hW'
        cases hW
        have hk' : guardK g w0 t ls (putK d .undef t ls fun t ls => W'.runL ih t ls σ k) ((opW P C o.op).run ih t ls σ fun v σ => putK d v t ls fun t ls => W'.runL ih t ls σ k) = true := hk
        have skip : (g t ls = .undef ∨ ∃ b, b ≠ w0 ∧ g t ls = .bool b) → (putK d .undef t ls fun t ls => W'.runL ih t ls σ k) = true → wpOpsIn (FW ro) 0 P all.toArray Q (i :: List.range' (i + 1) (r.length + s.length)) a w := fun hgv hk2 => by
          rw [putK_eq hdst] at hk2
          simp only [wpOpsIn, hoi]
          have hw : Region.wanted o (yielded all.toArray a.tmps) = false := by
            obtain ⟨_, q2, q3⟩ := wanted_r (C := C) (t := t) (ls := ls) (φ := φ) (κ := csz w.heap) hgd hg fun u _ f hf => he.tmp hf
            rcases hgv with e | ⟨b, hb, e⟩
            · exact q2 e
            · exact q3 b hb e
          rw [hw, if_neg (by simp)]
          exact ⟨fun _ _ => trivial, ihr (i + 1) C' _ _ σ k W' C2 hdr' hW' hk2 hr hB (he.put hdst .undef (ds := a.defers)) (next (.refl _ _ _ _) (put_eta _ _ _) (.refl _))⟩
        rcases guardK_true hk' with ⟨e1, hk2⟩ | ⟨b, e1, hb, hk2⟩ | ⟨e1, hk2⟩
        · exact skip (.inl e1) hk2
        · exact skip (.inr ⟨b, hb, e1⟩) hk2
        · obtain ⟨hdf, h2⟩ := OpW.run_q H hk2
          simp only [wpOpsIn, hoi]
          have hw : Region.wanted o (yielded all.toArray a.tmps) = true := (wanted_r (C := C) (t := t) (ls := ls) (φ := φ) (κ := csz w.heap) hgd hg fun u _ f hf => he.tmp hf).1 e1
          rw [if_pos hw]
          refine NextQ.wp hdf (h2 (fun _ => rfl) (fun _ => rfl) hr hB (he.evo _)) fun v σ1 x w' h1 hdid => ?_
          rw [putK_eq hdst] at h1
          obtain ⟨φ', r1, x1, v1, s1⟩ := hdid
          exact ihr (i + 1) C' _ _ σ1 k W' C2 hdr' hW' h1 r1 (Fz.le_trans hB x1.size) ((he.mono x1.le x1.csz).put hdst v1 (ds := a.defers)) (next x1 (put_eta _ _ _) ⟨s1.1, s1.2.1, s1.2.2⟩)
      · cases hW
set_option maxHeartbeats 1000000 in
theorem mapW_q (H : LvQ P ih) {fn : Nat} {x y : Code} {u : MU} (hu : mapW P (cxOf P fn) x y = some u) {rd : Option Ad} {t : Regs} {d : List Ad} {σ : Hp} {k : KC} (hk : mapCode true u ih fn rd t d σ k = true) : CodeQ P (.seq x y) fn rd t d σ k := by
  unfold mapW at hu
  split at hu
  · cases hu
  rename_i ops1 ops2 tok Z bid b2 hsh
  split at hu
  case h_2 => cases hu
  rename_i init last hd r2 en r3 Y hlast hZ
  split at hu
  case h_2 => cases hu
  rename_i it T X tn it1 te it2 hrg hnx hen
  split at hu
  case isFalse => cases hu
  rename_i hcond
  obtain ⟨rfl, rfl, hit, htok, hmt⟩ := hcond
  split at hu
  case h_2 => cases hu
  rename_i W C1 hW
  split at hu
  case h_2 => cases hu
  rename_i fx dn Cn de Ce ftok fit hfx hdn hde hftok hfit
  cases hu
  obtain ⟨i1, o1, i2, o2, rfl, rfl, hl1, hl2⟩ := loopShape_inv hsh
  obtain ⟨rg1, rg2, rg3⟩ := rangeOp_inv hrg
  have hinit := lastOf_inv hlast
  intro B φ a w ro r hB he hdr hr
  refine wpIn_seq (wpIn_region ?_)
  have hsz : o1.size = init.length + 1 := by rw [← Array.length_toList, hl1, hinit]; simp
  have hr1 : List.range o1.size = List.range' 0 (init.length + [last].length) := by rw [hsz, List.range_eq_range']; rfl
  rw [hr1]
  have ho1 : o1 = ops1.toArray := by rw [← hl1]
  rw [ho1]
  have hk1 : W.runL ih t .nil σ (fun t ls σ => (fx t ls).asMp
      (σ.newK .dead fun α σ => (regW it).setK t (.ptr α 0) fun t => doneK fit α dn (opsW P (hd :: r2) Cn r2) ftok ih t σ fun t σ => k .normal t d σ)
      fun β => σ.mpK β fun m => σ.newK .dead fun α σ => σ.setK β .dead fun σ => (regW it).setK t (.ptr α 0) fun t =>
        goK true (doneK fit α dn (opsW P (hd :: r2) Cn r2) ftok ih) (fun a v t d σ k => stepK fit α dn (opsW P (hd :: r2) Cn r2) ftok de (opsW P (en :: r3) Ce r3) b2 Y ih fn rd a v t d σ k) (finK β m) bid k 64 m t d σ) = true := hk
  have hb := cxOf_binds P fn
  obtain ⟨hE1, hn1⟩ := opsL_cx _ _ _ _ _ _ hW
  refine opsL_q H ops1 [last] init 0 (cxOf P fn) t .nil σ _ W C1 (by rw [hinit]; rfl) hW hk1 r hB (EnvR.of_er hb he) ?_
  intro t1 ls1 σ1 a1 w1 φ1 hk2 r1 x1 e1 hdf1 s1
  have hlo : ops1.toArray[0 + init.length]? = some last := by rw [hinit]; simp
  have hrng : List.range' (0 + init.length) [last].length = [0 + init.length] := rfl
  rw [hrng]
  have hvx : VR φ1 (csz w1.heap) (fx t1 ls1) (a1.eval X) := opd_r (unW_some hfx) fun u _ f hf => e1.tmp hf
  have her1 : ER φ1 (csz w1.heap) (cxOf P fn) t1 a1.tmps := e1.er.cx hE1.symm hn1.symm
  have hB1 : B.le w1.heap.size := Fz.le_trans hB x1.size
  have hmt' : ∃ K E, P.underlying T = some (.map K E) := by
    unfold mapTy at hmt
    split at hmt
    · exact ⟨_, _, by assumption⟩
    · cases hmt
  obtain ⟨K, E, hT⟩ := hmt'
  rcases AV.asMp_true hk2 with ⟨hfv, hk3⟩ | ⟨β, hfv, hk3⟩
  · -- no map
    rw [hfv] at hvx
    have hX : a1.eval X = .map none := by
      generalize a1.eval X = xv at hvx ⊢
      cases hvx; rfl
    obtain ⟨σ2, hm2, hk4⟩ := Hp.newK_true hk3
    rw [RegW.setK_eq] at hk4
    obtain ⟨r2', x2⟩ := r1.made hm2 (.mapIter none 0 #[] 0) hB1 rfl (.dead _ _)
    have hrun : (execOp a1.eval { dst := none, op := .range T X, type := last.type, pos := "", after := #[], guard := none }).run P w1 = .ok (.value (.pointer (some ⟨w1.heap.size, 0, none⟩))) (w1.alloc (.mapIter none 0 #[] 0)) :=
      v_run (s := Instr.range T (a1.eval X)) (by rw [hX]; simp [Instr.range, underlying, hT, newObj, Sem.run] <;> rfl)
    refine ops_val (some it) (.range T X) _ (w1.alloc (.mapIter none 0 #[] 0)) hlo rg3 rg2 rg1 (fun c h => by cases h) hrun ?_
    show (Code.block _ _).wpIn _ _ _ _ _ _
    have hw2 : (w1.alloc (.mapIter none 0 #[] 0)).heap = w1.heap.push (.mapIter none 0 #[] 0) := rfl
    have hα : (φ1.put σ1.nx (w1.heap.size, 0)) σ1.nx = some (w1.heap.size, 0) := Emb.put_self _ _ _
    have her2 : ER (φ1.put σ1.nx (w1.heap.size, 0)) (csz (w1.heap.push (.mapIter none 0 #[] 0))) (cxOf P fn) (Regs.set t1 it (.ptr σ1.nx 0)) (a1.put (some it) (.pointer (some ⟨w1.heap.size, 0, none⟩))).tmps :=
      (her1.mono x2.le x2.csz).put hit (by have := VR.ptr (κ := csz (w1.heap.push (.mapIter none 0 #[] 0))) (φ := φ1.put σ1.nx (w1.heap.size, 0)) σ1.nx 0 _ _ hα; simpa using this)
    obtain ⟨q1, hk5⟩ := hereK_true (show hereK fit σ1.nx (Regs.set t1 it (.ptr σ1.nx 0)) _ = true from hk4)
    obtain ⟨hd1, hd2, hd3⟩ := nextOp_inv hnx
    have hev := it_eval hit hfit q1 hα her2
    refine wpIn_block (LoopIn.wpIn (LoopIn.round (wpIn_seq ?_)))
    refine first_q H hl2 hd1 hd3 (fun c h => by rw [hd2] at h; cases h) hdn (by rw [hl2]; exact hk5) (x := .tuple #[.bool false]) (w1 := w1.alloc (.mapIter none 0 #[] 0)) ?_ (LR.tup (by simpa using LR.cons (VR.bool _) LR.nil)) r2' (Fz.le_trans hB1 (by simp)) her2 ?_
    · rw [hd2]
      refine v_run (s := Instr.next _ false _) ?_
      rw [hev]
      have hself : (w1.alloc (.mapIter none 0 #[] 0)).heap[w1.heap.size]? = some (.mapIter none 0 #[] 0) := by rw [hw2]; simp
      simp only [Instr.next, getObj, Sem.run_bind, Sem.run, hself, Result.andThen]
      rfl
    intro t' σ' a' w' hk6 ⟨⟨φ', r', x', er'⟩, hdf, s'⟩
    obtain ⟨c, hc, hk7⟩ := AV.asBool_true hk6
    obtain ⟨rfl, hk8⟩ := sel_no hk7
    refine wpIn_seq (wpIn_cond_false (tok_eval htok hftok hc er') (wpIn_exit ?_))
    simp only [Exit.then]
    refine inBlock_exit ?_
    refine ⟨_, _, _, _, hk8, rfl, ⟨φ', r', x1.trans (x2.trans x'), er', ?_⟩, s1.trans ((⟨rfl, rfl, rfl⟩ : Same w1 (w1.alloc (.mapIter none 0 #[] 0))).trans s')⟩
    rw [hdf, put_eta, hdf1]
    exact hdr.mono (Emb.le_trans x1.le (Emb.le_trans x2.le x'.le))
  · -- a map
    rw [hfv] at hvx
    generalize hXv : a1.eval X = xv at hvx
    cases hvx with
    | map _ bm hβ1 =>
    obtain ⟨m, hg, hk4⟩ := Hp.mpK_true hk3
    obtain ⟨σ2, hm2, hk5⟩ := Hp.newK_true hk4
    rw [Hp.setK_eq, RegW.setK_eq] at hk5
    obtain ⟨_, es, cl, hw, hmr⟩ := r1.map hβ1 hg
    have hbl : bm < w1.heap.size := (r1.low _ _ _ hβ1).2
    obtain ⟨r2', x2⟩ := r1.made hm2 (.mapIter (some bm) cl #[] cl) hB1 rfl (.dead _ _)
    have hrun : (execOp a1.eval { dst := none, op := .range T X, type := last.type, pos := "", after := #[], guard := none }).run P w1 = .ok (.value (.pointer (some ⟨w1.heap.size, 0, none⟩))) (w1.alloc (.mapIter (some bm) cl #[] cl)) :=
      v_run (s := Instr.range T (a1.eval X)) (by rw [hXv]; simp [Instr.range, underlying, hT, run_getObj_map hw, newObj, Sem.run] <;> rfl)
    refine ops_val (some it) (.range T X) _ (w1.alloc (.mapIter (some bm) cl #[] cl)) hlo rg3 rg2 rg1 (fun c h => by cases h) hrun ?_
    show (Code.block _ _).wpIn _ _ _ _ _ _
    have hw2 : (w1.alloc (.mapIter (some bm) cl #[] cl)).heap = w1.heap.push (.mapIter (some bm) cl #[] cl) := rfl
    have hα : (φ1.put σ1.nx (w1.heap.size, 0)) σ1.nx = some (w1.heap.size, 0) := Emb.put_self _ _ _
    have hβ2 : (φ1.put σ1.nx (w1.heap.size, 0)) β = some (bm, 0) := x2.le _ _ hβ1
    have hβn : β ≠ σ1.nx := fun e => by subst e; rw [r1.nx_none] at hβ1; cases hβ1
    have hg2 : σ2.get β = some (.mp m) := by rw [hm2.get, if_neg hβn]; exact hg
    have her2 : ER (φ1.put σ1.nx (w1.heap.size, 0)) (csz (w1.heap.push (.mapIter (some bm) cl #[] cl))) (cxOf P fn) (Regs.set t1 it (.ptr σ1.nx 0)) (a1.put (some it) (.pointer (some ⟨w1.heap.size, 0, none⟩))).tmps :=
      (her1.mono x2.le x2.csz).put hit (by have := VR.ptr (κ := csz (w1.heap.push (.mapIter (some bm) cl #[] cl))) (φ := φ1.put σ1.nx (w1.heap.size, 0)) σ1.nx 0 _ _ hα; simpa using this)
    have hBm : ¬ B bm := fun hBb => by
      obtain ⟨k0, e0, dd⟩ := (r1.low _ _ _ hβ1).1 hBb
      rw [hg] at e0; cases e0; exact dd.elim
    have hBi : ¬ B w1.heap.size := fun hBb => Nat.lt_irrefl _ (hB1 _ hBb)
    have hfz := r2'.freeze (itb := w1.heap.size) hβ2 hg2 fun γ dd hγ => by
      rcases Emb.put_inv hγ with ⟨rfl, _⟩ | ⟨_, hy⟩
      · exact ⟨.dead, by rw [hm2.get, if_pos rfl], trivial⟩
      · exact absurd (r1.low _ _ _ hy).2 (Nat.lt_irrefl _)
    have hFle : Fz.le (fun b => B b ∨ b = w1.heap.size ∨ b = bm) (w1.alloc (.mapIter (some bm) cl #[] cl)).heap.size := fun b hb => by
      rw [hw2, Array.size_push]
      rcases hb with hb | rfl | rfl
      · have := hB1 b hb; omega
      · omega
      · omega
    have hself : (w1.alloc (.mapIter (some bm) cl #[] cl)).heap[w1.heap.size]? = some (.mapIter (some bm) cl #[] cl) := by rw [hw2]; simp
    have hbm2 : (w1.alloc (.mapIter (some bm) cl #[] cl)).heap[bm]? = some (.map es cl) := by rw [hw2, push_old _ hbl]; exact hw
    have hmr2 := hmr.mono (φ' := φ1.put σ1.nx (w1.heap.size, 0)) (κ' := csz (w1.alloc (.mapIter (some bm) cl #[] cl)).heap) x2.le x2.csz
    have hl0 : (leftOf es #[]).toList = es.toList := by unfold leftOf; simp
    have := go_q H hl2 hnx hZ hen hit htok hdn hde hftok hfit (B := B) (σ1 := σ2) (w1 := w1.alloc (.mapIter (some bm) cl #[] cl)) (rd := rd) (ro := ro) (k := k) (i2 := i2) (b2 := b2) (bid := bid) hβ2 hα hBm hBi (by omega) hmr2 64 m (Regs.set t1 it (.ptr σ1.nx 0)) d (σ2.set β .dead) (φ1.put σ1.nx (w1.heap.size, 0))
      (a1.put (some it) (.pointer (some ⟨w1.heap.size, 0, none⟩))) (w1.alloc (.mapIter (some bm) cl #[] cl)) #[] (by rw [hl2]; exact hk5) hfz hFle her2 (by rw [put_eta, hdf1]; exact hdr.mono (Emb.le_trans x1.le x2.le)) (hr.mono (Emb.le_trans x1.le x2.le)) (.refl _ _ _ _) (.refl _) hself hbm2 (by rw [hl0]; exact hmr2.left)
    refine wpIn_mono (wpIn_block (LoopIn.wpIn this)) ?_
    rintro e' a' w' ⟨e, t', d', σ', hk6, hend⟩
    exact ⟨e, t', d', σ', hk6, Ended.trans x1 s1 (Ended.trans (w := w1) (w' := w1.alloc (.mapIter (some bm) cl #[] cl)) (φ := φ1) (σ := σ1) x2 ⟨rfl, rfl, rfl⟩ hend)⟩
theorem unitQ_ok : UnitOK P (unitQ P true) := fun ih H fn x y u hu {rd t d σ k} hk => by
  unfold unitQ at hu
  split at hu
  · rename_i u' hu'
    cases hu
    exact mapW_q H hu' hk
  · cases hu
end
end Go.Am
