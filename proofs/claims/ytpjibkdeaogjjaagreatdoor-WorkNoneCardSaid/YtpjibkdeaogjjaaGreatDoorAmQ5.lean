import Derived.Test.YtpjibkdeaogjjaaGreatDoorAmQ4
set_option linter.unusedVariables false
set_option linter.unusedSimpArgs false
/-! Soundness in another form, 5: a loop over a map, whole. -/
namespace Go.Am
open Go
theorem nextOp_inv {o : Oper} {tn it : Nat} (h : nextOp o = some (tn, it)) : o.dst = some tn ∧ o.op = .next (.tmp it) false ∧ o.guard = none := by
  unfold nextOp at h
  split at h
  · cases h; exact ⟨rfl, rfl, rfl⟩
  · cases h
theorem entryOp_inv {o : Oper} {te it : Nat} (h : entryOp o = some (te, it)) : o.dst = some te ∧ o.op = .entry (.tmp it) ∧ o.guard = none := by
  unfold entryOp at h
  split at h
  · cases h; exact ⟨rfl, rfl, rfl⟩
  · cases h
theorem rangeOp_inv {o : Oper} {it : Nat} {T : TypeId} {X : Operand} (h : rangeOp o = some (it, T, X)) : o.dst = some it ∧ o.op = .range T X ∧ o.guard = none := by
  unfold rangeOp at h
  split at h
  · cases h; exact ⟨rfl, rfl, rfl⟩
  · cases h
theorem entOf_inv {Z Y : Code} {l : List Oper} (h : entOf Z = some (l, Y)) : ∃ i3 ops3, Z = .seq (.region i3 ops3 false) Y ∧ ops3.toList = l := by
  unfold entOf at h
  split at h
  · cases h; exact ⟨_, _, rfl, rfl⟩
  · cases h
theorem loopShape_inv {x y Z : Code} {l1 l2 : List Oper} {tok bid b2 : Nat} (h : loopShape x y = some (l1, l2, tok, Z, bid, b2)) :
    ∃ i1 ops1 i2 ops2, x = .region i1 ops1 false ∧ y = .block bid (.loop (.seq (.region i2 ops2 false) (.seq (.cond (.tmp tok) .skip (.exit bid)) (.block b2 Z)))) ∧ ops1.toList = l1 ∧ ops2.toList = l2 := by
  unfold loopShape at h
  split at h
  · split at h
    · rename_i hb
      cases h
      subst hb
      exact ⟨_, _, _, _, rfl, rfl, rfl, rfl⟩
    · cases h
  · cases h
theorem lastOf_inv : ∀ {l init : List Oper} {last : Oper}, lastOf l = some (init, last) → l = init ++ [last]
  | [], _, _, h => by cases h
  | [o], _, _, h => by cases h; rfl
  | o :: p :: r, init, last, h => by
    simp only [lastOf] at h
    split at h
    · rename_i l q hq
      cases h
      rw [lastOf_inv hq]; rfl
    · cases h
theorem finK_true {β : Ad} {m : AMap} {σ : Hp} {k : Hp → Bool} (h : finK β m σ k = true) : σ.noOlds β = true ∧ k (σ.set β (.mp m)) = true := by
  obtain ⟨h1, h2⟩ := sel_yes h
  rw [Hp.setK_eq] at h2
  exact ⟨h1, h2⟩
section
variable {P : Program} {ih : Lv}
theorem tmpW_get {C : Cx} {it : Nat} {fit : OpdF} (hg : C.glob it = true) (h : unW (tmpW C it) = some fit) (t : Regs) : fit t .nil = t.get it := by
  have h1 := unW_some h
  unfold tmpW at h1
  rw [if_pos hg, evR_eq] at h1
  cases h1
  rfl
theorem tok_eval {C : Cx} {tok : Nat} {ftok : OpdF} (hg : C.glob tok = true) (h : unW (tmpW C tok) = some ftok) {t : Regs} {b : Bool} (hv : ftok t .nil = .bool b) {φ : Emb} {κ : Nat → Nat} {a : Act} (he : ER φ κ C t a.tmps) : a.eval (.tmp tok) = .bool b := by
  obtain ⟨x, h1, h2⟩ := he.get tok hg
  rw [← tmpW_get hg h, hv] at h2
  simp only [Act.eval, Array.getD_eq_getD_getElem?, h1, Option.getD_some]
  cases h2; rfl
theorem it_eval {C : Cx} {it : Nat} {fit : OpdF} (hg : C.glob it = true) (h : unW (tmpW C it) = some fit) {t : Regs} {α : Ad} (hv : fit t .nil = .ptr α 0) {φ : Emb} {κ : Nat → Nat} {a : Act} {itb : Nat} (hα : φ α = some (itb, 0)) (he : ER φ κ C t a.tmps) : a.eval (.tmp it) = .pointer (some ⟨itb, 0, none⟩) := by
  obtain ⟨x, h1, h2⟩ := he.get it hg
  rw [← tmpW_get hg h, hv] at h2
  simp only [Act.eval, Array.getD_eq_getD_getElem?, h1, Option.getD_some]
  cases h2 with
  | ptr _ _ b d hφ =>
    rw [hα] at hφ; cases hφ; rfl
set_option maxHeartbeats 1000000 in
theorem go_q (H : LvQ P ih) {fn it tn tok te bid b2 i2 : Nat} {ops2 : Array Oper} {hd en : Oper} {r2 r3 : List Oper} {Z Y : Code}
    (hops2 : ops2.toList = hd :: r2) (hhd : nextOp hd = some (tn, it)) (hZ : entOf Z = some (en :: r3, Y)) (hen : entryOp en = some (te, it)) (hit : (cxOf P fn).glob it = true) (htok : (cxOf P fn).glob tok = true)
    {dn de : Dst} {Cn Ce : Cx} {ftok fit : OpdF} (hdn : dstW (cxOf P fn) (some tn) = some (dn, Cn)) (hde : dstW (cxOf P fn) (some te) = some (de, Ce)) (hftok : unW (tmpW (cxOf P fn) tok) = some ftok) (hfit : unW (tmpW (cxOf P fn) it) = some fit)
    {B : Fz} {φ1 : Emb} {σ1 : Hp} {w1 : World} {rd : Option Ad} {ro : Option Nat} {k : KC} {bm itb clock : Nat} {es : Array MapEntry} {β α : Ad} {m0 : AMap}
    (hβ : φ1 β = some (bm, 0)) (hα : φ1 α = some (itb, 0)) (hBm : ¬ B bm) (hBi : ¬ B itb) (hmi : bm ≠ itb) (hmr : MR φ1 (csz w1.heap) m0 es clock) :
    ∀ (n : Nat) (m : AMap) (t : Regs) (d : List Ad) (σ : Hp) (φ : Emb) (a : Act) (w : World) (seen : Array Nat),
      goK true (doneK fit α dn (opsW P ops2.toList Cn r2) ftok ih) (fun a v t d σ k => stepK fit α dn (opsW P ops2.toList Cn r2) ftok de (opsW P (en :: r3) Ce r3) b2 Y ih fn rd a v t d σ k) (finK β m0) bid k n m t d σ = true →
      Rel P (fun b => B b ∨ b = itb ∨ b = bm) φ σ w.heap → Fz.le (fun b => B b ∨ b = itb ∨ b = bm) w.heap.size → ER φ (csz w.heap) (cxOf P fn) t a.tmps → DR φ rd d a.defers → RdR φ rd ro →
      Ext B φ1 (σ1.set β .dead) w1.heap φ σ w.heap → Same w1 w → w.heap[itb]? = some (.mapIter (some bm) clock seen clock) → w.heap[bm]? = some (.map es clock) → LeftR φ (csz w.heap) m (leftOf es seen).toList →
      LoopIn (FW ro) 0 P (.seq (.region i2 ops2 false) (.seq (.cond (.tmp tok) .skip (.exit bid)) (.block b2 Z))) (Exit.inBlock bid fun e' a' w' => ∃ e t' d' σ', k e t' d' σ' = true ∧ Ended P B φ1 σ1 w1 (cxOf P fn) rd e t' d' σ' e' a' w') a w := by
  obtain ⟨hd1, hd2, hd3⟩ := nextOp_inv hhd
  obtain ⟨en1, en2, en3⟩ := entryOp_inv hen
  obtain ⟨i3, ops3, rfl, hops3⟩ := entOf_inv hZ
  have hold : ∀ x ∈ es.toList, x.born < clock := hmr.born.2
  have finish : ∀ (e : AExit) {φ3 : Emb} {σ3 : Hp} {w3 : World} {a3 : Act} {t3 : Regs} {d3 : List Ad}, σ3.noOlds β = true → Rel P (fun b => B b ∨ b = itb ∨ b = bm) φ3 σ3 w3.heap → Ext B φ1 (σ1.set β .dead) w1.heap φ3 σ3 w3.heap →
      ER φ3 (csz w3.heap) (cxOf P fn) t3 a3.tmps → DR φ3 rd d3 a3.defers → Same w1 w3 → w3.heap[bm]? = some (.map es clock) → Ended P B φ1 σ1 w1 (cxOf P fn) rd e t3 d3 (σ3.set β (.mp m0)) (exitOf e) a3 w3 := fun e {φ3 σ3 w3 a3 t3 d3} hno r3 x3 e3 d3' s3 hb3 =>
    ⟨rfl, ⟨φ3, r3.thaw (x3.le _ _ hβ) hb3 (hmr.mono x3.le x3.csz) hno hBm, x3.thaw hβ, e3, d3'⟩, s3⟩
  intro n
  induction n with
  | zero => intro m t d σ φ a w seen hk; cases hk
  | succ n ihn =>
    intro m t d σ φ a w seen hk r hF he hdr hr hx hs hitw hbm hL
    refine LoopIn.round (wpIn_seq ?_)
    have hαφ := hx.le _ _ hα
    cases m with
    | nil =>
      have hk' : doneK fit α dn (opsW P ops2.toList Cn r2) ftok ih t σ (fun t σ => finK β m0 σ fun σ => k .normal t d σ) = true := hk
      obtain ⟨e1, hk1⟩ := hereK_true hk'
      have hev := it_eval hit hfit e1 hαφ he
      have hL0 : (leftOf es seen).toList = [] := by
        obtain ⟨l, q1, q2, _⟩ := hL
        have : l = [] := List.Perm.eq_nil q1
        rw [this] at q2
        exact List.length_eq_zero_iff.1 q2.symm
      rcases run_next_at (P := P) (ty := hd.type) hitw hbm hold (Nat.le_refl _) with ⟨h0, hrun⟩ | ⟨e, he1, _⟩
      case inr => rw [hL0] at he1; cases he1
      refine first_q H hops2 hd1 hd3 (fun c h => by rw [hd2] at h; cases h) hdn hk1 (x := .tuple #[.bool false]) (w1 := w) ?_ (LR.tup (by simpa using LR.cons (VR.bool _) LR.nil)) r hF he ?_
      · rw [hd2]
        exact v_run (s := Instr.next (a.eval (.tmp it)) false _) (by rw [hev]; exact hrun)
      intro t' σ' a' w' hk2 ⟨⟨φ', r', x', er'⟩, hdf, s'⟩
      obtain ⟨c, hc, hk3⟩ := AV.asBool_true hk2
      obtain ⟨rfl, hk4⟩ := sel_no hk3
      obtain ⟨hno, hk5⟩ := finK_true hk4
      refine wpIn_seq (wpIn_cond_false (tok_eval htok hftok hc er') (wpIn_exit ?_))
      simp only [Exit.then]
      refine inBlock_exit ?_
      refine ⟨_, _, _, _, hk5, ?_⟩
      refine finish .normal hno r' (hx.trans (x'.less fun b h => .inl h)) er' (by rw [hdf]; exact hdr.mono x'.le) (hs.trans s') ?_
      rw [x'.low bm (.inr (.inr rfl))]; exact hbm
    | cons k1 v1 mr =>
      have hp : (AMap.cons k1 v1 mr).picksK true (fun av vv rm => stepK fit α dn (opsW P ops2.toList Cn r2) ftok de (opsW P (en :: r3) Ce r3) b2 Y ih fn rd av vv t d σ fun e t d σ =>
        AExit.caseK (goK true (doneK fit α dn (opsW P ops2.toList Cn r2) ftok ih) (fun a v t d σ k => stepK fit α dn (opsW P ops2.toList Cn r2) ftok de (opsW P (en :: r3) Ce r3) b2 Y ih fn rd a v t d σ k) (finK β m0) bid k n rm t d σ) (fun id => finK β m0 σ fun σ => sel (Nat.beq bid id) (k .normal t d σ) (k (.exit id) t d σ)) (finK β m0 σ fun σ => k .ret t d σ) e) (fun x => x) = true := hk
      rcases run_next_at (P := P) (ty := hd.type) hitw hbm hold (Nat.le_refl _) with ⟨h0, hrun⟩ | ⟨e, he1, w2, hw2, hs2, hrun⟩
      · exfalso
        obtain ⟨l, q1, q2, _⟩ := hL
        have h00 : (leftOf es seen).toList.length = 0 := by rw [Array.length_toList]; exact h0
        rw [h00] at q2
        have : l = [] := List.length_eq_zero_iff.1 q2
        subst this
        have := q1.symm.eq_nil
        cases this
      obtain ⟨hem, hes⟩ := mem_left he1
      have hnl : ((leftOf es seen).toList.map (·.born)).Nodup := by
        unfold leftOf
        rw [Array.toList_filter]
        exact hmr.born.1.sublist (List.filter_sublist.map _)
      obtain ⟨av, vv, rm, hst, va, vv', hL'⟩ := hL.pick hnl he1 hp
      obtain ⟨e1, hk1⟩ := hereK_true (show hereK fit α t _ = true from hst)
      have hev := it_eval hit hfit e1 hαφ he
      have hc2 : ∀ b', csz w.heap b' ≤ csz w2.heap b' := fun b' => by rw [hw2]; exact csz_loop hitw (fun _ _ _ h => by cases h) b'
      have hz2 : w2.heap.size = w.heap.size := by rw [hw2]; simp
      have hit2 : w2.heap[itb]? = some (.mapIter (some bm) clock (seen.push e.born) clock) := by rw [hw2]; exact hset_self hitw
      have hbm2 : w2.heap[bm]? = some (.map es clock) := by rw [hw2, hset_ne hmi]; exact hbm
      have r2' : Rel P (fun b => B b ∨ b = itb ∨ b = bm) φ σ w2.heap := r.aside (by omega) hc2 fun b hb => by
        rw [hw2]; exact hset_ne fun e => hb (.inr (.inl e))
      have x2 : Ext B φ σ w.heap φ σ w2.heap := ⟨φ.le_refl, Nat.le_refl _, fun β y q1 q2 => absurd (q2.symm.trans q1) (by simp), fun _ _ _ => .inl rfl, by omega, hc2, fun b hb => by rw [hw2]; exact hset_ne fun e => hBi (e ▸ hb)⟩
      have hF2 : Fz.le (fun b => B b ∨ b = itb ∨ b = bm) w2.heap.size := Fz.le_trans hF (by omega)
      refine first_q H hops2 hd1 hd3 (fun c h => by rw [hd2] at h; cases h) hdn hk1 (x := .tuple #[.bool true, e.key, e.val]) (w1 := w2) ?_
        (LR.tup (by simpa using LR.cons (VR.bool _) (LR.cons (va.mono φ.le_refl hc2) (LR.cons (vv'.mono φ.le_refl hc2) LR.nil)))) r2' hF2 (he.mono φ.le_refl hc2) ?_
      · rw [hd2]
        exact v_run (s := Instr.next (a.eval (.tmp it)) false _) (by rw [hev]; exact hrun)
      intro t' σ' a' w' hk2 ⟨⟨φ', r', x', er'⟩, hdf, s'⟩
      obtain ⟨c, hc, hk3⟩ := AV.asBool_true hk2
      obtain ⟨rfl, hk4⟩ := sel_yes hk3
      obtain ⟨e2, hk5⟩ := hereK_true hk4
      have hit3 : w'.heap[itb]? = some (.mapIter (some bm) clock (seen.push e.born) clock) := by rw [x'.low itb (.inr (.inl rfl))]; exact hit2
      have hbm3 : w'.heap[bm]? = some (.map es clock) := by rw [x'.low bm (.inr (.inr rfl))]; exact hbm2
      have hev' := it_eval hit hfit e2 (x'.le _ _ hαφ) er'
      refine wpIn_seq (wpIn_cond_true (tok_eval htok hftok hc er') (wpIn_skip ?_))
      refine wpIn_block (wpIn_seq ?_)
      refine first_q H hops3 en1 en3 (fun c h => by rw [en2] at h; cases h) hde (by rw [hops3]; exact hk5) (x := .tuple #[e.key, e.val]) (w1 := w') ?_
        (LR.tup (by simpa using LR.cons ((va.mono φ.le_refl hc2).mono x'.le x'.csz) (LR.cons ((vv'.mono φ.le_refl hc2).mono x'.le x'.csz) LR.nil))) r' (Fz.le_trans hF2 x'.size) er' ?_
      · rw [en2]
        exact v_run (s := Instr.entry (a'.eval (.tmp it))) (by rw [hev']; exact run_entry_at hit3 hbm3 hem hmr.born.1)
      intro t'' σ'' a'' w'' hk6 ⟨⟨φ'', r'', x'', er''⟩, hdf', s''⟩
      refine wpIn_mono (H.code hk6 (ro := ro) r'' (Fz.le_trans (Fz.le_trans hF2 x'.size) x''.size) er'' (by rw [hdf', hdf]; exact (hdr.mono x'.le).mono x''.le) ((hr.mono x'.le).mono x''.le)) ?_
      rintro e' a3 w3 ⟨e3, t3, d3, σ3, hk7, rfl, ⟨φ3, r3', x3, er3, dr3⟩, s3⟩
      have xall : Ext B φ1 (σ1.set β .dead) w1.heap φ3 σ3 w3.heap := hx.trans (x2.trans ((x'.less fun b h => .inl h).trans ((x''.less fun b h => .inl h).trans (x3.less fun b h => .inl h))))
      have sall : Same w1 w3 := hs.trans (hs2.trans (s'.trans (s''.trans s3)))
      have hbm4 : w3.heap[bm]? = some (.map es clock) := by rw [x3.low bm (.inr (.inr rfl)), x''.low bm (.inr (.inr rfl))]; exact hbm3
      have hit4 : w3.heap[itb]? = some (.mapIter (some bm) clock (seen.push e.born) clock) := by rw [x3.low itb (.inr (.inl rfl)), x''.low itb (.inr (.inl rfl))]; exact hit3
      have hL4 : LeftR φ3 (csz w3.heap) rm (leftOf es (seen.push e.born)).toList := by
        rw [left_push]
        exact (((hL'.mono φ.le_refl hc2).mono x'.le x'.csz).mono x''.le x''.csz).mono x3.le x3.csz
      have more := fun (h : goK true (doneK fit α dn (opsW P ops2.toList Cn r2) ftok ih) (fun a v t d σ k => stepK fit α dn (opsW P ops2.toList Cn r2) ftok de (opsW P (en :: r3) Ce r3) b2 Y ih fn rd a v t d σ k) (finK β m0) bid k n rm t3 d3 σ3 = true) =>
        ihn rm t3 d3 σ3 φ3 a3 w3 (seen.push e.born) h r3' (Fz.le_trans (Fz.le_trans (Fz.le_trans hF2 x'.size) x''.size) x3.size) er3 dr3 (((hr.mono x'.le).mono x''.le).mono x3.le) xall sall hit4 hbm4 hL4
      rcases AExit.caseK_true hk7 with ⟨rfl, hk8⟩ | ⟨id, rfl, hk8⟩ | ⟨rfl, hk8⟩
      · exact more hk8
      · rw [sel_true_iff] at hk8
        rcases hk8 with ⟨hid, hk9⟩ | ⟨hid, hk9⟩
        · have hib : b2 = id := Nat.eq_of_beq_eq_true hid
          subst hib
          simp only [exitOf, Exit.inBlock, if_true]
          exact more hk9
        · have hib : id ≠ b2 := fun e => by subst e; simp at hid
          simp only [exitOf, Exit.inBlock, if_neg hib]
          obtain ⟨hno, hk10⟩ := finK_true (show finK β m0 σ3 (fun σ => sel (Nat.beq bid id) (k .normal t3 d3 σ) (k (.exit id) t3 d3 σ)) = true from hk9)
          rw [sel_true_iff] at hk10
          rcases hk10 with ⟨hid2, hk11⟩ | ⟨hid2, hk11⟩
          · have hib2 : bid = id := Nat.eq_of_beq_eq_true hid2
            subst hib2
            simp only [Exit.then]
            exact inBlock_exit ⟨_, _, _, _, hk11, finish .normal hno r3' xall er3 dr3 sall hbm4⟩
          · have hib2 : id ≠ bid := fun e => by subst e; simp at hid2
            simp only [Exit.then, Exit.inBlock, if_neg hib2]
            exact ⟨_, _, _, _, hk11, finish (.exit id) hno r3' xall er3 dr3 sall hbm4⟩
      · obtain ⟨hno, hk9⟩ := finK_true (show finK β m0 σ3 (fun σ => k .ret t3 d3 σ) = true from hk8)
        exact ⟨_, _, _, _, hk9, finish .ret hno r3' xall er3 dr3 sall hbm4⟩
end
end Go.Am
