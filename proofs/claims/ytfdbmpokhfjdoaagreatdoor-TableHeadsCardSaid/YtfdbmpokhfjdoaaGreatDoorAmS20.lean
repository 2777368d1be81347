import Derived.Test.YtfdbmpokhfjdoaaGreatDoorAmS19
set_option linter.unusedVariables false
set_option linter.unusedSimpArgs false
/-! Soundness, 20: regions whose order is fixed. -/
namespace Go.Am
open Go
noncomputable def Ls.nth : Nat → Ls → AV
  | 0, ls => ls.hd
  | i + 1, ls => Ls.nth i ls.tl
theorem evL_eq (t : Regs) (ls : Ls) : ∀ (i : Nat) (f : OpdF), evL i = .mk f → f t ls = ls.nth i := by
  intro i
  induction i using Nat.strongRecOn generalizing ls with
  | _ i ih =>
    intro f h
    match i, ih, h with
    | 0, _, h => cases h; rfl
    | 1, _, h => cases h; rfl
    | 2, _, h => cases h; rfl
    | 3, _, h => cases h; rfl
    | i + 4, ih, h =>
      unfold evL at h
      split at h
      rename_i g hg
      cases h
      show g t ls.tl.tl.tl.tl = _
      rw [ih i (by omega) ls.tl.tl.tl.tl g hg]
      rfl
noncomputable def bindV (t : Regs) (ls : Ls) (depth : Nat) : Bind → AV
  | .loc l => ls.nth (depth - l - 1)
  | .reg u => t.get u
  | .cst v => v
theorem evR_eq (u : Nat) : evR u = .mk fun t _ => Regs.get t u := by unfold evR; rw [regW_eq]
theorem bindW_eq {depth : Nat} {b : Bind} {f : OpdF} (h : bindW depth b = .mk f) (t : Regs) (ls : Ls) : f t ls = bindV t ls depth b := by
  cases b with
  | loc l => exact evL_eq _ _ _ _ h
  | reg u => simp only [bindW, evR_eq] at h; cases h; rfl
  | cst v => cases h; rfl
theorem lookup_mem {l : List (Tmp × Bind)} {u : Tmp} {b : Bind} : List.lookup u l = some b → (u, b) ∈ l := by
  induction l with
  | nil => intro h; cases h
  | cons x l ih =>
    obtain ⟨c, d⟩ := x
    intro h
    rw [List.lookup_cons] at h
    split at h
    · rename_i hc
      cases h
      have : u = c := by simpa using hc
      subst this
      exact List.mem_cons_self
    · exact List.mem_cons_of_mem _ (ih h)
theorem lookup_none {l : List (Tmp × Bind)} {u : Tmp} {b : Bind} (h : List.lookup u l = none) (hb : (u, b) ∈ l) : False := by
  induction l with
  | nil => cases hb
  | cons x l ih =>
    obtain ⟨c, d⟩ := x
    rw [List.lookup_cons] at h
    split at h
    · cases h
    · rename_i hc
      rcases List.mem_cons.1 hb with e | hb
      · cases e; simp at hc
      · exact ih h hb
/-- What the temporaries stand for within a region. -/
structure EnvR (φ : Emb) (κ : Nat → Nat) (C : Cx) (t : Regs) (ls : Ls) (tmps : Array Value) : Prop where
  er : ER φ κ C t tmps
  loc : ∀ u b, (u, b) ∈ C.binds → u < C.n ∧ C.glob u = false ∧ (∀ r, b = .reg r → C.glob r = true) ∧ (∀ l, b = .loc l → l < C.depth) ∧ ∃ x, tmps[u]? = some x ∧ VR φ κ (bindV t ls C.depth b) x
section
variable {φ φ' : Emb} {κ κ' : Nat → Nat} {C C' : Cx} {t : Regs} {ls : Ls} {tmps : Array Value}
theorem EnvR.mono (h : EnvR φ κ C t ls tmps) (hφ : φ.le φ') (hκ : ∀ b, κ b ≤ κ' b) : EnvR φ' κ' C t ls tmps :=
  ⟨h.er.mono hφ hκ, fun u b hb => let ⟨h1, h2, h3, h4, x, h5, h6⟩ := h.loc u b hb; ⟨h1, h2, h3, h4, x, h5, h6.mono hφ hκ⟩⟩
theorem ER.cx (h : ER φ κ C t tmps) (hE : C'.E = C.E) (hn : C'.n = C.n) : ER φ κ C' t tmps :=
  ⟨by rw [hn]; exact h.size, fun i hi => h.get i (by simpa only [Cx.glob, hE, hn] using hi)⟩
theorem EnvR.tmp (h : EnvR φ κ C t ls tmps) {u : Tmp} {f : OpdF} (hf : tmpW C u = some (.mk f)) : ∃ x, tmps[u]? = some x ∧ VR φ κ (f t ls) x := by
  unfold tmpW at hf
  split at hf
  · rename_i hg
    rw [evR_eq] at hf
    cases hf
    exact h.er.get u hg
  · split at hf
    · rename_i b hb
      simp only [Option.some.injEq] at hf
      obtain ⟨_, _, _, _, x, h5, h6⟩ := h.loc u b (lookup_mem hb)
      exact ⟨x, h5, by rw [bindW_eq hf]; exact h6⟩
    · cases hf
theorem opd_r {a : Act} {X : Operand} {f : OpdF} (hX : opdW C X = some (.mk f)) (ht : ∀ u, X = .tmp u → ∀ f, tmpW C u = some (.mk f) → ∃ x, a.tmps[u]? = some x ∧ VR φ κ (f t ls) x) : VR φ κ (f t ls) (a.eval X) := by
  cases X with
  | tmp u =>
    obtain ⟨x, h1, h2⟩ := ht u rfl f hX
    simp only [Act.eval, Array.getD_eq_getD_getElem?, h1, Option.getD_some]
    exact h2
  | const v =>
    simp only [opdW] at hX
    split at hX
    · rename_i av hav
      cases hX
      exact avOf_s hav φ κ
    · cases hX
  | func g =>
    simp only [opdW, Option.some.injEq] at hX
    cases hX
    exact .func g .nil .nil [] [] #[] #[] rfl rfl rfl rfl (fun i h => absurd h (Nat.not_lt_zero _)) (fun i h => absurd h (Nat.not_lt_zero _))
  | global g => cases hX
theorem EnvR.evo {a : Act} (h : EnvR φ κ C t ls a.tmps) (o : Op) : EVO C φ κ t ls a.eval o := fun X _ f hX => opd_r hX fun u _ f hf => h.tmp hf
/-- Where a value is put: the registers, the own values then. -/
noncomputable def putT (C : Cx) (dst : Option Tmp) (v : AV) (t : Regs) : Regs := match dst with | some u => if C.glob u then Regs.set t u v else t | none => t
noncomputable def putL' (C : Cx) (dst : Option Tmp) (v : AV) (ls : Ls) : Ls := match dst with | some u => if C.glob u then ls else .cons v ls | none => ls
theorem glob_cx (hE : C'.E = C.E) (hn : C'.n = C.n) : C'.glob = C.glob := by
  funext u; simp only [Cx.glob, hE, hn]
theorem dstW_cx {dst : Option Tmp} {d : Dst} (h : dstW C dst = some (d, C')) : C'.E = C.E ∧ C'.n = C.n := by
  unfold dstW at h
  split at h
  · cases h; exact ⟨rfl, rfl⟩
  · split at h
    · split at h
      cases h
      exact ⟨rfl, rfl⟩
    · split at h
      · cases h
      · split at h
        · cases h; exact ⟨rfl, rfl⟩
        · cases h
theorem putK_eq {dst : Option Tmp} {d : Dst} (h : dstW C dst = some (d, C')) (v : AV) (t : Regs) (ls : Ls) (k : Regs → Ls → Bool) : putK d v t ls k = k (putT C dst v t) (putL' C dst v ls) := by
  unfold dstW at h
  split at h
  · cases h; rfl
  · rename_i u
    split at h
    · rename_i hg
      rw [regW_eq] at h
      simp only [Option.some.injEq, Prod.mk.injEq] at h
      obtain ⟨rfl, _⟩ := h
      simp only [putT, putL', hg, if_true]
      rfl
    · rename_i hg
      split at h
      · cases h
      · split at h
        · cases h
          simp only [putT, putL', hg, if_false, Bool.false_eq_true]
          rfl
        · cases h
theorem nth_cons (v : AV) (ls : Ls) (i : Nat) : Ls.nth (i + 1) (.cons v ls) = ls.nth i := rfl
theorem EnvR.put (h : EnvR φ κ C t ls tmps) {dst : Option Tmp} {d : Dst} (hd : dstW C dst = some (d, C')) {v : AV} {r : Value} (hv : VR φ κ v r) {ds : List Deferred} :
    EnvR φ κ C' (putT C dst v t) (putL' C dst v ls) (Act.put ⟨tmps, ds⟩ dst r).tmps := by
  unfold dstW at hd
  split at hd
  · cases hd; exact h
  · rename_i u
    split at hd
    · rename_i hg
      rw [regW_eq] at hd
      simp only [Option.some.injEq, Prod.mk.injEq] at hd
      obtain ⟨_, rfl⟩ := hd
      simp only [putT, putL', hg, if_true, Act.put]
      refine ⟨(h.er.put hg hv).cx rfl rfl, fun w b hb => ?_⟩
      have hb' : (w, b) ∈ C.binds ∧ b.isReg u = false := by
        simp only [Cx.wrote, List.mem_filter] at hb
        exact ⟨hb.1, by simpa using hb.2⟩
      obtain ⟨h1, h2, h3, h4, x, h5, h6⟩ := h.loc w b hb'.1
      have hwu : u ≠ w := fun e => by subst e; rw [hg] at h2; cases h2
      refine ⟨h1, h2, h3, h4, x, by rw [Array.getElem?_setIfInBounds, if_neg hwu]; exact h5, ?_⟩
      cases b with
      | loc l => exact h6
      | cst a => exact h6
      | reg r' =>
        have hr := h3 r' rfl
        have hne : r' ≠ u := fun e => by subst e; simp [Bind.isReg] at hb'
        show VR φ κ (Regs.get (Regs.set t u v) r') x
        rw [Regs.get_set _ _ _ _ (Cx.glob_lt hg).1 (Cx.glob_lt hr).1, if_neg hne]
        exact h6
    · rename_i hg
      have hg' : C.glob u = false := by simpa using hg
      split at hd
      · cases hd
      · rename_i hf
        split at hd
        · rename_i hun
          have hun' : @LT.lt Nat instLTNat u C.n := hun
          cases hd
          simp only [putT, putL', hg, if_false, Bool.false_eq_true, Act.put]
          have hsz := h.er.size
          refine ⟨⟨by simpa using hsz, fun i hi => ?_⟩, fun w b hb => ?_⟩
          · have hi' : C.glob i = true := hi
            obtain ⟨x, h1, h2⟩ := h.er.get i hi'
            have : u ≠ i := fun e => by subst e; rw [hg'] at hi'; cases hi'
            exact ⟨x, by rw [Array.getElem?_setIfInBounds, if_neg this]; exact h1, h2⟩
          · rcases List.mem_cons.1 hb with e | hb
            · cases e
              refine ⟨hun, hg', (fun r e => by cases e), (fun l e => by cases e; exact Nat.lt_succ_self _), r, ?_, ?_⟩
              · rw [Array.getElem?_setIfInBounds, if_pos rfl, if_pos (by omega)]
              · show VR φ κ (Ls.nth (C.depth + 1 - C.depth - 1) _) r
                rw [show C.depth + 1 - C.depth - 1 = 0 by omega]
                exact hv
            · obtain ⟨h1, h2, h3, h4, x, h5, h6⟩ := h.loc w b hb
              have hwu : u ≠ w := fun e => by subst e; exact lookup_none hf hb
              refine ⟨h1, h2, h3, (fun l e => Nat.lt_succ_of_lt (h4 l e)), x, by rw [Array.getElem?_setIfInBounds, if_neg hwu]; exact h5, ?_⟩
              cases b with
              | loc l =>
                have hl := h4 l rfl
                show VR φ κ (Ls.nth (C.depth + 1 - l - 1) _) x
                rw [show C.depth + 1 - l - 1 = (C.depth - l - 1) + 1 by omega, nth_cons]
                exact h6
              | reg r' => exact h6
              | cst a => exact h6
        · cases hd
theorem EnvR.alias (h : EnvR φ κ C t ls tmps) {all rest : List Oper} {o : Oper} {u : Tmp} {b : Bind} (ha : aliasOf C all o rest = some (u, b)) :
    ∃ X, o.dst = some u ∧ o.op = .move X ∧ o.guard = none ∧ ∀ ds, EnvR φ κ { C with binds := (u, b) :: C.binds } t ls (Act.put ⟨tmps, ds⟩ (some u) (Act.eval ⟨tmps, ds⟩ X)).tmps := by
  obtain ⟨dst, op, ty, pos, after, guard⟩ := o
  unfold aliasOf at ha
  simp only at ha
  split at ha
  case h_2 => cases ha
  rename_i v X
  split at ha
  · cases ha
  rename_i hcond
  simp only [Bool.or_eq_true, decide_eq_true_eq, not_or, Bool.not_eq_true, Nat.not_le] at hcond
  obtain ⟨⟨hg, hfn⟩, hlt⟩ := hcond
  have hfn' : C.find v = none := by simpa using hfn
  have hsz := h.er.size
  -- what the new one is
  have key : ∀ (b' : Bind), (∀ r, b' = .reg r → C.glob r = true) → (∀ l, b' = .loc l → l < C.depth) → (∀ ds, VR φ κ (bindV t ls C.depth b') (Act.eval ⟨tmps, ds⟩ X)) → some (v, b') = some (u, b) →
      ∃ Y, some v = some u ∧ Op.move X = .move Y ∧ (none : Option (Nat × Bool)) = none ∧ ∀ ds, EnvR φ κ { C with binds := (u, b) :: C.binds } t ls (Act.put ⟨tmps, ds⟩ (some u) (Act.eval ⟨tmps, ds⟩ Y)).tmps := fun b' hr hl hvr e => by
    cases e
    refine ⟨X, rfl, rfl, rfl, fun ds => ⟨⟨by simpa [Act.put] using hsz, fun i hi => ?_⟩, fun w b hb => ?_⟩⟩
    · have hi' : C.glob i = true := hi
      obtain ⟨x, h1, h2⟩ := h.er.get i hi'
      have : u ≠ i := fun e => by subst e; rw [hg] at hi'; cases hi'
      exact ⟨x, by simp only [Act.put]; rw [Array.getElem?_setIfInBounds, if_neg this]; exact h1, h2⟩
    · rcases List.mem_cons.1 hb with e | hb
      · cases e
        have hlt' : @LT.lt Nat instLTNat u C.n := hlt
        refine ⟨hlt, hg, hr, hl, _, ?_, hvr ds⟩
        simp only [Act.put]
        rw [Array.getElem?_setIfInBounds, if_pos rfl, if_pos (by omega)]
      · obtain ⟨h1, h2, h3, h4, x, h5, h6⟩ := h.loc w b hb
        have hwu : u ≠ w := fun e => by subst e; exact lookup_none hfn' hb
        exact ⟨h1, h2, h3, h4, x, by simp only [Act.put]; rw [Array.getElem?_setIfInBounds, if_neg hwu]; exact h5, h6⟩
  split at ha
  · rename_i cv
    cases hav : avOf cv with
    | none => rw [hav] at ha; cases ha
    | some a =>
      rw [hav] at ha
      exact key (.cst a) (fun r e => by cases e) (fun l e => by cases e) (fun ds => avOf_s hav φ κ) ha
  · rename_i w
    split at ha
    · rename_i hgw
      split at ha
      · cases ha
      · refine key (.reg w) (fun r e => by cases e; exact hgw) (fun l e => by cases e) (fun ds => ?_) ha
        obtain ⟨x, h1, h2⟩ := h.er.get w hgw
        simp only [Act.eval, Array.getD_eq_getD_getElem?, h1, Option.getD_some]
        exact h2
    · split at ha
      · rename_i w' hw'
        split at ha
        · cases ha
        · obtain ⟨h1, h2, h3, h4, x, h5, h6⟩ := h.loc w _ (lookup_mem hw')
          refine key (.reg w') h3 (fun l e => by cases e) (fun ds => ?_) ha
          simp only [Act.eval, Array.getD_eq_getD_getElem?, h5, Option.getD_some]
          exact h6
      · rename_i b' _ hw'
        obtain ⟨h1, h2, h3, h4, x, h5, h6⟩ := h.loc w _ (lookup_mem hw')
        refine key b' h3 h4 (fun ds => ?_) ha
        simp only [Act.eval, Array.getD_eq_getD_getElem?, h5, Option.getD_some]
        exact h6
      · cases ha
  · cases ha
end
section
variable {P : Program} {C : Cx} {t : Regs} {ls : Ls} {σ : Hp} {ih : Lv}
theorem opW_defer {c : Call} : opW P C (.defer c) = .bad := rfl
theorem OpW.run_s (H : LvOK P ih) {o : Oper} {k : KV} (hk : (opW P C o.op).run ih t ls σ k = true) : ∃ v σ', k v σ' = true ∧ (∀ c, o.op ≠ .defer c) ∧ OpOK P C t ls σ o v σ' := by
  have hd : ∀ c, o.op ≠ .defer c := fun c e => by rw [e, opW_defer] at hk; cases hk
  cases ho : opW P C o.op with
  | rd f dep =>
    rw [ho] at hk
    have hk' : f t ls σ (fun v => k v σ) = true := hk
    obtain ⟨v, h1, h2⟩ := opW_rd ho hk'
    refine ⟨v, σ, h1, hd, fun {B φ w ρ} hc hf r hB he => ?_⟩
    obtain ⟨x, h3, h4⟩ := h2 hc (fun _ => r) he
    rw [h3]
    exact ⟨φ, r, .refl _ _ _ _, h4, rfl, rfl, rfl⟩
  | al f =>
    rw [ho] at hk
    have hk' : f t ls (fun b mk => σ.newK b fun β σ => k (mk β) σ) = true := hk
    obtain ⟨blk, mk, h1, h2, h3⟩ := opW_al ho hk'
    obtain ⟨σ', m, h4⟩ := Hp.newK_true h1
    refine ⟨_, σ', h4, hd, fun {B φ w ρ} hc hf r hB he => ?_⟩
    obtain ⟨x, w', obj, e1, e2, e3, e4, e5, e6⟩ := h3 he
    obtain ⟨e7, e8⟩ := e6 σ.nx r.nx_none
    obtain ⟨r', x'⟩ := r.made m obj hB h2 e7
    rw [e1]
    exact ⟨_, by rw [e2]; exact r', by rw [e2]; exact x', by rw [e2]; exact e8, e3, e4, e5⟩
  | wr f =>
    rw [ho] at hk
    obtain ⟨v, σ', h1, h2⟩ := opW_wr H ho hk
    exact ⟨v, σ', h1, hd, h2⟩
  | bad => rw [ho] at hk; cases hk
theorem consW_run {d : Dst} {o : OpW} {r : OpsW} {k : KO} : (consW d o r).run ih t ls σ k = o.run ih t ls σ fun v σ => putK d v t ls fun t ls => r.run ih t ls σ k := by
  cases o <;> cases d <;> rfl
theorem guardK_true {g : OpdF} {w : Bool} {skip run : Bool} (h : guardK g w t ls skip run = true) : (g t ls = .undef ∧ skip = true) ∨ (∃ b, g t ls = .bool b ∧ b ≠ w ∧ skip = true) ∨ (g t ls = .bool w ∧ run = true) := by
  rcases AV.guardK_true h with ⟨h1, h2⟩ | ⟨b, h1, h2⟩
  · exact .inl ⟨h1, h2⟩
  · rw [sel_true_iff] at h2
    rcases h2 with ⟨h3, h4⟩ | ⟨h3, h4⟩
    · exact .inr (.inl ⟨b, h1, by intro e; subst e; simp at h3, h4⟩)
    · exact .inr (.inr ⟨by rw [h1]; congr 1; revert h3; cases b <;> cases w <;> simp, h4⟩)
/-- A guard: what it says is what the model is told. -/
theorem wanted_r {all : List Oper} {o : Oper} {j : Nat} {w : Bool} {g : OpdF} {φ : Emb} {κ : Nat → Nat} {tmps : Array Value} (ho : o.guard = some (j, w)) (hg : guardW C all j = some g)
    (ht : ∀ u, (all[j]?).bind (·.dst) = some u → ∀ f, tmpW C u = some (.mk f) → ∃ x, tmps[u]? = some x ∧ VR φ κ (f t ls) x) :
    (g t ls = .bool w → Region.wanted o (yielded all.toArray tmps) = true) ∧ (g t ls = .undef → Region.wanted o (yielded all.toArray tmps) = false) ∧ (∀ b, b ≠ w → g t ls = .bool b → Region.wanted o (yielded all.toArray tmps) = false) := by
  unfold guardW at hg
  split at hg
  case h_2 => cases hg
  rename_i d hd
  obtain ⟨x, h1, h2⟩ := ht d hd g (unW_some hg)
  have hy : yielded all.toArray tmps j = match x with | .bool b => some b | _ => none := by
    unfold yielded
    have : (all.toArray[j]?).bind (·.dst) = some d := by rw [List.getElem?_toArray]; exact hd
    rw [this]
    simp only [Option.bind_some, h1]
    cases x <;> rfl
  unfold Region.wanted
  rw [ho]
  simp only [hy]
  refine ⟨fun e => ?_, fun e => ?_, fun b hb e => ?_⟩ <;> rw [e] at h2 <;> cases h2
  · simp
  · rfl
  · simp [hb]
/-- What a region comes to. -/
def RegionOK (P : Program) (B : Fz) (φ : Emb) (σ : Hp) (w : World) (C : Cx) (t' : Regs) (σ' : Hp) (a a' : Act) (w' : World) : Prop :=
  (∃ φ', Rel P B φ' σ' w'.heap ∧ Ext B φ σ w.heap φ' σ' w'.heap ∧ ER φ' (csz w'.heap) C t' a'.tmps) ∧ a'.defers = a.defers ∧ Same w w'
theorem put_eta (a : Act) (dst : Option Tmp) (r : Value) : (a.put dst r).defers = a.defers := by cases dst <;> rfl
theorem opsW_s (H : LvOK P ih) (all : List Oper) : ∀ (r : List Oper) (i : Nat) (C : Cx) (t : Regs) (ls : Ls) (σ : Hp) (k : KO), all.drop i = r → (opsW P all C r).run ih t ls σ k = true → ∃ t' σ', k t' σ' = true ∧
    ∀ {B : Fz} {φ : Emb} {a : Act} {w : World} {ro : Option Nat} {Q : Exit → Act → World → Prop}, Rel P B φ σ w.heap → B.le w.heap.size → EnvR φ (csz w.heap) C t ls a.tmps →
      (∀ a' w', RegionOK P B φ σ w C t' σ' a a' w' → Q .normal a' w') → wpOpsIn (FW ro) 0 P all.toArray Q (List.range' i r.length) a w := by
  intro r
  induction r with
  | nil =>
    intro i C t ls σ k hdr hk
    exact ⟨t, σ, hk, fun {B φ a w ro Q} hr hB he hq => hq _ _ ⟨⟨φ, hr, .refl _ _ _ _, he.er⟩, rfl, .refl _⟩⟩
  | cons o r ihr =>
    intro i C t ls σ k hdr hk
    have hoi : all.toArray[i]? = some o := by
      rw [List.getElem?_toArray]
      have : (all.drop i)[0]? = some o := by rw [hdr]; rfl
      simpa using this
    have hdr' : all.drop (i + 1) = r := by
      have : (all.drop i).drop 1 = r := by rw [hdr]; rfl
      simpa [List.drop_drop, Nat.add_comm] using this
    have hrange : List.range' i (o :: r).length = i :: List.range' (i + 1) r.length := by rw [List.length_cons, List.range'_succ]
    -- what comes behind it
    have next : ∀ {C' : Cx} {t' : Regs} {σ' : Hp} (hE : C'.E = C.E) (hn : C'.n = C.n) {B : Fz} {φ φ' : Emb} {a a' : Act} {σ1 : Hp} {w w' : World} {Q : Exit → Act → World → Prop}, Ext B φ σ w.heap φ' σ1 w'.heap → a'.defers = a.defers → Same w w' →
        (∀ a'' w'', RegionOK P B φ σ w C t' σ' a a'' w'' → Q .normal a'' w'') → ∀ a'' w'', RegionOK P B φ' σ1 w' C' t' σ' a' a'' w'' → Q .normal a'' w'' := fun {C' t' σ'} hE hn {B φ φ' a a' σ1 w w' Q} x hd hs hq a'' w'' ⟨⟨φ'', r1, x1, e1⟩, d1, s1⟩ =>
      hq _ _ ⟨⟨φ'', r1, x.trans x1, e1.cx hE.symm hn.symm⟩, d1.trans hd, hs.trans s1⟩
    unfold opsW at hk
    split at hk
    · -- a move that wants no work
      rename_i b hal
      obtain ⟨t', σ', h1, h2⟩ := ihr (i + 1) _ t ls σ k hdr' hk
      refine ⟨t', σ', h1, fun {B φ a w ro Q} hr hB he hq => ?_⟩
      obtain ⟨u, b⟩ := b
      obtain ⟨X, e1, e2, e3, e4⟩ := he.alias hal
      rw [hrange]
      simp only [wpOpsIn, hoi]
      have hw : Region.wanted o (yielded all.toArray a.tmps) = true := by unfold Region.wanted; rw [e3]
      rw [if_pos hw]
      refine ⟨fun _ _ => trivial, ?_⟩
      rw [Oper.semAt_eq _ _ _ (fun c hc => by rw [e2] at hc; cases hc)]
      have hx : (execOp a.eval o).run P w = .ok (.value (a.eval X)) w := by simp only [execOp, e2]; rfl
      rw [hx, Oper.uponIn_value, e1]
      exact h2 hr hB (e4 a.defers) (next (C' := { C with binds := (u, b) :: C.binds }) rfl rfl (.refl _ _ _ _) (put_eta _ _ _) (.refl _) hq)
    · rename_i hal
      split at hk
      · rename_i d C' hdst hgd
        rw [consW_run] at hk
        obtain ⟨v, σ1, h1, hdf, h2⟩ := OpW.run_s H hk
        rw [putK_eq hdst] at h1
        obtain ⟨hE, hn⟩ := dstW_cx hdst
        obtain ⟨t', σ', h3, h4⟩ := ihr (i + 1) C' _ _ σ1 k hdr' h1
        refine ⟨t', σ', h3, fun {B φ a w ro Q} hr hB he hq => ?_⟩
        rw [hrange]
        simp only [wpOpsIn, hoi]
        have hw : Region.wanted o (yielded all.toArray a.tmps) = true := by unfold Region.wanted; rw [hgd]
        rw [if_pos hw]
        refine NextOK.wp hdf (h2 (fun _ => rfl) (fun _ => rfl) hr hB (he.evo _)) fun x w' hdid => ?_
        obtain ⟨φ', r1, x1, v1, s1⟩ := hdid
        exact h4 r1 (Fz.le_trans hB x1.size) ((he.mono x1.le x1.csz).put hdst v1 (ds := a.defers)) (next hE hn x1 (put_eta _ _ _) ⟨s1.1, s1.2.1, s1.2.2⟩ hq)
      · rename_i d C' j w0 hdst hgd
        split at hk
        case h_2 => cases hk
        rename_i g hg
        have hk' : guardK g w0 t ls (putK d .undef t ls fun t ls => (opsW P all C' r).run ih t ls σ k) ((opW P C o.op).run ih t ls σ fun v σ => putK d v t ls fun t ls => (opsW P all C' r).run ih t ls σ k) = true := hk
        obtain ⟨hE, hn⟩ := dstW_cx hdst
        have skip : (g t ls = .undef ∨ ∃ b, b ≠ w0 ∧ g t ls = .bool b) → (putK d .undef t ls fun t ls => (opsW P all C' r).run ih t ls σ k) = true → ∃ t' σ', k t' σ' = true ∧
            ∀ {B : Fz} {φ : Emb} {a : Act} {w : World} {ro : Option Nat} {Q : Exit → Act → World → Prop}, Rel P B φ σ w.heap → B.le w.heap.size → EnvR φ (csz w.heap) C t ls a.tmps →
              (∀ a' w', RegionOK P B φ σ w C t' σ' a a' w' → Q .normal a' w') → wpOpsIn (FW ro) 0 P all.toArray Q (List.range' i (o :: r).length) a w := fun hgv hk2 => by
          rw [putK_eq hdst] at hk2
          obtain ⟨t', σ', h3, h4⟩ := ihr (i + 1) C' _ _ σ k hdr' hk2
          refine ⟨t', σ', h3, fun {B φ a w ro Q} hr hB he hq => ?_⟩
          rw [hrange]
          simp only [wpOpsIn, hoi]
          have hw : Region.wanted o (yielded all.toArray a.tmps) = false := by
            obtain ⟨_, q2, q3⟩ := wanted_r (C := C) (t := t) (ls := ls) (φ := φ) (κ := csz w.heap) hgd hg fun u _ f hf => he.tmp hf
            rcases hgv with e | ⟨b, hb, e⟩
            · exact q2 e
            · exact q3 b hb e
          rw [hw, if_neg (by simp)]
          exact ⟨fun _ _ => trivial, h4 hr hB (he.put hdst .undef (ds := a.defers)) (next hE hn (.refl _ _ _ _) (put_eta _ _ _) (.refl _) hq)⟩
        rcases guardK_true hk' with ⟨e1, hk2⟩ | ⟨b, e1, hb, hk2⟩ | ⟨e1, hk2⟩
        · exact skip (.inl e1) hk2
        · exact skip (.inr ⟨b, hb, e1⟩) hk2
        · obtain ⟨v, σ1, h1, hdf, h2⟩ := OpW.run_s H hk2
          rw [putK_eq hdst] at h1
          obtain ⟨t', σ', h3, h4⟩ := ihr (i + 1) C' _ _ σ1 k hdr' h1
          refine ⟨t', σ', h3, fun {B φ a w ro Q} hr hB he hq => ?_⟩
          rw [hrange]
          simp only [wpOpsIn, hoi]
          have hw : Region.wanted o (yielded all.toArray a.tmps) = true := (wanted_r (C := C) (t := t) (ls := ls) (φ := φ) (κ := csz w.heap) hgd hg fun u _ f hf => he.tmp hf).1 e1
          rw [if_pos hw]
          refine NextOK.wp hdf (h2 (fun _ => rfl) (fun _ => rfl) hr hB (he.evo _)) fun x w' hdid => ?_
          obtain ⟨φ', r1, x1, v1, s1⟩ := hdid
          exact h4 r1 (Fz.le_trans hB x1.size) ((he.mono x1.le x1.csz).put hdst v1 (ds := a.defers)) (next hE hn x1 (put_eta _ _ _) ⟨s1.1, s1.2.1, s1.2.2⟩ hq)
      · cases hk
end
end Go.Am
