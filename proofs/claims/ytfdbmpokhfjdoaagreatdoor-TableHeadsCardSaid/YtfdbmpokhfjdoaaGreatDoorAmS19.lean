import Derived.Test.YtfdbmpokhfjdoaaGreatDoorAmS18
import Derived.RangeFuncRecord
set_option linter.unusedVariables false
set_option linter.unusedSimpArgs false
/-! Soundness, 19: registers; what code and calls come to; rounds; operations that write. -/
namespace Go.Am
open Go
/-! ### Registers -/
theorem D8.of_toNat {n : Nat} (h : n < 8) : (D8.of n).toNat = n := by
  match n, h with
  | 0, _ => rfl
  | 1, _ => rfl
  | 2, _ => rfl
  | 3, _ => rfl
  | 4, _ => rfl
  | 5, _ => rfl
  | 6, _ => rfl
  | 7, _ => rfl
theorem selW_of {α : Type} (d : D8) : (SelW.of d : SelW α) = .mk (fun t => t.at d) (fun f t k => R8.turn d f t k) := by cases d <;> rfl
noncomputable def Regs.set (r : Regs) (t : Nat) (v : AV) : Regs :=
  R8.set r (D8.of (t / 64)) (R8.set (r.at (D8.of (t / 64))) (D8.of (t / 8 % 8)) (R8.set ((r.at (D8.of (t / 64))).at (D8.of (t / 8 % 8))) (D8.of (t % 8)) v))
theorem regW_eq (t : Nat) : regW t = .mk (fun r => Regs.get r t) (fun r v k => k (Regs.set r t v)) := by
  unfold regW
  rw [selW_of, selW_of, selW_of]
  show RegW.mk _ _ = _
  congr 1
  funext r v k
  simp only [R8.turn_eq]
  rfl
theorem RegW.setK_eq (i : Nat) (t : Regs) (v : AV) (k : Regs → Bool) : (regW i).setK t v k = k (Regs.set t i v) := by
  rw [regW_eq]; rfl
theorem Regs.get_set (r : Regs) (i j : Nat) (v : AV) (hi : i < 512) (hj : j < 512) : Regs.get (Regs.set r i v) j = if j = i then v else Regs.get r j := by
  unfold Regs.get Regs.set
  by_cases hij : j = i
  · subst hij; simp [R8.at_set]
  · rw [if_neg hij, R8.at_set]
    by_cases h1 : D8.of (j / 64) = D8.of (i / 64)
    · rw [if_pos h1, R8.at_set]
      by_cases h2 : D8.of (j / 8 % 8) = D8.of (i / 8 % 8)
      · rw [if_pos h2, R8.at_set]
        by_cases h3 : D8.of (j % 8) = D8.of (i % 8)
        · exfalso
          have e1 := congrArg D8.toNat h1
          have e2 := congrArg D8.toNat h2
          have e3 := congrArg D8.toNat h3
          rw [D8.of_toNat (by omega), D8.of_toNat (by omega)] at e1 e2 e3
          omega
        · rw [if_neg h3, h1, h2]
      · rw [if_neg h2, h1]
    · rw [if_neg h1]
theorem Regs.get_all (i : Nat) : Regs.get (.all (.all (.all .undef))) i = .undef := by
  have h : ∀ {α : Type} (x : α) (d : D8), (R8.all x).at d = x := fun x d => by cases d <;> rfl
  simp [Regs.get, h]
theorem Cx.glob_lt {C : Cx} {i : Nat} (h : C.glob i = true) : i < 512 ∧ i < C.n := by
  simp only [Cx.glob, Bool.and_eq_true, decide_eq_true_eq] at h
  exact ⟨h.1.2, h.2⟩
theorem ER.put {φ : Emb} {κ : Nat → Nat} {C : Cx} {t : Regs} {tmps : Array Value} (h : ER φ κ C t tmps) {i : Nat} (hi : C.glob i = true) {v : AV} {x : Value} (hv : VR φ κ v x) : ER φ κ C (Regs.set t i v) (tmps.setIfInBounds i x) := by
  refine ⟨by simpa using h.size, fun j hj => ?_⟩
  rw [Regs.get_set _ _ _ _ (Cx.glob_lt hi).1 (Cx.glob_lt hj).1]
  by_cases hij : j = i
  · subst hij
    have := (Cx.glob_lt hi).2
    have := h.size
    exact ⟨x, by rw [Array.getElem?_setIfInBounds, if_pos rfl, if_pos (by omega)], by simpa using hv⟩
  · rw [if_neg hij]
    obtain ⟨y, h1, h2⟩ := h.get j hj
    exact ⟨y, by rw [Array.getElem?_setIfInBounds, if_neg (Ne.symm hij)]; exact h1, h2⟩
theorem setParams_true {ps : List Nat} : ∀ {args : AV} {t : Regs} {k : Regs → Bool}, setParams ps args t k = true → ∃ t', k t' = true ∧
    ∀ {φ : Emb} {κ : Nat → Nat} {C : Cx} {tmps : Array Value} {xs : List Value}, ps.all C.glob = true → ER φ κ C t tmps → LR φ κ args xs →
      xs.length = ps.length ∧ ER φ κ C t' ((ps.zip xs).foldl (fun tmps (x : Nat × Value) => tmps.setIfInBounds x.1 x.2) tmps) := by
  induction ps with
  | nil =>
    intro args t k h
    rcases AV.asCons_true h with ⟨rfl, hk⟩ | ⟨a, l, _, hk⟩
    · refine ⟨t, hk, fun {φ κ C tmps xs} _ he hl => ?_⟩
      have := hl.nil_inv
      subst this
      exact ⟨rfl, he⟩
    · cases hk
  | cons p ps ih =>
    intro args t k h
    rcases AV.asCons_true h with ⟨rfl, hk⟩ | ⟨a, l, rfl, hk⟩
    · cases hk
    · have hk' : (regW p).setK t a (fun t => setParams ps l t k) = true := hk
      rw [RegW.setK_eq] at hk'
      obtain ⟨t', h1, h2⟩ := ih hk'
      refine ⟨t', h1, fun {φ κ C tmps xs} hg he hl => ?_⟩
      obtain ⟨y, ys, rfl, hy, hys⟩ := hl.cons_inv
      simp only [List.all_cons, Bool.and_eq_true] at hg
      obtain ⟨e1, e2⟩ := h2 hg.2 (he.put hg.1 hy) hys
      exact ⟨by simp [e1], e2⟩
/-! ### What code comes to -/
/-- The widest fence, in a round or not. -/
def FW (ro : Option Nat) : Fence := { Fence.wide with round := ro }
def MarksR (φ : Emb) : List Ad → List Deferred → Prop
  | [], [] => True
  | β :: d, x :: ds => (∃ r, φ β = some (r, 0) ∧ x = { target := .collected r, args := #[] }) ∧ MarksR φ d ds
  | _, _ => False
theorem MarksR.mono {φ φ' : Emb} (h : φ.le φ') : ∀ {d : List Ad} {ds : List Deferred}, MarksR φ d ds → MarksR φ' d ds
  | [], [], _ => trivial
  | _ :: _, _ :: _, ⟨⟨r, h1, h2⟩, h3⟩ => ⟨⟨r, h _ _ h1, h2⟩, h3.mono h⟩
  | [], _ :: _, h => h.elim
  | _ :: _, [], h => h.elim
/-- The marks among the deferred calls; in a round nothing is said of them. -/
def DR (φ : Emb) (rd : Option Ad) (d : List Ad) (ds : List Deferred) : Prop := rd = none → MarksR φ d ds
theorem DR.mono {φ φ' : Emb} (h : φ.le φ') {rd : Option Ad} {d : List Ad} {ds : List Deferred} (hd : DR φ rd d ds) : DR φ' rd d ds := fun hr => (hd hr).mono h
/-- Which round it is. -/
def RdR (φ : Emb) : Option Ad → Option Nat → Prop
  | none, none => True
  | some β, some l => φ β = some (l, 0)
  | _, _ => False
theorem RdR.mono {φ φ' : Emb} (h : φ.le φ') : ∀ {rd : Option Ad} {ro : Option Nat}, RdR φ rd ro → RdR φ' rd ro
  | none, none, _ => trivial
  | some _, some _, hr => h _ _ hr
  | none, some _, hr => hr.elim
  | some _, none, hr => hr.elim
def exitOf : AExit → Exit
  | .normal => .normal
  | .exit id => .exit id
  | .ret => .ret
structure Same (w w' : World) : Prop where
  os : w'.os = w.os
  tape : w'.tape = w.tape
  output : w'.output = w.output
theorem Same.refl (w : World) : Same w w := ⟨rfl, rfl, rfl⟩
theorem Same.trans {a b c : World} (h : Same a b) (h' : Same b c) : Same a c := ⟨h'.os.trans h.os, h'.tape.trans h.tape, h'.output.trans h.output⟩
structure Ended (P : Program) (B : Fz) (φ : Emb) (σ : Hp) (w : World) (C : Cx) (rd : Option Ad) (e : AExit) (t' : Regs) (d' : List Ad) (σ' : Hp) (e' : Exit) (a' : Act) (w' : World) : Prop where
  e : e' = exitOf e
  ex : ∃ φ', Rel P B φ' σ' w'.heap ∧ Ext B φ σ w.heap φ' σ' w'.heap ∧ ER φ' (csz w'.heap) C t' a'.tmps ∧ DR φ' rd d' a'.defers
  same : Same w w'
theorem Ended.trans {P : Program} {B : Fz} {φ φ' : Emb} {σ σ' σ'' : Hp} {w w' : World} {C : Cx} {rd : Option Ad} {e : AExit} {t' : Regs} {d' : List Ad} {e' : Exit} {a' : Act} {w'' : World} (x : Ext B φ σ w.heap φ' σ' w'.heap) (s : Same w w')
    (h : Ended P B φ' σ' w' C rd e t' d' σ'' e' a' w'') : Ended P B φ σ w C rd e t' d' σ'' e' a' w'' :=
  ⟨h.e, let ⟨φ'', h1, h2, h3, h4⟩ := h.ex; ⟨φ'', h1, x.trans h2, h3, h4⟩, s.trans h.same⟩
def CodeOK (P : Program) (c : Code) (fn : Nat) (rd : Option Ad) (t : Regs) (d : List Ad) (σ : Hp) (e : AExit) (t' : Regs) (d' : List Ad) (σ' : Hp) : Prop :=
  ∀ {B : Fz} {φ : Emb} {a : Act} {w : World} {ro : Option Nat}, Rel P B φ σ w.heap → B.le w.heap.size → ER φ (csz w.heap) (cxOf P fn) t a.tmps → DR φ rd d a.defers → RdR φ rd ro →
    c.wpIn (FW ro) 0 P (Ended P B φ σ w (cxOf P fn) rd e t' d' σ') a w
/-- A loop, from within: its body is to be walked. -/
def LoopIn (F : Fence) (n : Nat) (P : Program) (c : Code) (Q : Exit → Act → World → Prop) (a : Act) (w : World) : Prop :=
  ∀ (b : Frame) (k : List Item) (cs : List Frame), b.roundOf = F.round → F.fn b.fn → F.room (cs.length + 1 + n) →
    ∃ e a' w', Q e a' w' ∧ ArrivesIn (Machine.fenced P F) P (lone (b.atR a (.code c :: .inLoop c :: k)) cs w) b k cs e a' w'
theorem LoopIn.wpIn {F : Fence} {n : Nat} {P : Program} {c : Code} {Q : Exit → Act → World → Prop} {a : Act} {w : World} (h : LoopIn F n P c Q a w) : (Code.loop c).wpIn F n P Q a w := fun b k cs hro hb hr =>
  let ⟨e, a', w', hq, harr⟩ := h b k cs hro hb hr
  ⟨e, a', w', hq, .of_steps (.one (fenced_calm hb hr rfl) stepR_loop) harr⟩
theorem LoopIn.mono {F : Fence} {n : Nat} {P : Program} {c : Code} {Q Q' : Exit → Act → World → Prop} {a : Act} {w : World} (h : LoopIn F n P c Q a w) (hq : ∀ e a w, Q e a w → Q' e a w) : LoopIn F n P c Q' a w :=
  fun b k cs hro hb hr => let ⟨e, a', w', q, r⟩ := h b k cs hro hb hr; ⟨e, a', w', hq _ _ _ q, r⟩
theorem LoopIn.round {F : Fence} {n : Nat} {P : Program} {c : Code} {Q : Exit → Act → World → Prop} {a : Act} {w : World} (h : c.wpIn F n P (Exit.then (LoopIn F n P c Q) Q) a w) : LoopIn F n P c Q a w := fun b k cs hro hb hr => by
  obtain ⟨e, a₁, w₁, hq, harr⟩ := h b (.inLoop c :: k) cs hro hb hr
  cases e with
  | normal =>
    obtain ⟨e₂, a₂, w₂, hq₂, harr₂⟩ := hq b k cs hro hb hr
    exact ⟨e₂, a₂, w₂, hq₂, .of_steps (StepsIn.trans harr (.one (fenced_calm hb hr rfl) stepR_inLoop)) harr₂⟩
  | exit id => exact ⟨_, a₁, w₁, hq, .pass (x := .inLoop c) rfl (fun _ _ => .inl (by simp)) harr⟩
  | goto l => exact ⟨_, a₁, w₁, hq, .pass (x := .inLoop c) rfl (fun _ _ => .inl (by simp)) harr⟩
  | ret => exact ⟨_, a₁, w₁, hq, .pass (x := .inLoop c) rfl (fun _ _ => .inl (by simp)) harr⟩
  | panic ch => exact ⟨_, a₁, w₁, hq, .pass (x := .inLoop c) rfl (fun _ _ => .inl (by simp)) harr⟩
  | outgrown => exact ⟨_, a₁, w₁, hq, .pass (x := .inLoop c) rfl (fun _ _ => .inl (by simp)) harr⟩
def LoopOK (P : Program) (c : Code) (fn : Nat) (rd : Option Ad) (t : Regs) (d : List Ad) (σ : Hp) (e : AExit) (t' : Regs) (d' : List Ad) (σ' : Hp) : Prop :=
  ∀ {B : Fz} {φ : Emb} {a : Act} {w : World} {ro : Option Nat}, Rel P B φ σ w.heap → B.le w.heap.size → ER φ (csz w.heap) (cxOf P fn) t a.tmps → DR φ rd d a.defers → RdR φ rd ro →
    LoopIn (FW ro) 0 P c (Ended P B φ σ w (cxOf P fn) rd e t' d' σ') a w
def CallOK (P : Program) (f : Nat) (σ : Hp) (args : AV) (v : AV) (σ' : Hp) : Prop :=
  (∀ xs w, (callFunc f xs).run P w = .ok (.enter f xs) w) ∧
  ∀ {B : Fz} {φ : Emb} {w : World} {xs : Array Value}, Rel P B φ σ w.heap → B.le w.heap.size → LR φ (csz w.heap) args xs.toList →
    CallsIn Fence.wide 0 P f xs w fun e w' => ∃ r, e = .returned r ∧ Did P B φ σ w v σ' r w'
structure LvOK (P : Program) (ih : Lv) : Prop where
  call : ∀ {f : Nat} {args : AV} {σ : Hp} {k : KV}, ih.call f args σ k = true → ∃ v σ', k v σ' = true ∧ CallOK P f σ args v σ'
  code : ∀ {c : Code} {fn : Nat} {rd : Option Ad} {t : Regs} {d : List Ad} {σ : Hp} {k : AExit → Regs → List Ad → Hp → Bool}, ih.code c fn rd t d σ k = true → ∃ e t' d' σ', k e t' d' σ' = true ∧ CodeOK P c fn rd t d σ e t' d' σ'
  loop : ∀ {c : Code} {fn : Nat} {rd : Option Ad} {t : Regs} {d : List Ad} {σ : Hp} {k : AExit → Regs → List Ad → Hp → Bool}, ih.code (.loop c) fn rd t d σ k = true → ∃ e t' d' σ', k e t' d' σ' = true ∧ LoopOK P c fn rd t d σ e t' d' σ'
theorem Did.same {P : Program} {B : Fz} {φ : Emb} {σ σ' : Hp} {w w' : World} {v : AV} {r : Value} (h : Did P B φ σ w v σ' r w') : Same w w' := let ⟨_, _, _, _, h1, h2, h3⟩ := h; ⟨h1, h2, h3⟩
/-! ### Loops over functions -/
section
variable {P : Program} {B : Fz} {φ : Emb} {σ : Hp} {h : Array Obj}
theorem csz_loop {h : Array Obj} {b : Nat} {o o' : Obj} (hb : h[b]? = some o) (ho : ∀ cs e fz, o ≠ .cells cs e fz) (b' : Nat) : csz h b' ≤ csz (hset h b o') b' := by
  by_cases hbb : b' = b
  · subst hbb
    have : csz h b' = 0 := by unfold csz; rw [hb]; cases o <;> first | rfl | exact absurd rfl (ho _ _ _)
    omega
  · simp only [csz, hset_ne hbb]; exact Nat.le_refl _
theorem Rel.setLoop (r : Rel P B φ σ h) {β : Ad} {l : Nat} {st : Nat} {j : Jump} {fn : Nat} {t : Regs} {ps : List Nat} {as bd : Code} {df : Ad} (hβ : φ β = some (l, 0)) (hk : σ.get β = some (.loop st j fn t ps as bd df)) :
    ∃ rc : Loop, h[l]? = some (.loop rc) ∧ rc.state = stOf st ∧ rc.pending = j.code ∧ rc.params = ps.toArray ∧ rc.assign = as ∧ rc.body = bd ∧ φ df = some (rc.defers, 0) ∧ ER φ (csz h) (cxOf P fn) t rc.tmps ∧ ps.all (cxOf P fn).glob = true ∧
      ∀ st' j', Rel P B φ (σ.set β (.loop st' j' fn t ps as bd df)) (hset h l (.loop { rc with state := stOf st', pending := j'.code })) ∧
        Ext B φ σ h φ (σ.set β (.loop st' j' fn t ps as bd df)) (hset h l (.loop { rc with state := stOf st', pending := j'.code })) := by
  obtain ⟨k, hk', hb⟩ := r.blk _ _ _ hβ
  rw [hk] at hk'; cases hk'
  cases hb with
  | loop _ _ _ _ _ _ _ _ _ dd tmps fn' hw ht hd hps =>
    refine ⟨_, hw, rfl, rfl, rfl, rfl, rfl, hd, ht, hps, fun st' j' => ?_⟩
    have hcs := csz_loop (o' := .loop { state := stOf st', pending := j'.code, fn := fn', tmps := tmps, params := ps.toArray, assign := as, body := bd, defers := dd }) hw (fun _ _ _ h => by cases h)
    refine r.change hβ hk (fun h => h) (fun h => h) false (k' := .loop st' j' fn t ps as bd df) (fun γ => ?_) rfl rfl (fun _ => rfl) (by simp) hcs (fun b' hb' => hset_ne hb') ?_ ?_
    · rw [Hp.get_set]; simp
    · exact .loop _ _ _ _ _ _ _ _ _ dd tmps fn' (hset_self hw) (ht.mono φ.le_refl hcs) hd hps
    · intro _ γ d' g hm; cases hm
end
theorem AExit.caseK_true {nrm : Bool} {ex : Nat → Bool} {rt : Bool} {e : AExit} (h : AExit.caseK nrm ex rt e = true) : (e = .normal ∧ nrm = true) ∨ (∃ id, e = .exit id ∧ ex id = true) ∨ (e = .ret ∧ rt = true) := by
  cases e
  · exact .inl ⟨rfl, h⟩
  · exact .inr (.inl ⟨_, rfl, h⟩)
  · exact .inr (.inr ⟨rfl, h⟩)
section
variable {P : Program} {C : Cx} {t : Regs} {ls : Ls} {σ : Hp} {k : KV} {ih : Lv}
theorem foldl_zip (ps : List Nat) (xs : Array Value) (tmps : Array Value) : (ps.toArray.zip xs).foldl (fun tmps (x : Nat × Value) => tmps.setIfInBounds x.1 x.2) tmps = (ps.zip xs.toList).foldl (fun tmps (x : Nat × Value) => tmps.setIfInBounds x.1 x.2) tmps := by
  rw [← Array.foldl_toList]; simp
theorem roundK_s (H : LvOK P ih) {β : Ad} {args : AV} (hk : roundK ih β args σ k = true) : ∃ v σ', k v σ' = true ∧
    ∀ {B : Fz} {φ : Emb} {w : World} {l : Nat} {xs : Array Value}, Rel P B φ σ w.heap → B.le w.heap.size → φ β = some (l, 0) → LR φ (csz w.heap) args xs.toList → NextOK P B φ σ w v σ' ((Instr.yield l xs).run P w) := by
  obtain ⟨b0, hg0, hk_1⟩ := Hp.getK_true hk
  obtain ⟨st, j, fn, tr, ps, as, bd, df, rfl, hk_2⟩ := Blk.loopK_true hk_1
  obtain ⟨hst, hk_3⟩ := sel_yes hk_2
  have hst' : st = 0 := Nat.eq_of_beq_eq_true hst
  subst hst'
  obtain ⟨tp, hk_4, hsp⟩ := setParams_true hk_3
  obtain ⟨e1, t1, d1, σ1, hk_5, c1⟩ := H.code hk_4
  rcases AExit.caseK_true hk_5 with ⟨rfl, hk_6⟩ | ⟨_, _, hk_6⟩ | ⟨_, hk_6⟩
  case inr.inl => cases hk_6
  case inr.inr => cases hk_6
  obtain ⟨b1, hg1, hk_7⟩ := Hp.getK_true hk_6
  obtain ⟨st1, j1, fn1, tr1, ps1, as1, bd1, df1, rfl, hk_8⟩ := Blk.loopK_true hk_7
  obtain ⟨hst1, hk_9⟩ := sel_yes hk_8
  have hst1' : st1 = 0 := Nat.eq_of_beq_eq_true hst1
  subst hst1'
  rw [Hp.setK_eq] at hk_9
  obtain ⟨e2, t2, d2, σ2, hk_10, c2⟩ := H.code hk_9
  obtain ⟨b2, hg2, hk_11⟩ := Hp.getK_true hk_10
  obtain ⟨st2, j2, fn2, tr2, ps2, as2, bd2, df2, rfl, hk_12⟩ := Blk.loopK_true hk_11
  -- the round's end
  have fin : ∀ (st' : Nat) (j' : Jump) (bb : Bool), k (.bool bb) (σ2.set β (.loop st' j' fn2 tr2 ps2 as2 bd2 df2)) = true → bb = (Jump.code j').isNone → stOf st' = (if (Jump.code j').isNone then LoopState.ready else .done) →
      (∀ (R : Ending → World → Prop) (a' : Act) (w : World) (l : Nat), (∃ v w', (Instr.endRound l (Jump.code j')).run P w = .ok v w' ∧ R (.returned v) w') → roundPost P l R (exitOf e2) a' w) →
      ∃ v σ', k v σ' = true ∧ ∀ {B : Fz} {φ : Emb} {w : World} {l : Nat} {xs : Array Value}, Rel P B φ σ w.heap → B.le w.heap.size → φ β = some (l, 0) → LR φ (csz w.heap) args xs.toList → NextOK P B φ σ w v σ' ((Instr.yield l xs).run P w) := fun st' j' bb hk' hbb hso hpost => by
    refine ⟨_, _, hk', fun {B φ w l xs} r hB hβ hl => ?_⟩
    obtain ⟨rc, hw, q1, q2, q3, q4, q5, q6, q7, q8, _⟩ := r.setLoop hβ hg0
    obtain ⟨hlen, hER⟩ := hsp q8 q7 hl
    rw [run_yield hw (by rw [q3]; simpa using hlen)]
    refine ⟨rfl, roundIn_of_wpIn trivial ?_⟩
    rw [q3, q4, q5]
    have hz := foldl_zip ps xs rc.tmps
    refine wpIn_mono (c1 (a := { tmps := _, defers := [] }) (ro := some l) r hB (by rw [← hz] at hER; exact hER) (fun h => by cases h) hβ) ?_
    rintro e a₁ w₁ ⟨rfl, ⟨φ1, r1, x1, er1, _⟩, s1⟩
    have hβ1 : φ1 β = some (l, 0) := x1.le _ _ hβ
    obtain ⟨rc1, hw1, u1, u2, u3, u4, u5, u6, u7, u8, u9⟩ := r1.setLoop hβ1 hg1
    refine ⟨_, run_beginRound hw1 (by rw [u1]; rfl), ?_⟩
    obtain ⟨r2, x2⟩ := u9 1 j1
    have hobj : ({ rc1 with state := stOf 1, pending := j1.code } : Loop) = { rc1 with state := .busy } := by rw [← u2]; rfl
    rw [hobj] at r2 x2
    have hsz : B.le w₁.heap.size := Fz.le_trans hB x1.size
    refine wpIn_mono (c2 (a := a₁) (w := w₁.putObj l (.loop { rc1 with state := .busy })) (ro := some l) r2 (Fz.le_trans hsz x2.size) (er1.mono φ1.le_refl x2.csz) (fun h => by cases h) hβ1) ?_
    rintro e a₂ w₃ ⟨rfl, ⟨φ2, r3, x3, _, _⟩, s2⟩
    have hβ2 := x3.le _ _ hβ1
    obtain ⟨rc2, hw2, v1, v2, v3, v4, v5, v6, v7, v8, v9⟩ := r3.setLoop hβ2 hg2
    obtain ⟨r4, x4⟩ := v9 st' j'
    rw [hso] at r4 x4
    refine hpost _ _ _ _ ⟨_, _, run_endRound _ hw2, _, rfl, φ2, r4, x1.trans (x2.trans (x3.trans x4)), ?_, ?_, ?_, ?_⟩
    · rw [hbb]; exact .bool _
    · exact s2.os.trans s1.os
    · exact s2.tape.trans s1.tape
    · exact s2.output.trans s1.output
  rcases AExit.caseK_true hk_12 with ⟨he, hk_13⟩ | ⟨id, he, hk_13⟩ | ⟨he, hk_13⟩
  · rw [Hp.setK_eq] at hk_13
    exact fin 0 .none true hk_13 rfl rfl (fun R a' w l h => by rw [he]; exact h)
  · rw [Hp.setK_eq] at hk_13
    exact fin 2 (.exit id) false hk_13 rfl rfl (fun R a' w l h => by rw [he]; exact h)
  · rw [Hp.setK_eq] at hk_13
    exact fin 2 .ret false hk_13 rfl rfl (fun R a' w l h => by rw [he]; exact h)
/-! ### Calls -/
theorem appK_true {b : AV} : ∀ {a : AV} {k : AV → Bool}, AV.appK b a k = true → ∃ c, k c = true ∧ ∀ {φ : Emb} {κ : Nat → Nat} {xs ys : List Value}, LR φ κ a xs → LR φ κ b ys → LR φ κ c (xs ++ ys) := by
  intro a
  induction a with
  | nil => intro k h; exact ⟨b, h, fun ha hb => by have := ha.nil_inv; subst this; exact hb⟩
  | cons v l _ ih =>
    intro k h
    obtain ⟨c, hk_1, hc⟩ := ih h
    refine ⟨_, hk_1, fun {φ κ xs ys} ha hb => ?_⟩
    obtain ⟨y, zs, rfl, hv, hl⟩ := ha.cons_inv
    exact (hc hl hb).cons hv
  | _ => intro k h; cases h
theorem callfK_s (H : LvOK P ih) {f args : AV} (hk : callfK ih f args σ k = true) : ∃ v σ', k v σ' = true ∧
    ∀ {B : Fz} {φ : Emb} {w : World} {fv : Value} {xs : Array Value}, Rel P B φ σ w.heap → B.le w.heap.size → VR φ (csz w.heap) f fv → LR φ (csz w.heap) args xs.toList →
      ∃ g first cap, fv = .func (.func g) first cap ∧ (∀ xs w, (callFunc g xs).run P w = .ok (.enter g xs) w) ∧ CallsIn Fence.wide 0 P g (first ++ xs ++ cap) w fun e w' => ∃ r, e = .returned r ∧ Did P B φ σ w v σ' r w' := by
  rcases AV.asFn_true hk with ⟨g, cap, rfl, hk_1⟩ | ⟨β, rfl, hk_1⟩
  case inr => cases hk_1
  rcases AV.asCons_true hk_1 with ⟨_, hk_2⟩ | ⟨fs, cs, rfl, hk_2⟩
  · cases hk_2
  obtain ⟨a1, hk_3, h1⟩ := appK_true hk_2
  obtain ⟨a2, hk_4, h2⟩ := appK_true hk_3
  obtain ⟨v, σ', hk_5, h3, h4⟩ := H.call hk_4
  refine ⟨v, σ', hk_5, fun {B φ w fv xs} r hB hf hl => ?_⟩
  obtain ⟨fs', cs', first, cap, ee, rfl, l1, l2⟩ := hf.func_inv
  cases ee
  refine ⟨g, first, cap, rfl, h3, h4 r hB ?_⟩
  have := h2 l1 (h1 hl l2)
  simpa using this
theorem run_callv {ρ : Operand → Value} {X : Operand} {g : Nat} {first cap : Array Value} (h : ρ X = .func (.func g) first cap) {w : World} {args : Array Operand} {ts : Array TypeId} {dst : Option Tmp} {ty : TypeId} {pos : String} {after : Array Edge} {guard : Option (Nat × Bool)} :
    (execOp ρ { dst := dst, op := .call ⟨.value X, args, ts⟩, type := ty, pos := pos, after := after, guard := guard }).run P w = (callFunc g (first ++ args.map ρ ++ cap)).run P w := by
  simp [execOp, resolve, Deferred.ofValue, h, invoke]
theorem run_cally {ρ : Operand → Value} {X : Operand} {l : Nat} (h : ρ X = .func (.yield l) #[] #[]) {w : World} {args : Array Operand} {ts : Array TypeId} {dst : Option Tmp} {ty : TypeId} {pos : String} {after : Array Edge} {guard : Option (Nat × Bool)} :
    (execOp ρ { dst := dst, op := .call ⟨.value X, args, ts⟩, type := ty, pos := pos, after := after, guard := guard }).run P w = (Instr.yield l (args.map ρ)).run P w := by
  simp [execOp, resolve, Deferred.ofValue, h, invoke]
theorem opW_wr (H : LvOK P ih) {o : Oper} {f : OpF} (h : opW P C o.op = .wr f) (hk : f ih t ls σ k = true) : ∃ v σ', k v σ' = true ∧ OpOK P C t ls σ o v σ' := by
  obtain ⟨dst, op, ty, pos, after, guard⟩ := o
  simp only at h
  cases op
  case store T a x =>
    simp only [opW] at h
    split at h
    · rename_i a' x' n ha hx hT hn
      cases h
      obtain ⟨v, σ', h1, rfl, h3⟩ := wStoreN_s (P := P) hk hn
      exact ⟨_, σ', h1, fun hc hf r hB he => (h3 r (he a (by simp [Op.operands]) _ (unW_some ha)) (he x (by simp [Op.operands]) _ (unW_some hx))).next⟩
    · rename_i a' x' ha hx hT hn
      cases h
      obtain ⟨v, σ', h1, rfl, h3⟩ := wStore1_s (P := P) hk hn
      exact ⟨_, σ', h1, fun hc hf r hB he => (h3 r (he a (by simp [Op.operands]) _ (unW_some ha)) (he x (by simp [Op.operands]) _ (unW_some hx))).next⟩
    · cases h
  case mapUpdate T m key v =>
    simp only [opW] at h
    split at h
    · rename_i m' k' v' K E hm hkk hv hT
      split at h
      · rename_i s hK
        cases h
        obtain ⟨u, σ', h1, rfl, h3⟩ := wMapup_s (P := P) hk hT hK
        exact ⟨_, σ', h1, fun hc hf r hB he => (h3 r (he m (by simp [Op.operands]) _ (unW_some hm)) (he key (by simp [Op.operands]) _ (unW_some hkk)) (he v (by simp [Op.operands]) _ (unW_some hv))).next⟩
      · cases h
    · cases h
  case insert T m key v =>
    simp only [opW] at h
    split at h
    · rename_i m' k' v' K E hm hkk hv hT
      split at h
      · rename_i s hK
        cases h
        obtain ⟨u, σ', h1, rfl, h3⟩ := wMapup_s (P := P) hk hT hK
        exact ⟨_, σ', h1, fun hc hf r hB he => (h3 r (he m (by simp [Op.operands]) _ (unW_some hm)) (he key (by simp [Op.operands]) _ (unW_some hkk)) (he v (by simp [Op.operands]) _ (unW_some hv))).next⟩
      · cases h
    · cases h
  case convert S D x =>
    simp only [opW] at h
    split at h
    · rename_i x' p q hx hS hD
      cases hq : q.signed <;> simp only [hq, if_true, if_false, Bool.false_eq_true] at h <;> cases h
    · cases h
    · split at h <;> cases h
    · split at h <;> cases h
    · rename_i x' E0 E hx hS hD
      split at h
      · rename_i hSD
        split at h
        · rename_i hE
          cases h
          obtain ⟨v, σ', h1, h3⟩ := wMark_s (P := P) hk hSD hS hD hE
          exact ⟨_, σ', h1, fun hc hf r hB he => (h3 r (he x (by simp [Op.operands]) _ (unW_some hx))).next⟩
        · cases h
      · cases h
    · cases h
  case binOp op T x y yt =>
    simp only [opW] at h
    split at h
    case h_2 => cases h
    unfold binW at h
    split at h
    · unfold intW at h
      split at h
      split at h <;> (try split at h) <;> cases h
    · unfold strW at h
      split at h <;> cases h
    · split at h
      · unfold eqW at h; (repeat' split at h) <;> cases h
      · unfold eqW at h; (repeat' split at h) <;> cases h
      · cases h
  case call c =>
    obtain ⟨callee, args, argTypes⟩ := c
    have lrs : ∀ {Xs : OpdF} {φ : Emb} {w : World} {ρ : Operand → Value}, unW (opdsW C args.toList) = some Xs → EVO C φ (csz w.heap) t ls ρ (.call ⟨callee, args, argTypes⟩) → LR φ (csz w.heap) (Xs t ls) (args.map ρ).toList := fun {Xs φ w ρ} hxs he => by
      have := opdsW_r (t := t) (ls := ls) (unW_some hxs) (φ := φ) (κ := csz w.heap) (ρ := ρ) fun Y hY f hf => he Y (by simp [Op.operands, Call.operands]; exact .inr (by simpa using hY)) f hf
      simpa using this
    simp only [opW] at h
    split at h
    · rename_i g
      split at h
      · rename_i xs hxs
        cases h
        obtain ⟨v, σ', h1, h2, h3⟩ := H.call hk
        refine ⟨v, σ', h1, fun {B φ w ρ} hc hf r hB he => ?_⟩
        rw [run_callv (hf g), h2]
        refine ⟨rfl, h3 r hB ?_⟩
        simpa using lrs hxs he
      · cases h
    · rename_i X hne
      split at h
      · rename_i f' xs hX hxs
        cases h
        have hk2 : (f' t ls).asFn (fun f cap => cap.asCons false fun fs cs => AV.appK cs (xs t ls) fun a => AV.appK a fs fun a => ih.call f a σ k) (fun β => roundK ih β (xs t ls) σ k) = true := hk
        have hXm : X ∈ (Op.call ⟨.value X, args, argTypes⟩).operands.toList := by simp [Op.operands, Call.operands]
        rcases AV.asFn_true hk2 with ⟨g, cap, hfv, hk3⟩ | ⟨β, hfv, hk3⟩
        · have hk4 : callfK ih (f' t ls) (xs t ls) σ k = true := by unfold callfK; rw [hfv]; exact hk3
          obtain ⟨v, σ', h1, h2⟩ := callfK_s H hk4
          refine ⟨v, σ', h1, fun {B φ w ρ} hc hf r hB he => ?_⟩
          obtain ⟨g, first, cap, e1, e2, e3⟩ := h2 r hB (he X hXm _ (unW_some hX)) (lrs hxs he)
          rw [run_callv e1, e2]
          exact ⟨rfl, e3⟩
        · obtain ⟨v, σ', h1, h2⟩ := roundK_s H hk3
          refine ⟨v, σ', h1, fun {B φ w ρ} hc hf r hB he => ?_⟩
          have hv := he X hXm _ (unW_some hX)
          rw [hfv] at hv
          generalize hρ : ρ X = fv at hv
          cases hv with
          | yield _ b hb =>
            rw [run_cally hρ]
            exact h2 r hB hb (lrs hxs he)
      · cases h
    · rename_i b
      have nx : ∀ {B : Fz} {φ : Emb} {w : World} {ρ : Operand → Value} {v : AV} {σ' : Hp} {s : Sem Value}, WrV P B φ σ w v σ' s → (∀ cs, builtin b argTypes ty cs (args.map ρ) = (do Pure.pure (Next.value (← s)))) →
          NextOK P B φ σ w v σ' ((execOp ρ { dst := dst, op := .call ⟨.builtin b, args, argTypes⟩, type := ty, pos := pos, after := after, guard := guard }).run P w) := fun {B φ w ρ v σ' s} hr hb => by
        have : (execOp ρ { dst := dst, op := .call ⟨.builtin b, args, argTypes⟩, type := ty, pos := pos, after := after, guard := guard } : Sem Next).run P w = (do Pure.pure (Next.value (← s)) : Sem Next).run P w := by simp [execOp, resolve, invoke, hb]
        rw [this]
        exact hr.next
      have el : ∀ {X : Operand} {l : List Operand}, args.toList = l → X ∈ l → X ∈ (Op.call ⟨.builtin b, args, argTypes⟩).operands.toList := fun hl hX => by
        simp [Op.operands, Call.operands]
        rw [← Array.mem_toList_iff, hl]; exact hX
      have am : ∀ {X Y : Operand} {ρ : Operand → Value}, args.toList = [X, Y] → args.map ρ = #[ρ X, ρ Y] := fun hl => by
        apply Array.toList_inj.1; simp [hl]
      unfold builtinW at h
      split at h
      · (repeat' split at h) <;> cases h
      · (repeat' split at h) <;> cases h
      · rename_i T U s x hts hxs
        have ht : argTypes = #[T, U] := Array.toList_inj.1 (by simpa using hts)
        subst ht
        split at h
        · rename_i s' x' E q hs hx hT hU
          split at h
          · rename_i n lim z hE hlim hz
            cases h
            obtain ⟨v, σ', h1, h2⟩ := wAppZ_s (P := P) (ty := ty) (Nat.succ_pos _) hk hT hU hE hlim hz
            exact ⟨v, σ', h1, fun hc hf r hB he => nx (by simp only [am hxs]; exact h2 r hB (he s (el hxs (by simp)) _ (unW_some hs)) (he x (el hxs (by simp)) _ (unW_some hx))) (fun _ => rfl)⟩
          · cases h
        · rename_i s' x' E d hne hs hx hT hU

          split at h
          · rename_i n lim hE hlim
            cases h
            obtain ⟨v, σ', h1, h2⟩ := wAppend_s (P := P) (ty := ty) (Nat.succ_pos _) hk hT hU (fun q hq => by subst hq; exact hne q rfl) hE hlim
            exact ⟨v, σ', h1, fun hc hf r hB he => nx (by simp only [am hxs]; exact h2 r hB (he s (el hxs (by simp)) _ (unW_some hs)) (he x (el hxs (by simp)) _ (unW_some hx))) (fun _ => rfl)⟩
          · cases h
        · cases h
      · rename_i T rest d s hts hxs
        split at h
        · rename_i d' s' E hd hs hT
          split at h
          · rename_i n hE
            cases h
            obtain ⟨v, σ', h1, h2⟩ := wCopy_s (P := P) (U := T) (ty := ty) hk hT hE (ts := argTypes) (by rw [← Array.getElem?_toList, hts]; rfl)
            exact ⟨v, σ', h1, fun hc hf r hB he => nx (by simp only [am hxs]; exact h2 r (he d (el hxs (by simp)) _ (unW_some hd)) (he s (el hxs (by simp)) _ (unW_some hs))) (fun _ => rfl)⟩
          · cases h
        · cases h
      · rename_i T rest m key hts hxs
        split at h
        · rename_i m' k' K E hm hkk hT
          split at h
          · rename_i s hK
            cases h
            obtain ⟨u, σ', h1, rfl, h2⟩ := wDelete_s (P := P) (ty := ty) hk hT hK (ts := argTypes) (by rw [← Array.getElem?_toList, hts]; rfl)
            exact ⟨_, σ', h1, fun hc hf r hB he => nx (by simp only [am hxs]; exact h2 r (he m (el hxs (by simp)) _ (unW_some hm)) (he key (el hxs (by simp)) _ (unW_some hkk))) (fun _ => rfl)⟩
          · cases h
        · cases h
      · rename_i T x hts hxs
        have hts' : argTypes[0]? = some T := by rw [← Array.getElem?_toList, hts]; rfl
        have am1 : ∀ {ρ : Operand → Value}, args.map ρ = #[ρ x] := fun {ρ} => by
          apply Array.toList_inj.1; simp [hxs]
        split at h
        · rename_i a K E hx hT
          cases h
          obtain ⟨u, σ', h1, rfl, h2⟩ := wClearM_s (P := P) (ty := ty) hk hT hts'
          exact ⟨_, σ', h1, fun hc hf r hB he => nx (by rw [am1]; exact h2 r (he x (el hxs (by simp)) _ (unW_some hx))) (fun _ => rfl)⟩
        · rename_i a E hx hT
          split at h
          · rename_i n z hE hz
            cases h
            obtain ⟨u, σ', h1, rfl, h2⟩ := wClear_s (P := P) (ty := ty) (Nat.succ_pos _) hk hT hE hz hts'
            exact ⟨_, σ', h1, fun hc hf r hB he => nx (by rw [am1]; exact h2 r (he x (el hxs (by simp)) _ (unW_some hx))) (fun _ => rfl)⟩
          · cases h
        · cases h
      · (repeat' split at h) <;> cases h
      · cases h
    · cases h
  all_goals (simp only [opW] at h; (repeat' split at h) <;> cases h)
theorem NextOK.wp {B : Fz} {φ : Emb} {w : World} {v : AV} {σ' : Hp} {o : Oper} {a : Act} {next : Act → World → Prop} {Q : Exit → Act → World → Prop} {ro : Option Nat} (hd : ∀ c, o.op ≠ .defer c) (h : NextOK P B φ σ w v σ' ((execOp a.eval o).run P w))
    (hn : ∀ r w', Did P B φ σ w v σ' r w' → next (a.put o.dst r) w') : o.wpIn (FW ro) 0 P a w next Q := by
  refine ⟨fun _ _ => trivial, ?_⟩
  rw [Oper.semAt_eq _ _ _ hd]
  generalize (execOp a.eval o).run P w = res at h ⊢
  cases res with
  | halt x w' => exact h.elim
  | ok x w' =>
    cases x <;> simp only [NextOK] at h
    case value r => exact hn _ _ h
    case skip => exact hn _ _ h
    case enter f xs =>
      obtain ⟨rfl, h⟩ := h
      exact ⟨fun hh => (by cases hh), CallsIn.mono h (by rintro e w'' ⟨r, rfl, hr⟩; exact hn _ _ hr)⟩
    case round l f tm as bd =>
      obtain ⟨rfl, h⟩ := h
      exact ⟨fun hh => (by cases hh), RoundIn.mono h (by rintro e w'' ⟨r, rfl, hr⟩; exact hn _ _ hr)⟩
end
end Go.Am
