import Derived.Test.YtfdbmpokhfjdoaaGreatDoorAmS16
set_option linter.unusedVariables false
set_option linter.unusedSimpArgs false
/-! Soundness, 17: all operations. -/
namespace Go.Am
open Go
/-- What an operation names stands for what the model has. -/
def EVO (C : Cx) (φ : Emb) (κ : Nat → Nat) (t : Regs) (ls : Ls) (ρ : Operand → Value) (o : Op) : Prop := ∀ X ∈ o.operands.toList, ∀ f, opdW C X = some (.mk f) → VR φ κ (f t ls) (ρ X)
theorem unW_some {x : Option OpdW} {f : OpdF} (h : unW x = some f) : x = some (.mk f) := by
  unfold unW at h
  split at h
  · cases h; rfl
  · cases h
section
variable {P : Program} {C : Cx} {t : Regs} {ls : Ls} {σ : Hp} {k : AV → Bool}
/-- A read's answer, for all worlds. -/
def RdOK (P : Program) (C : Cx) (t : Regs) (ls : Ls) (σ : Hp) (o : Oper) (dep : Bool) (v : AV) : Prop :=
  ∀ {B : Fz} {φ : Emb} {w : World} {ρ : Operand → Value}, (∀ v, ρ (.const v) = v) → (dep = true → Rel P B φ σ w.heap) → EVO C φ (csz w.heap) t ls ρ o.op → ∃ r, (execOp ρ o).run P w = .ok (.value r) w ∧ VR φ (csz w.heap) v r
theorem RdS.val {φ : Emb} {w : World} {v : AV} {s : Sem Value} (h : RdS P φ w v s) : ∃ r, (do Pure.pure (Next.value (← s)) : Sem Next).run P w = .ok (.value r) w ∧ VR φ (csz w.heap) v r := by
  obtain ⟨r, h1, h2⟩ := h
  exact ⟨r, by simp [h1], h2⟩
theorem optOpd_r {X : Option Operand} {x : Option OpdF} (h : optOpd C X = some x) {φ : Emb} {κ : Nat → Nat} {ρ : Operand → Value} (hv : ∀ Y, X = some Y → ∀ f, opdW C Y = some (.mk f) → VR φ κ (f t ls) (ρ Y)) : OptR φ κ t ls x (X.map ρ) := by
  cases X with
  | none => cases h; trivial
  | some Y =>
    simp only [optOpd] at h
    split at h
    · rename_i f hf
      cases h
      exact hv _ rfl _ hf
    · cases h
theorem opdsW_r {Xs : List Operand} {x : OpdF} : opdsW C Xs = some (.mk x) → ∀ {φ : Emb} {κ : Nat → Nat} {ρ : Operand → Value}, (∀ Y ∈ Xs, ∀ f, opdW C Y = some (.mk f) → VR φ κ (f t ls) (ρ Y)) → LR φ κ (x t ls) (Xs.map ρ) := by
  induction Xs generalizing x with
  | nil => intro h φ κ ρ hv; cases h; exact LR.nil
  | cons X r ih =>
    intro h φ κ ρ hv
    unfold opdsW at h
    split at h
    · rename_i a b ha hb
      cases h
      exact LR.cons (hv X (by simp) _ ha) (ih hb fun Y hY => hv Y (by simp [hY]))
    · cases h
theorem partsW_r {place : Nat → Option (Nat × Nat)} {ps : List (Nat × Operand)} {pw : PartsW} : partsW C place ps = some pw → ∀ {φ : Emb} {κ : Nat → Nat} {ρ : Operand → Value}, (∀ p ∈ ps, ∀ f, opdW C p.2 = some (.mk f) → VR φ κ (f t ls) (ρ p.2)) → PartsR φ κ t ls place pw (ps.map fun p => (p.1, ρ p.2)) := by
  induction ps generalizing pw with
  | nil => intro h φ κ ρ hv; cases h; exact .nil
  | cons p r ih =>
    intro h φ κ ρ hv
    obtain ⟨i, X⟩ := p
    unfold partsW at h
    split at h
    · rename_i off n x pr h1 h2 h3
      cases h
      exact .cons i off n x _ pr _ h1 (hv (i, X) (by simp) _ h2) (ih h3 fun p hp => hv p (by simp [hp]))
    · cases h
theorem nilC_val {d : TypeDesc} {X : Operand} (h : nilC d X = true) : X = .const (nilVal d) := by
  unfold nilC at h
  split at h <;> first | rfl | cases h
theorem places_eq : ∀ (fs : List Field), (fs.all fun f => (szOf P f.type).isSome) = true → ∃ places, fs.mapM (fun f => (P.info? f.type).map fun i => (f.offset, i.size)) = some places ∧ ∀ i : Nat, places[i]? = (fs[i]?).bind fun f => (szOf P f.type).map fun n => (f.offset, n)
  | [], _ => ⟨[], by simp, fun i => by simp⟩
  | f :: fs, h => by
    simp only [List.all_cons, Bool.and_eq_true] at h
    obtain ⟨places, h1, h2⟩ := places_eq fs h.2
    obtain ⟨n, hn⟩ := Option.isSome_iff_exists.1 h.1
    obtain ⟨i, hi, his⟩ := szOf_info hn
    refine ⟨(f.offset, n) :: places, by simp [List.mapM_cons, hi, h1, his], fun j => ?_⟩
    cases j with
    | zero => simp [hn]
    | succ j => simpa using h2 j
theorem rBuild_s {T : TypeId} {v : Value} {z : AV} {pw : PartsW} {place : Nat → Option (Nat × Nat)} (hk : rBuild v.cells.size z pw t ls σ k = true) (hv : zeroOf P T = some v) (hz : zRope P T = some z)
    (hb : ∀ vs cells, Instr.fill place v.cells vs = some cells → P.built T vs = some cells) :
    ∃ u, k u = true ∧ ∀ {φ w} {vs : Array (Nat × Value)}, PartsR φ (csz w.heap) t ls place pw vs.toList → RdS P φ w u (Instr.build T vs) := by
  obtain ⟨c', hk1, hf⟩ := fillK_true (k := fun c => k (.agg v.cells.size c)) hk
  refine ⟨_, hk1, fun {φ w vs} hp => ?_⟩
  have hcr : CR φ (csz w.heap) z v.cells.toList := by
    unfold zRope at hz
    rw [hv] at hz
    exact ropeOf_s _ _ _ hz _ _
  obtain ⟨cs', f1, f2, f3⟩ := hf hp v.cells rfl hcr
  refine ⟨.agg cs', run_build w T vs cs' (hb _ _ f1), ?_⟩
  have := CR.agg f3
  rwa [f2] at this
theorem eqGuard_r {w : World} {op : BinOp} {T : TypeId} {X : Operand} {d : TypeDesc} {xv : Value} : (eqGuard op T X (.const (nilVal d)) xv (nilVal d)).run P w = .ok () w := by
  cases op <;> cases d <;> cases xv <;> simp [eqGuard, nilVal]
theorem eqGuard_l {w : World} {op : BinOp} {T : TypeId} {X : Operand} {d : TypeDesc} {xv : Value} : (eqGuard op T (.const (nilVal d)) X (nilVal d) xv).run P w = .ok () w := by
  cases op <;> cases d <;> cases xv <;> simp [eqGuard, nilVal]
theorem binOp_exec {op : BinOp} {T : TypeId} {x y : Operand} {φ : Emb} {w : World} {v : AV} {ρ : Operand → Value} (hg : (eqGuard op T x y (ρ x) (ρ y)).run P w = .ok () w) (h : RdS P φ w v (binOp op T (ρ x) (ρ y))) {dst : Option Tmp} {ty yt : TypeId} {pos : String} {after : Array Edge} {guard : Option (Nat × Bool)} :
    ∃ r, (execOp ρ { dst := dst, op := .binOp op T x y yt, type := ty, pos := pos, after := after, guard := guard }).run P w = .ok (.value r) w ∧ VR φ (csz w.heap) v r := by
  obtain ⟨r, h1, h2⟩ := h
  exact ⟨r, by simp [execOp, hg, h1], h2⟩
theorem opW_rd {o : Oper} {f : RdF} {dep : Bool} (h : opW P C o.op = .rd f dep) (hk : f t ls σ k = true) : ∃ v, k v = true ∧ RdOK P C t ls σ o dep v := by
  obtain ⟨dst, op, ty, pos, after, guard⟩ := o
  simp only at h
  cases op
  case move x =>
    simp only [opW] at h
    split at h
    · rename_i x' hx
      cases h
      exact ⟨_, hk, fun hc hr hv => ⟨_, rfl, hv x (by simp [Op.operands]) _ (unW_some hx)⟩⟩
    · cases h
  case assign x =>
    simp only [opW] at h
    split at h
    · rename_i x' hx
      cases h
      exact ⟨_, hk, fun hc hr hv => ⟨_, rfl, hv x (by simp [Op.operands]) _ (unW_some hx)⟩⟩
    · cases h
  case pick c a b =>
    simp only [opW] at h
    split at h
    · rename_i c' a' b' hcd ha hb
      cases h
      obtain ⟨v, hv, hs⟩ := rPick_s (P := P) hk
      refine ⟨v, hv, fun {B φ w ρ} hc hr he => ?_⟩
      obtain ⟨r, h1, h2⟩ := hs (he c (by simp [Op.operands]) _ (unW_some hcd)) (he a (by simp [Op.operands]) _ (unW_some ha)) (he b (by simp [Op.operands]) _ (unW_some hb))
      refine ⟨r, ?_, h2⟩
      simp only [execOp]
      simp only [Sem.run_bind] at h1 ⊢
      cases hb : (asBool (ρ c)).run P w with
      | ok x w' => rw [hb] at h1; simp at h1 ⊢; obtain ⟨h3, h4⟩ := h1; exact ⟨h3, h4⟩
      | halt e w' => rw [hb] at h1; cases h1
    · cases h
  case load T a =>
    simp only [opW] at h
    split at h
    · rename_i a' n ha hT hn
      cases h
      obtain ⟨v, hv, hs⟩ := rLoadN_s (P := P) hk hT hn
      exact ⟨v, hv, fun hc hr he => (hs (hr rfl) (he a (by simp [Op.operands]) _ (unW_some ha))).val⟩
    · rename_i a' n ha hT hn
      cases h
      obtain ⟨v, hv, hs⟩ := rLoad1_s (P := P) hk hT
      exact ⟨v, hv, fun hc hr he => (hs (hr rfl) (he a (by simp [Op.operands]) _ (unW_some ha))).val⟩
    · cases h
  case nilCheck x =>
    simp only [opW] at h
    split at h
    · rename_i x' hx
      cases h
      obtain ⟨h1, h2⟩ := chkK_true hk
      refine ⟨_, h1, fun {B φ w ρ} hc hr he => ?_⟩
      have hv := he x (by simp [Op.operands]) _ (unW_some hx)
      obtain ⟨q1, q2, q3, q4⟩ := h2 _ _ _ hv
      refine ⟨ρ x, ?_, hv⟩
      simp only [execOp]
      rfl
    · cases h
  case fieldAddr T x i =>
    simp only [opW] at h
    split at h
    · rename_i x' fs hx hT
      split at h
      · rename_i fd hf
        split at h
        · rename_i m hm
          cases h
          obtain ⟨v, hv, hs⟩ := rFaddr_s (P := P) hk hT hf hm
          exact ⟨v, hv, fun hc hr he => (hs (he x (by simp [Op.operands]) _ (unW_some hx))).val⟩
        · cases h
      · cases h
    · cases h
  case indexAddr T x i =>
    simp only [opW] at h
    split at h
    · rename_i x' i' E hx hi hT
      split at h
      · rename_i n hn
        cases h
        obtain ⟨v, hv, hs⟩ := rIdxa_s (P := P) hk hT hn
        exact ⟨v, hv, fun hc hr he => (hs (he x (by simp [Op.operands]) _ (unW_some hx)) (he i (by simp [Op.operands]) _ (unW_some hi))).val⟩
      · cases h
    · rename_i x' i' n E hx hi hT
      split at h
      · rename_i m hn
        cases h
        obtain ⟨v, hv, hs⟩ := rIdxaA_s (P := P) hk hT hn
        exact ⟨v, hv, fun hc hr he => (hs (he x (by simp [Op.operands]) _ (unW_some hx)) (he i (by simp [Op.operands]) _ (unW_some hi))).val⟩
      · cases h
    · cases h
  case index T x i =>
    simp only [opW] at h
    split at h
    · rename_i x' i' hx hi hT
      cases h
      obtain ⟨v, hv, hs⟩ := rIdxS_s (P := P) hk hT
      exact ⟨v, hv, fun hc hr he => (hs (he x (by simp [Op.operands]) _ (unW_some hx)) (he i (by simp [Op.operands]) _ (unW_some hi))).val⟩
    · cases h
  case extract x i =>
    simp only [opW] at h
    split at h
    · rename_i x' hx
      cases h
      obtain ⟨v, hv, hs⟩ := rExtract_s (P := P) hk
      exact ⟨v, hv, fun hc hr he => (hs (he x (by simp [Op.operands]) _ (unW_some hx))).val⟩
    · cases h
  case sliceToArrayPointer T x =>
    simp only [opW] at h
    split at h
    · rename_i x' n E hx hT
      cases h
      obtain ⟨v, hv, hs⟩ := rS2ap_s (P := P) hk hT
      exact ⟨v, hv, fun hc hr he => (hs (he x (by simp [Op.operands]) _ (unW_some hx))).val⟩
    · cases h
  case makeFunc fn first cs =>
    simp only [opW] at h
    split at h
    · rename_i f' a c ha hcap
      cases h
      refine ⟨_, hk, fun {B φ w ρ} hc hr he => ⟨.func (.func f') (first.map ρ) (cs.map ρ), rfl, ?_⟩⟩
      have l1 := opdsW_r (t := t) (ls := ls) (unW_some ha) (φ := φ) (κ := csz w.heap) (ρ := ρ) fun Y hY f hf => he Y (by simp [Op.operands]; exact .inl (by simpa using hY)) f hf
      have l2 := opdsW_r (t := t) (ls := ls) (unW_some hcap) (φ := φ) (κ := csz w.heap) (ρ := ρ) fun Y hY f hf => he Y (by simp [Op.operands]; exact .inr (by simpa using hY)) f hf
      exact VR.func' (by simpa using l1) (by simpa using l2)
    · cases h
  case lookup T m key ok =>
    simp only [opW] at h
    split at h
    · rename_i m' k' K E hm hkk hT
      split at h
      · rename_i s z hK hz
        have hzz : ∃ zv, zeroOf P E = some zv ∧ avOf zv = some z := by
          unfold zAV at hz
          cases hzo : zeroOf P E with
          | none => rw [hzo] at hz; cases hz
          | some zv => rw [hzo] at hz; exact ⟨zv, rfl, hz⟩
        obtain ⟨zv, hzo, hza⟩ := hzz
        cases ok
        · simp only [Bool.false_eq_true, if_false] at h
          cases h
          obtain ⟨v, hv, hs⟩ := rLookup_s (P := P) hk hT hK hzo fun φ κ => avOf_s hza φ κ
          exact ⟨v, hv, fun hc hr he => (hs (hr rfl) (he m (by simp [Op.operands]) _ (unW_some hm)) (he key (by simp [Op.operands]) _ (unW_some hkk))).val⟩
        · simp only [if_true] at h
          cases h
          obtain ⟨v, hv, hs⟩ := rLookupOk_s (P := P) hk hT hK hzo fun φ κ => avOf_s hza φ κ
          exact ⟨v, hv, fun hc hr he => (hs (hr rfl) (he m (by simp [Op.operands]) _ (unW_some hm)) (he key (by simp [Op.operands]) _ (unW_some hkk))).val⟩
      · cases h
    · cases h
  case unOp op T x =>
    simp only [opW] at h
    split at h
    · rename_i x' hx
      cases h
      obtain ⟨v, hv, hs⟩ := rNot_s (P := P) hk
      exact ⟨v, hv, fun hc hr he => (hs (he x (by simp [Op.operands]) _ (unW_some hx))).val⟩
    · rename_i x' hx
      cases h
      obtain ⟨v, hv, hs⟩ := rNeg_s (P := P) hk
      exact ⟨v, hv, fun hc hr he => (hs (he x (by simp [Op.operands]) _ (unW_some hx))).val⟩
    · cases h
  case convert S D x =>
    simp only [opW] at h
    split at h
    · rename_i x' p q hx hS hD
      cases hq : q.signed <;> simp only [hq, if_true, if_false, Bool.false_eq_true] at h <;> cases h
      · obtain ⟨v, hv, hs⟩ := rCvU_s (P := P) hq hk hS hD
        exact ⟨v, hv, fun hc hr he => (hs (he x (by simp [Op.operands]) _ (unW_some hx))).val⟩
      · obtain ⟨v, hv, hs⟩ := rCvS_s (P := P) hk hS hD
        exact ⟨v, hv, fun hc hr he => (hs (he x (by simp [Op.operands]) _ (unW_some hx))).val⟩
    · rename_i x' hx hS hD
      cases h
      obtain ⟨n, N, h1, h2⟩ := AV.asStr_true hk
      refine ⟨_, h2, fun {B φ w ρ} hc hr he => ?_⟩
      have hv := he x (by simp [Op.operands]) _ (unW_some hx)
      have hv' := hv
      rw [h1] at hv'
      obtain ⟨s, hs, _, _⟩ := hv'.str_inv
      refine ⟨ρ x, ?_, hv⟩
      simp [execOp, convert, underlying, hS, hD, hs]
    · rename_i x' E hx hS hD
      split at h <;> cases h
    · rename_i x' E hx hS hD
      split at h
      · rename_i hE
        cases h
        obtain ⟨v, hv, hs⟩ := rCvBS_s (P := P) hk hS hE hD
        exact ⟨v, hv, fun hc hr he => (hs (hr rfl) (he x (by simp [Op.operands]) _ (unW_some hx))).val⟩
      · cases h
    · split at h
      · split at h <;> cases h
      · cases h
    · cases h
  case binOp op T x y yt =>
    simp only [opW] at h
    split at h
    case h_2 => cases h
    rename_i a b ha hb
    have hx : ∀ {φ : Emb} {κ : Nat → Nat} {ρ : Operand → Value}, EVO C φ κ t ls ρ (.binOp op T x y yt) → VR φ κ (a t ls) (ρ x) ∧ VR φ κ (b t ls) (ρ y) := fun he => ⟨he x (by simp [Op.operands]) _ (unW_some ha), he y (by simp [Op.operands]) _ (unW_some hb)⟩
    unfold binW at h
    split at h
    · rename_i q hT
      obtain ⟨v, hv, hs⟩ := intW_s (P := P) (T := T) h hk
      refine ⟨v, hv, fun {B φ w ρ} hc hr he => ?_⟩
      obtain ⟨⟨q', n, e1⟩, h2⟩ := hs (hx he).1 (hx he).2
      exact binOp_exec (by rw [e1]; exact eqGuard_int) h2
    · rename_i hT
      obtain ⟨v, hv, hs⟩ := strW_s (P := P) (T := T) h hk
      refine ⟨v, hv, fun {B φ w ρ} hc hr he => ?_⟩
      obtain ⟨⟨s, e1⟩, h2⟩ := hs (hx he).1 (hx he).2
      exact binOp_exec (by rw [e1]; cases op <;> simp [eqGuard]) h2
    · have key : ∀ ne, (op = .eql ∨ op = .neq) → ne = decide (op = .neq) → eqW P ne T x y a b = .rd f dep → ∃ v, k v = true ∧ RdOK P C t ls σ { dst := dst, op := .binOp op T x y yt, type := ty, pos := pos, after := after, guard := guard } dep v := fun ne ho hne h => by
        unfold eqW at h
        have nilcase : ∀ {g d}, NilG g d → P.underlying T = some d → (if nilC d y = true then OpW.rd (rNilEq g ne a) false else if nilC d x = true then OpW.rd (rNilEq g ne b) false else .bad) = .rd f dep →
            ∃ v, k v = true ∧ RdOK P C t ls σ { dst := dst, op := .binOp op T x y yt, type := ty, pos := pos, after := after, guard := guard } dep v := fun {g d} hg hT h => by
          split at h
          · rename_i hcc
            cases h
            have hy := nilC_val hcc
            subst hy
            obtain ⟨v, hv, hs⟩ := rNilEq_s (P := P) hg ho hne hT hk
            refine ⟨v, hv, fun {B φ w ρ} hc hr he => ?_⟩
            obtain ⟨h2, _⟩ := hs (hx he).1
            exact binOp_exec (by rw [hc]; exact eqGuard_r) (by rw [hc]; exact h2)
          · split at h
            · rename_i hcc
              cases h
              have hy := nilC_val hcc
              subst hy
              obtain ⟨v, hv, hs⟩ := rNilEq_s (P := P) hg ho hne hT hk
              refine ⟨v, hv, fun {B φ w ρ} hc hr he => ?_⟩
              obtain ⟨_, h2⟩ := hs (hx he).2
              exact binOp_exec (by rw [hc]; exact eqGuard_l) (by rw [hc]; exact h2)
            · cases h
        split at h
        · rename_i hT
          cases h
          obtain ⟨v, hv, hs⟩ := rBoolEq_s (P := P) ho hne hT hk
          refine ⟨v, hv, fun {B φ w ρ} hc hr he => ?_⟩
          obtain ⟨⟨s, e1⟩, h2⟩ := hs (hx he).1 (hx he).2
          exact binOp_exec (by rw [e1]; cases op <;> simp [eqGuard]) h2
        · rename_i e hT
          split at h
          · rename_i n hn
            cases h
            obtain ⟨v, hv, hs⟩ := rPtrEq_s (P := P) ho hne hT hn hk
            refine ⟨v, hv, fun {B φ w ρ} hc hr he => ?_⟩
            obtain ⟨⟨s, e1⟩, h2⟩ := hs (hr rfl) (hx he).1 (hx he).2
            exact binOp_exec (by rw [e1]; cases op <;> simp [eqGuard]) h2
          · cases h
        · rename_i fs hT
          split at h
          · rename_i hcond
            split at h
            · rename_i cls hcl
              cases h
              obtain ⟨v, hv, hs⟩ := rAggEq_s (P := P) ho hne hT hcond.1 hcl hk
              refine ⟨v, hv, fun {B φ w ρ} hc hr he => ?_⟩
              obtain ⟨⟨xs, ys, e1, e2⟩, h2⟩ := hs (hx he).1 (hx he).2
              exact binOp_exec (by rw [e1, e2]; exact run_eqGuard_agg w op T _ _ xs ys hcond.2) h2
            · cases h
          · cases h
        · rename_i e hT; exact nilcase (nilG_S e) hT h
        · rename_i c e hT; exact nilcase (nilG_M c e) hT h
        · rename_i c e vv hT; exact nilcase (nilG_F c e vv) hT h
        · rename_i ms hT; exact nilcase (nilG_I ms) hT h
        · cases h
      split at h
      · exact key false (.inl rfl) (by simp) h
      · exact key true (.inr rfl) (by simp) h
      · cases h
  case slice T x lo hi mx =>
    simp only [opW] at h
    split at h
    case h_2 => cases h
    rename_i x' lo' hi' mx' hx hlo hhi hmx
    have hvx : ∀ {φ : Emb} {κ : Nat → Nat} {ρ : Operand → Value}, EVO C φ κ t ls ρ (.slice T x lo hi mx) → VR φ κ (x' t ls) (ρ x) ∧ OptR φ κ t ls lo' (lo.map ρ) ∧ OptR φ κ t ls hi' (hi.map ρ) ∧ OptR φ κ t ls mx' (mx.map ρ) := fun he =>
      ⟨he x (by simp [Op.operands]) _ (unW_some hx), optOpd_r hlo fun Y hY f hf => he Y (by subst hY; simp [Op.operands]) f hf, optOpd_r hhi fun Y hY f hf => he Y (by subst hY; simp [Op.operands]) f hf, optOpd_r hmx fun Y hY f hf => he Y (by subst hY; simp [Op.operands]) f hf⟩
    split at h
    · cases h
    rename_i hmm
    have hmm' : (mx'.isSome && hi'.isNone) = false := by rwa [Bool.not_eq_true] at hmm
    split at h
    · rename_i hT
      split at h
      · cases h
        have hmn : mx = none := by
          cases mx with
          | none => rfl
          | some Y => simp only [optOpd] at hmx; split at hmx <;> cases hmx
        subst hmn
        obtain ⟨v, hv, hs⟩ := rSliceS_s (P := P) hk hT
        exact ⟨v, hv, fun hc hr he => (hs (hvx he).1 (hvx he).2.1 (hvx he).2.2.1).val⟩
      · cases h
    · rename_i E hT
      split at h
      · rename_i n hn
        cases h
        obtain ⟨v, hv, hs⟩ := rSlice_s (P := P) hmm' hk hT hn
        exact ⟨v, hv, fun hc hr he => (hs (hvx he).1 (hvx he).2.1 (hvx he).2.2.1 (hvx he).2.2.2).val⟩
      · cases h
    · rename_i n E hT
      split at h
      · rename_i m hn
        cases h
        obtain ⟨v, hv, hs⟩ := rSliceA_s (P := P) (A := 0) hmm' hk (.inl hT) hn
        exact ⟨v, hv, fun hc hr he => (hs (hr rfl) (hvx he).1 (hvx he).2.1 (hvx he).2.2.1 (hvx he).2.2.2).val⟩
      · cases h
    · rename_i A hT
      split at h
      · rename_i n E hA
        split at h
        · rename_i m hn
          cases h
          obtain ⟨v, hv, hs⟩ := rSliceA_s (P := P) hmm' hk (.inr ⟨hT, hA⟩) hn
          exact ⟨v, hv, fun hc hr he => (hs (hr rfl) (hvx he).1 (hvx he).2.1 (hvx he).2.2.1 (hvx he).2.2.2).val⟩
        · cases h
      · cases h
    · cases h
  case build T ps =>
    simp only [opW] at h
    split at h
    · rename_i fs v z hT hv hz
      split at h
      · cases h
      rename_i hall
      split at h
      · rename_i pw hpw
        cases h
        have hall' : (fs.toList.all fun f => (szOf P f.type).isSome) = true := by
          cases hb : (fs.toList.all fun f => (szOf P f.type).isSome) with
          | true => rfl
          | false => rw [hb] at hall; exact absurd rfl hall
        obtain ⟨places, hpl, hpi⟩ := places_eq fs.toList hall'
        obtain ⟨u, hu, hs⟩ := rBuild_s (P := P) (T := T) (place := fun i => (fs[i]?).bind fun f => (szOf P f.type).map fun n => (f.offset, n)) hk hv hz (fun vs cells hf => by
          have hinfo : ∃ it, P.info? T = some it ∧ it.zero = some v := by
            unfold zeroOf at hv
            cases hi : P.info? T with
            | none => rw [hi] at hv; cases hv
            | some it => rw [hi] at hv; exact ⟨it, rfl, hv⟩
          obtain ⟨it, hit, hzz⟩ := hinfo
          unfold Program.built
          simp only [hit, hT, hzz, hpl]
          rw [← hf]
          congr 1
          funext i
          rw [List.getElem?_toArray, hpi i, Array.getElem?_toList])
        refine ⟨u, hu, fun {B φ w ρ} hc hr he => ?_⟩
        have hp := partsW_r (t := t) (ls := ls) hpw (φ := φ) (κ := csz w.heap) (ρ := ρ) fun p hp f hf => he p.2 (by simp only [Op.operands]; exact List.mem_map_of_mem hp) f hf
        exact (hs (vs := ps.map fun (i, x) => (i, ρ x)) (by simpa using hp)).val
      · cases h
    · rename_i m E v z hT hv hz
      split at h
      · rename_i pw hpw
        cases h
        cases hn : szOf P E with
        | none => rw [hn] at hpw; cases hpw
        | some n =>
          rw [hn] at hpw
          obtain ⟨u, hu, hs⟩ := rBuild_s (P := P) (T := T) (place := fun i => some (i * n, n)) hk hv hz (fun vs cells hf => by
            have hinfo : ∃ it, P.info? T = some it ∧ it.zero = some v := by
              unfold zeroOf at hv
              cases hi : P.info? T with
              | none => rw [hi] at hv; cases hv
              | some it => rw [hi] at hv; exact ⟨it, rfl, hv⟩
            obtain ⟨it, hit, hzz⟩ := hinfo
            obtain ⟨ie, hie, hies⟩ := szOf_info hn
            unfold Program.built
            simp only [hit, hT, hzz, hie, hies, hf])
          refine ⟨u, hu, fun {B φ w ρ} hc hr he => ?_⟩
          have hp := partsW_r (t := t) (ls := ls) hpw (φ := φ) (κ := csz w.heap) (ρ := ρ) fun p hp f hf => he p.2 (by simp only [Op.operands]; exact List.mem_map_of_mem hp) f hf
          exact (hs (vs := ps.map fun (i, x) => (i, ρ x)) (by simpa using hp)).val
      · cases h
    · cases h
  case call c =>
    simp only [opW] at h
    split at h
    · split at h <;> cases h
    · split at h <;> cases h
    · rename_i b hcal
      obtain ⟨callee, args, argTypes⟩ := c
      simp only at hcal h
      subst hcal
      have ex : ∀ {φ : Emb} {w : World} {ρ : Operand → Value} {v : AV} {s : Sem Value}, RdS P φ w v s → (∀ cs, builtin b argTypes ty cs (args.map ρ) = (do Pure.pure (Next.value (← s)))) →
          ∃ r, (execOp ρ { dst := dst, op := .call ⟨.builtin b, args, argTypes⟩, type := ty, pos := pos, after := after, guard := guard }).run P w = .ok (.value r) w ∧ VR φ (csz w.heap) v r := fun {φ w ρ v s} hr hb => by
        obtain ⟨r, h1, h2⟩ := hr
        exact ⟨r, by simp [execOp, resolve, invoke, hb, h1], h2⟩
      have el : ∀ {X : Operand} {l : List Operand}, args.toList = X :: l → ∀ Y ∈ X :: l, Y ∈ (Op.call ⟨.builtin b, args, argTypes⟩).operands.toList := fun hl Y hY => by
        simp [Op.operands, Call.operands]
        rw [← Array.mem_toList_iff, hl]; exact hY
      have am : ∀ {X : Operand} {ρ : Operand → Value}, args.toList = [X] → args.map ρ = #[ρ X] := fun hl => by
        apply Array.toList_inj.1; simp [hl]
      unfold builtinW at h
      split at h
      · rename_i T x hts hxs
        have ht : argTypes = #[T] := Array.toList_inj.1 (by simpa using hts)
        subst ht
        split at h
        · rename_i a hx hT
          cases h
          obtain ⟨v, hv, hs⟩ := rLenT_s (P := P) (ty := ty) hk hT
          exact ⟨v, hv, fun hc hr he => ex (by simp only [am hxs]; exact hs (he x (el hxs x (by simp)) _ (unW_some hx))) (fun _ => rfl)⟩
        · rename_i a E hx hT
          cases h
          obtain ⟨v, hv, hs⟩ := rLenS_s (P := P) (ty := ty) hk hT
          exact ⟨v, hv, fun hc hr he => ex (by simp only [am hxs]; exact hs (he x (el hxs x (by simp)) _ (unW_some hx))) (fun _ => rfl)⟩
        · rename_i a K E hx hT
          cases h
          obtain ⟨v, hv, hs⟩ := rLenM_s (P := P) (ty := ty) hk hT
          exact ⟨v, hv, fun hc hr he => ex (by simp only [am hxs]; exact hs (hr rfl) (he x (el hxs x (by simp)) _ (unW_some hx))) (fun _ => rfl)⟩
        · rename_i a n E hx hT
          cases h
          refine ⟨_, hk, fun {B φ w ρ} hc hr he => ex ⟨goInt n, ?_, .nat .i64 n⟩ (fun _ => rfl)⟩
          simp [am hxs, Builtin.len_, underlying, hT]
        · rename_i a R hx hT
          split at h
          · rename_i n E hR
            cases h
            refine ⟨_, hk, fun {B φ w ρ} hc hr he => ex ⟨goInt n, ?_, .nat .i64 n⟩ (fun _ => rfl)⟩
            simp [am hxs, Builtin.len_, underlying, hT, hR]
          · cases h
        · cases h
      · rename_i T x hts hxs
        have ht : argTypes = #[T] := Array.toList_inj.1 (by simpa using hts)
        subst ht
        split at h
        · rename_i a E hx hT
          cases h
          obtain ⟨v, hv, hs⟩ := rCap_s (P := P) (ty := ty) hk hT
          exact ⟨v, hv, fun hc hr he => ex (by simp only [am hxs]; exact hs (he x (el hxs x (by simp)) _ (unW_some hx))) (fun _ => rfl)⟩
        · cases h
      · (repeat' split at h) <;> cases h
      · (repeat' split at h) <;> cases h
      · (repeat' split at h) <;> cases h
      · (repeat' split at h) <;> cases h
      · rename_i x y hxs
        split at h
        · rename_i a b' ha hb
          cases h
          obtain ⟨v, hv, hs⟩ := rMax_s (P := P) (ty := ty) (ts := argTypes) hk
          refine ⟨v, hv, fun {B φ w ρ} hc hr he => ex ?_ (fun _ => rfl)⟩
          have e2 : args.map ρ = #[ρ x, ρ y] := by apply Array.toList_inj.1; simp [hxs]
          simp only [e2]
          exact hs (he x (el hxs x (by simp)) _ (unW_some ha)) (he y (el hxs y (by simp)) _ (unW_some hb))
        · cases h
      · cases h
    · cases h
  all_goals (simp only [opW] at h; (repeat' split at h) <;> cases h)
end
end Go.Am
