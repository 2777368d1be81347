import Derived.Test.YtfdbmpokhfjdoaaGreatDoorAmS17
set_option linter.unusedVariables false
set_option linter.unusedSimpArgs false
/-! Soundness, 18: operations that make a block, and those that write (calls not yet). -/
namespace Go.Am
open Go
/-- A block is made, by an operation. -/
def AlN (P : Program) (φ : Emb) (w : World) (blk : Blk) (mk : Ad → AV) (s : Sem Next) : Prop :=
  ∃ r w' obj, s.run P w = .ok (.value r) w' ∧ w'.heap = w.heap.push obj ∧ w'.os = w.os ∧ w'.tape = w.tape ∧ w'.output = w.output ∧
    ∀ β, φ β = none → BR P (φ.put β (w.heap.size, 0)) (w.heap.push obj) blk w.heap.size 0 ∧ VR (φ.put β (w.heap.size, 0)) (csz (w.heap.push obj)) (mk β) r
theorem AlS.val {P : Program} {φ : Emb} {w : World} {blk : Blk} {mk : Ad → AV} {s : Sem Value} (h : AlS P φ w blk mk s) : AlN P φ w blk mk (do Pure.pure (Next.value (← s))) := by
  obtain ⟨r, w', obj, h1, h2⟩ := h
  exact ⟨r, w', obj, by simp [h1], h2⟩
theorem exec_buildSlice {ρ : Operand → Value} {T : TypeId} {len : Nat} {ps : Array (Nat × Operand)} {dst : Option Tmp} {ty : TypeId} {pos : String} {after : Array Edge} {guard : Option (Nat × Bool)} :
    execOp ρ { dst := dst, op := .buildSlice T len ps, type := ty, pos := pos, after := after, guard := guard } = (do Pure.pure (Next.value (← Instr.buildSlice T len (ps.map fun p => (p.1, ρ p.2))))) := rfl
section
variable {P : Program} {C : Cx} {t : Regs} {ls : Ls}
theorem opW_al {o : Oper} {f : AlF} {k : Blk → (Ad → AV) → Bool} (h : opW P C o.op = .al f) (hk : f t ls k = true) :
    ∃ blk mk, k blk mk = true ∧ blk.olds = [] ∧ ∀ {φ : Emb} {w : World} {ρ : Operand → Value}, EVO C φ (csz w.heap) t ls ρ o.op → AlN P φ w blk mk (execOp ρ o) := by
  obtain ⟨dst, op, ty, pos, after, guard⟩ := o
  simp only at h
  cases op
  case alloc T =>
    simp only [opW] at h
    split at h
    · rename_i v z hv hz
      cases h
      obtain ⟨blk, mk, h1, h2, h3⟩ := aAlloc_s (P := P) (T := T) hk hv hz
      exact ⟨blk, mk, h1, h2, fun he => h3.val⟩
    · cases h
  case box T x =>
    simp only [opW] at h
    split at h
    · rename_i x' hx
      cases h
      obtain ⟨blk, mk, h1, h2, h3⟩ := aBox_s (P := P) (T := T) hk
      exact ⟨blk, mk, h1, h2, fun he => (h3 (he x (by simp [Op.operands]) _ (unW_some hx))).val⟩
    · cases h
  case buildSlice T len ps =>
    simp only [opW] at h
    split at h
    · rename_i E hT
      split at h
      · rename_i n z hE hz
        split at h
        · rename_i pw hpw
          split at h
          · rename_i hlim
            cases h
            obtain ⟨blk, mk, h1, h2, h3⟩ := aSlice_s (P := P) (Nat.succ_pos _) hk hT hE hz hlim
            refine ⟨blk, mk, h1, h2, fun {φ w ρ} he => ?_⟩
            have hp := partsW_r (t := t) (ls := ls) hpw (φ := φ) (κ := csz w.heap) (ρ := ρ) fun p hp f hf => he p.2 (by simp only [Op.operands]; exact List.mem_map_of_mem hp) f hf
            have hp' : PartsR φ (csz w.heap) t ls (fun i => some (i * (n + 1), n + 1)) pw (ps.map fun p => (p.1, ρ p.2)).toList := by simpa using hp
            rw [exec_buildSlice]
            exact (h3 hp').val
          · cases h
        · cases h
      · cases h
    · cases h
  case convert S D x =>
    simp only [opW] at h
    split at h
    · rename_i x' p q hx hS hD
      cases hq : q.signed <;> simp only [hq, if_true, if_false, Bool.false_eq_true] at h <;> cases h
    · cases h
    · rename_i x' E hx hS hD
      split at h
      · rename_i hE
        cases h
        obtain ⟨blk, mk, h1, h2, h3⟩ := aCvSB_s (P := P) hk hS hD hE
        exact ⟨blk, mk, h1, h2, fun he => (h3 (he x (by simp [Op.operands]) _ (unW_some hx))).val⟩
      · cases h
    · split at h <;> cases h
    · split at h
      · split at h <;> cases h
      · cases h
    · cases h
  case makeMap T r =>
    simp only [opW] at h
    split at h
    · cases h
      obtain ⟨blk, mk, h1, h2, h3⟩ := aMap_s (P := P) (T := T) hk
      exact ⟨blk, mk, h1, h2, fun he => h3.val⟩
    · cases h
  case makeSlice T l c =>
    simp only [opW] at h
    split at h
    · rename_i E l' c' hT hl hc
      split at h
      · rename_i n lim z hE hlim hz
        cases h
        obtain ⟨blk, mk, h1, h2, h3⟩ := aMake_s (P := P) (Nat.succ_pos _) hk hT hE hlim hz
        exact ⟨blk, mk, h1, h2, fun he => (h3 (he l (by simp [Op.operands]) _ (unW_some hl)) (he c (by simp [Op.operands]) _ (unW_some hc))).val⟩
      · cases h
    · cases h
  case binOp op T x y yt =>
    simp only [opW] at h
    split at h
    case h_2 => cases h
    unfold binW at h
    split at h
    · rename_i q hT
      unfold intW at h
      split at h
      split at h <;> (try split at h) <;> cases h
    · unfold strW at h
      split at h <;> cases h
    · split at h
      · unfold eqW at h; (repeat' split at h) <;> cases h
      · unfold eqW at h; (repeat' split at h) <;> cases h
      · cases h
  case call c =>
    simp only [opW] at h
    split at h
    · split at h <;> cases h
    · split at h <;> cases h
    · unfold builtinW at h; (repeat' split at h) <;> cases h
    · cases h
  all_goals (simp only [opW] at h; (repeat' split at h) <;> cases h)

/-- What an operation's run comes to. -/
def NextOK (P : Program) (B : Fz) (φ : Emb) (σ : Hp) (w : World) (v : AV) (σ' : Hp) : Result Next → Prop
  | .ok (.value r) w' => Did P B φ σ w v σ' r w'
  | .ok .skip w' => Did P B φ σ w v σ' undef w'
  | .ok (.enter f xs) w' => w' = w ∧ CallsIn Fence.wide 0 P f xs w fun e w'' => ∃ r, e = .returned r ∧ Did P B φ σ w v σ' r w''
  | .ok (.round l f tm as bd) w' => w' = w ∧ RoundIn Fence.wide 0 P l f tm as bd w fun e w'' => ∃ r, e = .returned r ∧ Did P B φ σ w v σ' r w''
  | _ => False
def OpOK (P : Program) (C : Cx) (t : Regs) (ls : Ls) (σ : Hp) (o : Oper) (v : AV) (σ' : Hp) : Prop :=
  ∀ {B : Fz} {φ : Emb} {w : World} {ρ : Operand → Value}, (∀ v, ρ (.const v) = v) → (∀ f, ρ (.func f) = .func (.func f) #[] #[]) → Rel P B φ σ w.heap → B.le w.heap.size → EVO C φ (csz w.heap) t ls ρ o.op → NextOK P B φ σ w v σ' ((execOp ρ o).run P w)
theorem WrV.next {B : Fz} {φ : Emb} {σ σ' : Hp} {w : World} {v : AV} {s : Sem Value} (h : WrV P B φ σ w v σ' s) : NextOK P B φ σ w v σ' ((do Pure.pure (Next.value (← s)) : Sem Next).run P w) := by
  obtain ⟨r, w', h1, h2⟩ := h
  simp [h1, NextOK]; exact h2
theorem WrU.next {B : Fz} {φ : Emb} {σ σ' : Hp} {w : World} {s : Sem Unit} (h : WrU P B φ σ w σ' s) : NextOK P B φ σ w .undef σ' ((do s; Pure.pure Next.skip : Sem Next).run P w) := by
  obtain ⟨w', h1, h2⟩ := h
  simp [h1, NextOK]; exact h2
end
end Go.Am
