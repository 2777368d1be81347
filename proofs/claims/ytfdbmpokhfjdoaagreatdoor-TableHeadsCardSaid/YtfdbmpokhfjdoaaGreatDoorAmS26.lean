import Derived.Test.YtfdbmpokhfjdoaaGreatDoorAmS25
import Derived.Laws.IdiomRangeMap
set_option linter.unusedVariables false
set_option linter.unusedSimpArgs false
/-! Soundness, 26: ranges over maps: what a summary of one wants. -/
namespace Go.Am
open Go
/-! ### Maps as tables -/
noncomputable def AMap.look : AMap → AV → Option AV
  | .nil, _ => none
  | .cons k v r, a => open Classical in if k = a then some v else r.look a
noncomputable def AMap.put (a v : AV) : AMap → AMap
  | .nil => .cons a v .nil
  | .cons b u r => open Classical in if b = a then .cons b v r else .cons b u (r.put a v)
theorem keyEq_eval {a b : AV} {o : Option IntKind} (ha : keySort a = some o) (hb : keySort b = some o) (k : Bool → Bool) : keyEq a b k = k (open Classical in decide (a = b)) := by
  cases a <;> simp only [keySort, Option.some.injEq, reduceCtorEq] at ha <;> cases b <;> simp only [keySort, Option.some.injEq, reduceCtorEq] at hb <;> subst ha <;> simp only [Option.some.injEq, reduceCtorEq] at hb
  · rename_i q n p m
    subst hb
    show sel (kEq p p) (boolK (eqI (.ofNat n) (.ofNat m)) k) false = _
    rw [kEq_eq, decide_eq_true rfl, boolK_eq, eqI_eq]
    show k _ = k _
    congr 1
    by_cases h : n = m
    · subst h; simp
    · simp [h] <;> omega
  · rename_i q n p m
    subst hb
    show sel (kEq p p) (boolK (eqI (.ofNat n) (.negSucc m)) k) false = _
    rw [kEq_eq, decide_eq_true rfl, boolK_eq]
    simp [sel, eqI]
  · rename_i q n p m
    subst hb
    show sel (kEq p p) (boolK (eqI (.negSucc n) (.ofNat m)) k) false = _
    rw [kEq_eq, decide_eq_true rfl, boolK_eq]
    simp [sel, eqI]
  · rename_i q n p m
    subst hb
    show sel (kEq p p) (boolK (eqI (.negSucc n) (.negSucc m)) k) false = _
    rw [kEq_eq, decide_eq_true rfl, boolK_eq, eqI_eq]
    show k _ = k _
    congr 1
    by_cases h : n = m
    · subst h; simp
    · simp [h] <;> omega
  · rename_i n N m M
    show boolK (strEq n N m M) k = _
    rw [boolK_eq]
    congr 1
    unfold strEq
    rw [sel_eq]
    by_cases h1 : n = m
    · by_cases h2 : N = M
      · subst h1 h2; simp
      · have h3 : Nat.beq N M = false := Bool.eq_false_iff.2 fun h => h2 (Nat.eq_of_beq_eq_true h)
        simp [sel_eq, h1, h2, h3]
    · have h3 : Nat.beq n m = false := Bool.eq_false_iff.2 fun h => h1 (Nat.eq_of_beq_eq_true h)
      simp [sel_eq, h1, h3]
theorem put_cons (a v b u : AV) (r : AMap) : (AMap.cons b u r).put a v = open Classical in if b = a then .cons b v r else .cons b u (r.put a v) := rfl
theorem putK_eval {a v : AV} {o : Option IntKind} (ha : keySort a = some o) : ∀ {m : AMap} (k : AMap → Bool), (∀ p ∈ m.toL, keySort p.1 = some o) → AMap.putK a v m k = k (m.put a v) := by
  intro m
  induction m with
  | nil => intro k _; rfl
  | cons b u r ih =>
    intro k h
    show keyEq a b (fun e => sel e (k (.cons b v r)) (AMap.putK a v r fun r' => k (.cons b u r'))) = _
    rw [keyEq_eval ha (h (b, u) (by simp [AMap.toL]))]
    rw [sel_eq, ih (fun r' => k (.cons b u r')) fun p hp => h p (by simp [AMap.toL, hp])]
    rw [put_cons]
    by_cases hab : a = b
    · subst hab; simp
    · have : ¬ b = a := fun e => hab e.symm
      simp [hab, this]
theorem put_look (a v : AV) : ∀ (m : AMap) (b : AV), (m.put a v).look b = open Classical in if a = b then some v else m.look b := by
  intro m b
  induction m with
  | nil => simp [AMap.put, AMap.look]
  | cons c u r ih =>
    unfold AMap.put
    by_cases hca : c = a
    · subst hca
      simp only [if_true, AMap.look]
      by_cases hcb : c = b
      · subst hcb; simp
      · simp [hcb]
    · simp only [if_neg hca, AMap.look, ih]
      by_cases hcb : c = b
      · subst hcb
        have : ¬ a = c := fun e => hca e.symm
        simp [this]
      · simp [hcb]
theorem look_mem {m : AMap} {a v : AV} (h : m.look a = some v) : (a, v) ∈ m.toL := by
  induction m with
  | nil => cases h
  | cons k u r ih =>
    unfold AMap.look at h
    split at h
    · rename_i e; cases h; subst e; simp [AMap.toL]
    · simp [AMap.toL, ih h]
theorem mem_look {m : AMap} (hn : (m.toL.map (·.1)).Nodup) {a v : AV} (h : (a, v) ∈ m.toL) : m.look a = some v := by
  induction m with
  | nil => cases h
  | cons k u r ih =>
    simp only [AMap.toL, List.map_cons, List.nodup_cons] at hn
    simp only [AMap.toL, List.mem_cons] at h
    unfold AMap.look
    rcases h with e | h
    · cases e; simp
    · have : k ≠ a := fun e => by subst e; exact hn.1 (List.mem_map_of_mem (f := Prod.fst) h)
      rw [if_neg this]
      exact ih hn.2 h
theorem put_keys (a v : AV) (m : AMap) : ∀ p ∈ (m.put a v).toL, p.1 = a ∨ ∃ u, (p.1, u) ∈ m.toL := by
  induction m with
  | nil => intro p hp; simp [AMap.put, AMap.toL] at hp; exact .inl (by rw [hp])
  | cons c u r ih =>
    intro p hp
    unfold AMap.put at hp
    split at hp
    · simp only [AMap.toL, List.mem_cons] at hp
      rcases hp with e | hp
      · rw [e]; exact .inr ⟨u, by simp [AMap.toL]⟩
      · exact .inr ⟨p.2, by simp [AMap.toL, hp]⟩
    · simp only [AMap.toL, List.mem_cons] at hp
      rcases hp with e | hp
      · rw [e]; exact .inr ⟨u, by simp [AMap.toL]⟩
      · rcases ih p hp with h | ⟨u', h⟩
        · exact .inl h
        · exact .inr ⟨u', by simp [AMap.toL, h]⟩
/-- One of a map's keys each once: two tables of the same look-ups have the same rows. -/
theorem toL_perm {m m' : AMap} (hn : (m.toL.map (·.1)).Nodup) (hn' : (m'.toL.map (·.1)).Nodup) (h : ∀ a, m.look a = m'.look a) : m.toL.Perm m'.toL := by
  have nd : ∀ {m : AMap}, (m.toL.map (·.1)).Nodup → m.toL.Nodup := fun {m} h => List.Pairwise.imp (fun hab e => hab (by rw [e])) (List.pairwise_map.1 h)
  have sub : ∀ {m m' : AMap}, (m.toL.map (·.1)).Nodup → (∀ a, m.look a = m'.look a) → ∀ p ∈ m.toL, p ∈ m'.toL := fun {m m'} h1 h2 p hp => by
    have := mem_look h1 (a := p.1) (v := p.2) hp
    rw [h2] at this
    exact look_mem this
  open Classical in
  exact (List.perm_ext_iff_of_nodup (nd hn) (nd hn')).2 fun p => ⟨sub hn h p, sub hn' (fun a => (h a).symm) p⟩
theorem MR.perm {φ : Emb} {κ : Nat → Nat} {m m' : AMap} {es : Array MapEntry} {cl : Nat} (h : MR φ κ m es cl) (hp : m.toL.Perm m'.toL) : MR φ κ m' es cl :=
  ⟨let ⟨l, h1, h2, h3⟩ := h.ent; ⟨l, h1.trans hp, h2, h3⟩, let ⟨s, hs⟩ := h.sort; ⟨s, fun p hm => hs p (hp.mem_iff.2 hm)⟩, (hp.map _).nodup_iff.1 h.nodup, h.born⟩
section
variable {P : Program} {B : Fz} {φ : Emb} {σ σ' : Hp} {h h' : Array Obj}
/-- Blocks that the machine knows nothing of may turn, and come. -/
theorem Rel.beside (r : Rel P B φ σ h) (hs : h.size ≤ h'.size) (hc : ∀ b, csz h b ≤ csz h' b) (he : ∀ β b d, φ β = some (b, d) → h'[b]? = h[b]?) : Rel P B φ σ h' where
  fresh := r.fresh
  low β b d hb := let ⟨h1, h2⟩ := r.low β b d hb; ⟨h1, by omega⟩
  blk β b d hb := let ⟨k, h1, h2⟩ := r.blk β b d hb; ⟨k, h1, h2.mono φ.le_refl hc (he β b d hb)⟩
  inj := r.inj
  olds := r.olds
/-- Another map of the same rows. -/
theorem Rel.mapPerm (r : Rel P B φ σ h) {s : Ad} {m m' : AMap} (hg : σ.get s = some (.mp m)) (hp : m.toL.Perm m'.toL) (hg' : ∀ γ, σ'.get γ = if γ = s then some (.mp m') else σ.get γ) (hn : σ'.nx = σ.nx) : Rel P B φ σ' h where
  fresh β y hy := by rw [hn]; exact r.fresh β y hy
  low β b d hb := ⟨fun hB => by
    obtain ⟨k0, e0, dd⟩ := (r.low β b d hb).1 hB
    rw [hg']
    by_cases hs : β = s
    · subst hs; rw [hg] at e0; cases e0; exact dd.elim
    · rw [if_neg hs]; exact ⟨k0, e0, dd⟩, (r.low β b d hb).2⟩
  blk β b d hb := by
    obtain ⟨k, h1, h2⟩ := r.blk β b d hb
    rw [hg']
    by_cases hs : β = s
    · subst hs
      rw [hg] at h1; cases h1
      rw [if_pos rfl]
      cases h2 with
      | mp _ _ es cl hw hm => exact ⟨_, rfl, .mp _ _ es cl hw (hm.perm hp)⟩
    · rw [if_neg hs]; exact ⟨k, h1, h2⟩
  inj β γ b d d' k g h1 h2 h3 h4 h5 := by
    have conv : ∀ ε ke, σ'.get ε = some ke → ∃ k0, σ.get ε = some k0 ∧ (k0.isDead → ke.isDead) ∧ (∀ x, x ∈ k0.olds → x ∈ ke.olds) := fun ε ke hk => by
      rw [hg'] at hk
      by_cases hs : ε = s
      · subst hs; rw [if_pos rfl] at hk; cases hk
        exact ⟨_, hg, (fun hh => hh), fun x hx => hx⟩
      · rw [if_neg hs] at hk; exact ⟨ke, hk, id, fun _ hx => hx⟩
    obtain ⟨k0, q1, q2, q3⟩ := conv _ _ h4
    obtain ⟨g0, p1, p2, p3⟩ := conv _ _ h5
    rcases r.inj β γ b d d' k0 g0 h1 h2 h3 q1 p1 with h | h | h | h
    · exact .inl (q2 h)
    · exact .inr (.inl (p2 h))
    · exact .inr (.inr (.inl (q3 _ h)))
    · exact .inr (.inr (.inr (p3 _ h)))
  olds β b d k γ h1 h2 h3 := by
    rw [hg'] at h2
    by_cases hs : β = s
    · subst hs; rw [if_pos rfl] at h2; cases h2; cases h3
    · rw [if_neg hs] at h2
      obtain ⟨b', d', g, q1, q2, q3⟩ := r.olds β b d k γ h1 h2 h3
      by_cases hs2 : γ = s
      · subst hs2
        rw [hg] at q2; cases q2
        refine ⟨b', d', .mp m', q1, by rw [hg', if_pos rfl], ?_⟩
        rcases q3 with q3 | q3
        · exact q3.elim
        · exact q3.1.elim
      · exact ⟨b', d', g, q1, by rw [hg', if_neg hs2]; exact q2, q3⟩
end
/-! ### Steps of a region -/
theorem ops_step {P : Program} {ro : Option Nat} {ops : Array Oper} {Q : Exit → Act → World → Prop} {i : Nat} {rest : List Nat} {a : Act} {w w' : World} {o : Oper} {v : Value} (ho : ops[i]? = some o) (hg : o.guard = none) (hd : ∀ c, o.op ≠ .defer c)
    (hr : (execOp a.eval o).run P w = .ok (.value v) w') (h : wpOpsIn (FW ro) 0 P ops Q rest (a.put o.dst v) w') : wpOpsIn (FW ro) 0 P ops Q (i :: rest) a w := by
  simp only [wpOpsIn, ho]
  have hw : Region.wanted o (yielded ops a.tmps) = true := by unfold Region.wanted; rw [hg]
  rw [if_pos hw]
  refine ⟨fun _ _ => trivial, ?_⟩
  rw [Oper.semAt_eq _ _ _ hd, hr]
  exact h
theorem ops_skip {P : Program} {ro : Option Nat} {ops : Array Oper} {Q : Exit → Act → World → Prop} {i : Nat} {rest : List Nat} {a : Act} {w w' : World} {o : Oper} (ho : ops[i]? = some o) (hg : o.guard = none) (hd : ∀ c, o.op ≠ .defer c)
    (hr : (execOp a.eval o).run P w = .ok .skip w') (h : wpOpsIn (FW ro) 0 P ops Q rest (a.put o.dst undef) w') : wpOpsIn (FW ro) 0 P ops Q (i :: rest) a w := by
  simp only [wpOpsIn, ho]
  have hw : Region.wanted o (yielded ops a.tmps) = true := by unfold Region.wanted; rw [hg]
  rw [if_pos hw]
  refine ⟨fun _ _ => trivial, ?_⟩
  rw [Oper.semAt_eq _ _ _ hd, hr]
  exact h
theorem exec_op {ρ : Operand → Value} {o : Oper} {op : Op} (h : o.op = op) : execOp ρ o = execOp ρ { dst := none, op := op, type := o.type, pos := "", after := #[], guard := none } := by
  obtain ⟨dst, op', ty, pos, after, guard⟩ := o
  subst h
  rfl
/-- One operation of a region, told by what it is and where its value goes. -/
theorem ops_val {P : Program} {ro : Option Nat} {ops : Array Oper} {Q : Exit → Act → World → Prop} {i : Nat} {rest : List Nat} {a : Act} {w : World} {o : Oper} (dst : Option Tmp) (op : Op) (v : Value) (w' : World) (ho : ops[i]? = some o) (hg : o.guard = none) (hop : o.op = op) (hdst : o.dst = dst) (hd : ∀ c, op ≠ .defer c)
    (hr : (execOp a.eval { dst := none, op := op, type := o.type, pos := "", after := #[], guard := none }).run P w = .ok (.value v) w') (h : wpOpsIn (FW ro) 0 P ops Q rest (a.put dst v) w') : wpOpsIn (FW ro) 0 P ops Q (i :: rest) a w := by
  subst hdst
  exact ops_step ho hg (by rw [hop]; exact hd) (by rw [exec_op hop]; exact hr) h
theorem ops_unit {P : Program} {ro : Option Nat} {ops : Array Oper} {Q : Exit → Act → World → Prop} {i : Nat} {rest : List Nat} {a : Act} {w : World} {o : Oper} (op : Op) (w' : World) (ho : ops[i]? = some o) (hg : o.guard = none) (hop : o.op = op) (hdst : o.dst = none) (hd : ∀ c, op ≠ .defer c)
    (hr : (execOp a.eval { dst := none, op := op, type := o.type, pos := "", after := #[], guard := none }).run P w = .ok .skip w') (h : wpOpsIn (FW ro) 0 P ops Q rest a w') : wpOpsIn (FW ro) 0 P ops Q (i :: rest) a w :=
  ops_skip ho hg (by rw [hop]; exact hd) (by rw [exec_op hop]; exact hr) (by rw [hdst]; exact h)
theorem v_run {P : Program} {s : Sem Value} {r : Value} {w w' : World} (h : s.run P w = .ok r w') : (do Pure.pure (Next.value (← s)) : Sem Next).run P w = .ok (.value r) w' := by simp [h]
theorem u_run {P : Program} {s : Sem Unit} {w w' : World} (h : s.run P w = .ok () w') : (do s; Pure.pure Next.skip : Sem Next).run P w = .ok .skip w' := by simp [h]
theorem nilCheck_run {P : Program} {ρ : Operand → Value} {x : Operand} {A : Addr} {w : World} {ty : TypeId} (h : ρ x = .pointer (some A)) : (execOp ρ { dst := none, op := .nilCheck x, type := ty, pos := "", after := #[], guard := none }).run P w = .ok (.value (.pointer (some A))) w := by
  simp only [execOp, h]
  rfl
theorem put_size (a : Act) (d : Option Tmp) (v : Value) : (a.put d v).tmps.size = a.tmps.size := by cases d <;> simp [Act.put]
theorem eval_put_same {a : Act} {u : Nat} {v : Value} (h : u < a.tmps.size) : (a.put (some u) v).eval (.tmp u) = v := by
  simp [Act.eval, Act.put, Array.getElem?_setIfInBounds, h]
theorem eval_put_ne {a : Act} {u u' : Nat} {v : Value} (h : u' ≠ u) : (a.put (some u) v).eval (.tmp u') = a.eval (.tmp u') := by
  simp [Act.eval, Act.put, Array.getElem?_setIfInBounds, Ne.symm h]
theorem eval_const {a : Act} {v : Value} : a.eval (.const v) = v := rfl
theorem tmps_put_ne {a : Act} {u i : Nat} {v : Value} (h : i ≠ u) : (a.put (some u) v).tmps[i]? = a.tmps[i]? := by
  simp only [Act.put]; rw [Array.getElem?_setIfInBounds, if_neg (Ne.symm h)]
/-! ### The iterator -/
/-- 'next', wherever the iterator lies. -/
theorem run_next_at {P : Program} {w : World} {it bm since c0 clock : Nat} {seen : Array Nat} {es : Array MapEntry} {ty : TypeId} (hit : w.heap[it]? = some (.mapIter (some bm) since seen c0)) (hb : w.heap[bm]? = some (.map es clock)) (hold : ∀ x ∈ es.toList, x.born < since) (hsc : since ≤ c0) :
    ((leftOf es seen).size = 0 ∧ (Instr.next (.pointer (some ⟨it, 0, none⟩)) false ty).run P w = .ok (.tuple #[.bool false]) w) ∨
    ∃ e ∈ (leftOf es seen).toList, ∃ w1 : World, w1.heap = hset w.heap it (.mapIter (some bm) since (seen.push e.born) clock) ∧ Same w w1 ∧ (Instr.next (.pointer (some ⟨it, 0, none⟩)) false ty).run P w = .ok (.tuple #[.bool true, e.key, e.val]) w1 := by
  simp only [Instr.next, getObj, Sem.run_bind, Sem.run, hit, hb, Result.andThen, next_test_false seen es since c0 hold hsc, Bool.false_eq_true, if_false]
  unfold leftOf
  have hmem : ∀ x ∈ (Array.filter (fun e => !seen.contains e.born) es).toList, x.born < since := fun x hx => hold x (by simp at hx ⊢; exact hx.1)
  generalize Array.filter (fun e => !seen.contains e.born) es = L at hmem ⊢
  have e1 : L.filter (fun x => decide (x.born < since)) = L := Array.filter_eq_self.2 (fun x hx => by simpa using hmem x (by simpa using hx))
  have e2 : L.filter (fun x => decide (x.born ≥ since)) = #[] := by
    rw [Array.filter_eq_empty_iff]
    intro x hx
    have := hmem x (by simpa using hx)
    simp
    omega
  simp only [e1, e2, Array.append_empty]
  by_cases h0 : L.size = 0
  · left
    have : L = #[] := Array.eq_empty_of_size_eq_zero h0
    subst this
    refine ⟨rfl, ?_⟩
    simp [choose, Sem.run, Question.forced]
  · right
    have hne : L.isEmpty = false := by simp [Array.isEmpty, h0]
    simp only [hne, Bool.false_eq_true, if_false, Array.empty_append, Array.size_map]
    have hch : ∃ (j : Nat) (w1 : World), j < L.size ∧ w1.heap = w.heap ∧ Same w w1 ∧ (choose (Question.mapNext L.size)).run P w = .ok j w1 := by
      by_cases hf : L.size ≤ 1
      · exact ⟨0, w, by omega, rfl, .refl _, by simp [choose, Sem.run, Question.forced, hf]⟩
      · exact ⟨_, w.drew, Nat.mod_lt _ (by omega), rfl, ⟨rfl, rfl, rfl⟩, by
          simp only [choose, Sem.run, Question.forced, decide_eq_true_eq, hf, if_false, Question.cut]
          rfl⟩
    obtain ⟨j, w1, hj, hal, hsm, hrun⟩ := hch
    have hsto : ∀ o', (setObj it o').run P w1 = .ok () { w1 with heap := hset w1.heap it o' } := fun o' => by
      simp only [setObj, Sem.run, hal, hit]
      rfl
    refine ⟨L[j], by simp, { w1 with heap := hset w1.heap it (.mapIter (some bm) since (seen.push L[j].born) clock) }, by rw [hal], ⟨hsm.os, hsm.tape, hsm.output⟩, ?_⟩
    simp only [hrun, Array.getElem?_map, Array.getElem?_eq_getElem hj, Option.map_some, Sem.run_bind, hsto, Result.andThen]
    rfl
theorem run_entry_at {P : Program} {w : World} {it bm since clock : Nat} {seen : Array Nat} {es : Array MapEntry} {e : MapEntry} (hit : w.heap[it]? = some (.mapIter (some bm) since (seen.push e.born) clock)) (hb : w.heap[bm]? = some (.map es clock)) (he : e ∈ es.toList) (hn : (es.toList.map (·.born)).Nodup) :
    (Instr.entry (.pointer (some ⟨it, 0, none⟩))).run P w = .ok (.tuple #[e.key, e.val]) w := by
  have hf : es.find? (·.born == e.born) = some e := by rw [← Array.find?_toList]; exact find_born e es.toList hn he
  simp only [Instr.entry, getObj, Sem.run_bind, Sem.run, hit, hb, Result.andThen, Array.back?_push, bne_self_eq_false, Bool.false_eq_true, if_false, hf]
  rfl
theorem mpK_eval {σ : Hp} {β : Ad} {m : AMap} (h : σ.get β = some (.mp m)) (k : AMap → Bool) : σ.mpK β k = k m := by
  unfold Hp.mpK Hp.getK
  rw [show PT.get β σ.t = some (.mp m) from h]
  rfl
/-- A value is put into a map: the one block that turns. -/
theorem mapUpdate_at {P : Program} {M K E : TypeId} (hM : P.underlying M = some (.map K E)) {sb : Bool} (hK : keyOk P K = some sb) {σ : Hp} {s : Ad} {m : AMap} {key v : AV} {o : Option IntKind} (ho : keySort key = some o) (hs : sb = true ↔ o = none) (hsort : ∀ p ∈ m.toL, keySort p.1 = some o)
    (hg : σ.get s = some (.mp m)) {B : Fz} {φ : Emb} {w : World} {b : Nat} {kv vv : Value} (r : Rel P B φ σ w.heap) (hβ : φ s = some (b, 0)) (hkv : VR φ (csz w.heap) key kv) (hvv : VR φ (csz w.heap) v vv) :
    ∃ es' cl', (Instr.mapUpdate M (.map (some b)) kv vv).run P w = .ok () { w with heap := hset w.heap b (.map es' cl') } ∧ Rel P B φ (σ.set s (.mp (m.put key v))) (hset w.heap b (.map es' cl')) ∧ Ext B φ σ w.heap φ (σ.set s (.mp (m.put key v))) (hset w.heap b (.map es' cl')) := by
  obtain ⟨d, hd, hso⟩ := keyOk_sort hK hs
  obtain ⟨m', hk4, hm'⟩ := putK_true (a := key) (v := v) (m := m) (k := open Classical in fun m' => decide (m' = m.put key v)) (by rw [putK_eval ho _ hsort]; simp)
  have hmm : m' = m.put key v := by simpa using hk4
  subst hmm
  obtain ⟨_, es, cl, hw, hmr⟩ := r.map hβ hg
  have hck : (Instr.checkKey false 10000 K kv).run P w = .ok () w := checkKey_run hd hso
  rcases hmr.find hkv ho hso hsort with ⟨i, hi, l, hl, hp, hls, hr, ha, hf⟩ | ⟨hno, hf⟩
  · rcases hm' with ⟨p1, u, p2, h1, h2⟩ | ⟨h1, h2⟩
    · have hmr' := hmr.upd h1 h2 hl hp hls hr ha hkv hvv
      obtain ⟨r', x'⟩ := r.setMap hβ hg hw hmr'
      refine ⟨_, _, ?_, r', x'⟩
      have hsame : Instr.sameBits 10000 es[i].key kv = true := sameBits_s (a := key) (by rw [ho]; simp) (by have := (hr i hl hi).1; rwa [ha] at this) hkv
      have hset' := run_setObj_map (P := P) (es' := es.modify i fun e => { e with key := kv, val := vv }) (cl' := cl) hw
      simp [Instr.mapUpdate, underlying, hM, run_getObj_map hw, hck, Instr.findKey, hd, hf, Instr.keyThatStays, hi, hsame, hset']
    · exact absurd ha (h1 _ (hp.mem_iff.1 (List.getElem_mem hl))).1
  · rcases hm' with ⟨p1, u, p2, h1, h2⟩ | ⟨h1, h2⟩
    · exact absurd rfl (hno (key, u) (by rw [h1]; simp))
    · have hmr' := hmr.push ho h1 h2 hkv hvv
      obtain ⟨r', x'⟩ := r.setMap hβ hg hw hmr'
      refine ⟨_, _, ?_, r', x'⟩
      have hset' := run_setObj_map (P := P) (es' := es.push { key := kv, val := vv, born := cl }) (cl' := cl + 1) hw
      simp [Instr.mapUpdate, underlying, hM, run_getObj_map hw, hck, Instr.findKey, hd, hf, hset']
theorem inBlock_exit {id : Nat} {Q : Exit → Act → World → Prop} {a : Act} {w : World} (h : Q .normal a w) : Exit.inBlock id Q (.exit id) a w := by simp [Exit.inBlock, h]
theorem op_val {P : Program} {ro : Option Nat} {ops : Array Oper} {Q : Exit → Act → World → Prop} {i : Nat} {K : Act → World → Prop} {a : Act} {w : World} {o : Oper} (dst : Option Tmp) (op : Op) (v : Value) (w' : World) (ho : ops[i]? = some o) (hg : o.guard = none) (hop : o.op = op) (hdst : o.dst = dst) (hd : ∀ c, op ≠ .defer c)
    (hr : (execOp a.eval { dst := none, op := op, type := o.type, pos := "", after := #[], guard := none }).run P w = .ok (.value v) w') (h : K (a.put dst v) w') : wpOpIn (FW ro) 0 P ops Q i K a w := by
  unfold wpOpIn
  simp only [ho]
  have hw : Region.wanted o (yielded ops a.tmps) = true := by unfold Region.wanted; rw [hg]
  rw [if_pos hw]
  refine ⟨fun _ _ => trivial, ?_⟩
  rw [Oper.semAt_eq _ _ _ (by rw [hop]; exact hd), exec_op hop, hr]
  subst hdst
  exact h
theorem op_unit {P : Program} {ro : Option Nat} {ops : Array Oper} {Q : Exit → Act → World → Prop} {i : Nat} {K : Act → World → Prop} {a : Act} {w : World} {o : Oper} (op : Op) (w' : World) (ho : ops[i]? = some o) (hg : o.guard = none) (hop : o.op = op) (hdst : o.dst = none) (hd : ∀ c, op ≠ .defer c)
    (hr : (execOp a.eval { dst := none, op := op, type := o.type, pos := "", after := #[], guard := none }).run P w = .ok .skip w') (h : K a w') : wpOpIn (FW ro) 0 P ops Q i K a w := by
  unfold wpOpIn
  simp only [ho]
  have hw : Region.wanted o (yielded ops a.tmps) = true := by unfold Region.wanted; rw [hg]
  rw [if_pos hw]
  refine ⟨fun _ _ => trivial, ?_⟩
  rw [Oper.semAt_eq _ _ _ (by rw [hop]; exact hd), exec_op hop, hr]
  show K (a.put o.dst undef) w'
  rw [hdst]
  exact h
theorem yields_val {P : Program} {ops : Array Oper} {a : Act} {o : Oper} (op : Op) (v : Value) (hg : o.guard = none) (hop : o.op = op) (hnc : ∀ c, op ≠ .call c) (hr : ∀ w, (execOp a.eval { dst := none, op := op, type := o.type, pos := "", after := #[], guard := none }).run P w = .ok (.value v) w) : YieldsFenced P ops o v a := by
  refine ⟨.inl ⟨by unfold Region.wanted; rw [hg], fun w => by rw [exec_op hop]; exact hr w⟩, fun w => ?_⟩
  unfold Oper.about
  rw [hop]
  cases op <;> first | rfl | exact absurd rfl (hnc _)
theorem alloc_size (w : World) (o : Obj) : (w.alloc o).heap.size = w.heap.size + 1 := by
  show (w.heap.push o).size = _
  simp
theorem alloc_le (w : World) (o : Obj) : w.heap.size ≤ (w.alloc o).heap.size := by rw [alloc_size]; exact Nat.le_succ _
theorem putL_all {zs : Array Value} {xs : List Value} (h : zs.size = xs.length) : putL zs 0 xs = xs.toArray := by
  apply Array.ext_getElem?
  intro i
  rw [putL_get _ _ _ _ (by omega)]
  by_cases hi : i < xs.length
  · rw [if_pos (by omega)]; simp
  · rw [if_neg (by omega), Array.getElem?_eq_none (by omega), Array.getElem?_eq_none (by simp; omega)]
theorem loadAgg {P : Program} {T : TypeId} {w : World} {b : Nat} {xs : Array Value} {e : TypeId} {fz : Nat × Nat} (hT : aggOf P T = some true) (hn : szOf P T = some xs.size) (hw : w.heap[b]? = some (.cells xs e fz)) : (Instr.loadAt T (.pointer (some ⟨b, 0, none⟩))).run P w = .ok (.agg xs) w := by
  have hrun := Reads.run (P := P) (w := w) (base := some ⟨b, 0, none⟩) (n := xs.size) (xs := xs.toList) (.inr ⟨b, 0, xs, e, fz, rfl, hw, by omega, by rw [List.drop_zero, List.take_of_length_le (by simp)]⟩) (size := 1) (k := xs.size) (len := 0) (cap := 0) (Nat.mul_one _)
  simp only [Builtin.firstCells, Nat.mul_one] at hrun
  simp only [Instr.loadAt, Instr.sureAddr, loadVar, Sem.run_bind, aggOf_run hT, Sem.run_pure, Result.andThen_ok, if_true, szOf_run hn, hrun]
theorem storeAgg {P : Program} {T : TypeId} {w w' : World} {b n : Nat} {xs : Array Value} (hn : szOf P T = some n) (hx : xs.size = n) (hst : (storeCells ⟨b, 0, none⟩ xs.toList).run P w = .ok () w') : (Instr.storeAt T (.pointer (some ⟨b, 0, none⟩)) (.agg xs)).run P w = .ok () w' := by
  simp [Instr.storeAt, Instr.sureAddr, storeVar, Value.cells, szOf_run hn, hst, hx]
theorem allocVar {P : Program} {T : TypeId} {w : World} {zv : Value} (hz : zeroOf P T = some zv) : (Instr.alloc T true (.tuple #[])).run P w = .ok (.pointer (some ⟨w.heap.size, 0, none⟩)) (w.alloc (.cells zv.cells T)) := by
  simp [Instr.alloc, zeroOf_run hz, newVar, newRow]
/-- Of a region that draws its order: a step that asks nothing of the heap is taken first. -/
theorem take_val {P : Program} {ops : Array Oper} {fuel : Nat} {listed : Array Bool} {a : Act} {w : World} {Q : Exit → Act → World → Prop} (i : Nat) (dst : Option Tmp) (op : Op) (v : Value) {o : Oper} (hi : ops[i]? = some o) (hg : o.guard = none) (hop : o.op = op) (hdst : o.dst = dst)
    (hs : Region.noSelect ops = true) (hf : Region.free .any ops listed i = true) (hr : (Region.ready .any ops listed).contains i = true) (hnc : ∀ c, op ≠ .call c) (hQ : ∀ c a w, ¬ Q (.panic c) a w)
    (hrun : ∀ w, (execOp a.eval { dst := none, op := op, type := o.type, pos := "", after := #[], guard := none }).run P w = .ok (.value v) w)
    (h : wpAnyIn (FW none) 0 P .any ops Q fuel (listed.setIfInBounds i true) (a.put dst v) w) : wpAnyIn (FW none) 0 P .any ops Q (fuel + 1) listed a w := by
  subst hdst
  exact wpAnyIn_take rfl hi hs hf hr (fun c A W hh => (hQ c _ W hh).elim) (yields_val op v hg hop hnc hrun) h
end Go.Am
