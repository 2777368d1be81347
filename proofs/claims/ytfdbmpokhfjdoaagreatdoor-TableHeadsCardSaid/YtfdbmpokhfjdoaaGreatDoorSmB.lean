import Derived.Test.YtfdbmpokhfjdoaaGreatDoorAmS26
import Derived.Test.YtfdbmpokhfjdoaaGreatDoorChecked
set_option linter.unusedVariables false
set_option linter.unusedSimpArgs false
namespace Go.Am
open Go Go.Proofs
/-! ### A map put over another one -/
noncomputable def i64K (k : Bool) (m : AMap) : Bool := AMap.rec (motive := fun _ => Bool) k (fun x _ _ ih => x.asInt fun q _ => sel (kEq q .i64) ih false) m
noncomputable def aggsK (n : Nat) (k : Bool) (m : AMap) : Bool := AMap.rec (motive := fun _ => Bool) k (fun _ v _ ih => v.asAgg fun n' _ => sel (Nat.beq n n') ih false) m
noncomputable def mergeK (a b : AMap) (k : AMap → Bool) : Bool :=
  AMap.rec (motive := fun _ => AMap → (AMap → Bool) → Bool) (fun b k => k b) (fun x v _ ih b k => b.putK x v fun b => ih b k) a b k
noncomputable def merge : AMap → AMap → AMap
  | .nil, b => b
  | .cons x v r, b => merge r (b.put x v)
theorem i64K_true {k : Bool} {m : AMap} (h : i64K k m = true) : k = true ∧ ∀ p ∈ m.toL, keySort p.1 = some (some .i64) := by
  induction m with
  | nil => exact ⟨h, fun p hp => by cases hp⟩
  | cons x v r ih =>
    have h' : x.asInt (fun q _ => sel (kEq q .i64) (i64K k r) false) = true := h
    have fin : keySort x = some (some .i64) → i64K k r = true → k = true ∧ ∀ p ∈ (AMap.cons x v r).toL, keySort p.1 = some (some .i64) := fun h1 h2 => by
      obtain ⟨q1, q2⟩ := ih h2
      refine ⟨q1, fun p hp => ?_⟩
      rcases List.mem_cons.1 hp with rfl | hp
      · exact h1
      · exact q2 p hp
    rcases AV.asInt_true h' with ⟨q, n, rfl, h1⟩ | ⟨q, n, rfl, h1⟩ <;> obtain ⟨h2, h3⟩ := sel_yes h1 <;> rw [kEq_eq, decide_eq_true_iff] at h2 <;> subst h2 <;> exact fin rfl h3
theorem aggsK_true {n : Nat} {k : Bool} {m : AMap} (h : aggsK n k m = true) : k = true ∧ ∀ p ∈ m.toL, ∃ c, p.2 = .agg n c := by
  induction m with
  | nil => exact ⟨h, fun p hp => by cases hp⟩
  | cons x v r ih =>
    have h' : v.asAgg (fun n' _ => sel (Nat.beq n n') (aggsK n k r) false) = true := h
    obtain ⟨n', c, rfl, h1⟩ := AV.asAgg_true h'
    obtain ⟨h2, h3⟩ := sel_yes h1
    have : n = n' := Nat.eq_of_beq_eq_true h2
    subst this
    obtain ⟨q1, q2⟩ := ih h3
    refine ⟨q1, fun p hp => ?_⟩
    rcases List.mem_cons.1 hp with rfl | hp
    · exact ⟨c, rfl⟩
    · exact q2 p hp
theorem put_sorts {a v : AV} {o : Option IntKind} {m : AMap} (ha : keySort a = some o) (h : ∀ p ∈ m.toL, keySort p.1 = some o) : ∀ p ∈ (m.put a v).toL, keySort p.1 = some o := fun p hp => by
  rcases put_keys a v m p hp with e | ⟨u, e⟩
  · rw [e]; exact ha
  · exact h (p.1, u) e
theorem put_nodup {a v : AV} : ∀ {m : AMap}, (m.toL.map (·.1)).Nodup → ((m.put a v).toL.map (·.1)).Nodup := by
  intro m
  induction m with
  | nil => intro _; simp [AMap.put, AMap.toL]
  | cons b u r ih =>
    intro h
    simp only [AMap.toL, List.map_cons, List.nodup_cons] at h
    rw [put_cons]
    by_cases hb : b = a
    · rw [if_pos hb]
      simp only [AMap.toL, List.map_cons, List.nodup_cons]
      exact h
    · rw [if_neg hb]
      simp only [AMap.toL, List.map_cons, List.nodup_cons]
      refine ⟨fun hm => ?_, ih h.2⟩
      obtain ⟨p, hp, hpe⟩ := List.mem_map.1 hm
      rcases put_keys a v r p hp with e | ⟨u', e⟩
      · exact hb (by rw [← hpe, e])
      · exact h.1 (by rw [← hpe]; exact List.mem_map.2 ⟨(p.1, u'), e, rfl⟩)
theorem mergeK_eval : ∀ (a b : AMap) (k : AMap → Bool) {o : Option IntKind}, (∀ p ∈ a.toL, keySort p.1 = some o) → (∀ p ∈ b.toL, keySort p.1 = some o) → mergeK a b k = k (merge a b) := by
  intro a
  induction a with
  | nil => intro b k o _ _; rfl
  | cons x v r ih =>
    intro b k o ha hb
    show AMap.putK x v b (fun b => mergeK r b k) = _
    have hx := ha (x, v) (by simp [AMap.toL])
    rw [putK_eval hx _ hb]
    exact ih _ k (fun p hp => ha p (by simp [AMap.toL, hp])) (put_sorts hx hb)
theorem merge_nodup : ∀ (a b : AMap), (b.toL.map (·.1)).Nodup → ((merge a b).toL.map (·.1)).Nodup
  | .nil, b, h => h
  | .cons x v r, b, h => merge_nodup r _ (put_nodup h)
theorem merge_look : ∀ (a b : AMap) (c : AV), (a.toL.map (·.1)).Nodup → (merge a b).look c = match a.look c with | some v => some v | none => b.look c
  | .nil, b, c, _ => rfl
  | .cons x v r, b, c, h => by
    simp only [AMap.toL, List.map_cons, List.nodup_cons] at h
    unfold merge
    rw [merge_look r _ c h.2, put_look]
    simp only [AMap.look]
    by_cases hx : x = c
    · subst hx
      have : r.look x = none := by
        cases hr : r.look x with
        | none => rfl
        | some u => exact absurd (List.mem_map_of_mem (f := Prod.fst) (look_mem hr)) h.1
      simp [this]
    · simp [hx]
/-! ### Temporaries that nobody asks for -/
noncomputable def nilK : List Nat → Regs → (Regs → Bool) → Bool :=
  List.rec (motive := fun _ => Regs → (Regs → Bool) → Bool) (fun t k => k t) (fun i _ ih t k => (regW i).setK t .nil fun t => ih t k)
noncomputable def nilT : List Nat → Regs → Regs
  | [], t => t
  | i :: l, t => nilT l (Regs.set t i .nil)
theorem nilK_eval : ∀ (l : List Nat) (t : Regs) (k : Regs → Bool), nilK l t k = k (nilT l t)
  | [], t, k => rfl
  | i :: l, t, k => by
    show (regW i).setK t .nil (fun t => nilK l t k) = _
    rw [RegW.setK_eq]
    exact nilK_eval l _ k
theorem nilT_get : ∀ (l : List Nat) (t : Regs) (j : Nat), j < 512 → (∀ i ∈ l, i < 512) → Regs.get (nilT l t) j = if j ∈ l then .nil else t.get j
  | [], t, j, _, _ => by simp [nilT]
  | i :: l, t, j, hj, hl => by
    unfold nilT
    rw [nilT_get l _ j hj fun i hi => hl i (by simp [hi]), Regs.get_set _ _ _ _ (hl i (by simp)) hj]
    by_cases h1 : j ∈ l
    · simp [h1]
    · by_cases h2 : j = i
      · simp [h2]
      · simp [h1, h2]
/-! ### The loop of Sync -/
def loopTmps : List Nat := [4, 5, 13, 14, 15, 16, 17, 18, 19, 20, 21, 22, 23, 24, 25, 26, 27, 28]
noncomputable def syncPatch : CodeF := fun _ _ rd t d σ k => Option.rec (motive := fun _ => Bool)
  ((t.get 0).asPtr fun δ off => loadBlk σ δ (Nat.add off 1) fun sf => loadBlk σ δ (Nat.add off 2) fun op => sf.asMp false fun s => op.asMp false fun o =>
    Ad.beqK s o false (σ.mpK s fun ms => σ.mpK o fun mo => i64K (i64K (aggsK 512 (mergeK mo ms fun m => σ.setK s (.mp m) fun σ => nilK loopTmps t fun t => k .normal t d σ) mo) mo) ms))
  (fun _ => false) rd
def seqL : Code → Code
  | .seq a _ => a
  | c => c
def seqR : Code → Code
  | .seq _ b => b
  | c => c
noncomputable def syncBody : Code := Tryz.f93.body.getD .skip
noncomputable def syncLoop : Code := seqL (seqR (seqR (seqR syncBody)))
theorem syncBody_eq : syncBody = .seq (seqL syncBody) (.seq (seqL (seqR syncBody)) (.seq (seqL (seqR (seqR syncBody))) (.seq syncLoop (seqR (seqR (seqR (seqR syncBody))))))) := rfl
section
theorem T179 : aggOf Tryz.prog 179 = some false := by kernel_rfl
theorem T194 : aggOf Tryz.prog 194 = some true := by kernel_rfl
theorem Z194 : szz Tryz.prog 194 = some 512 := by kernel_rfl
theorem K3 : keyOk Tryz.prog 3 = some false := by kernel_rfl
theorem F1 : ∃ fs f m, Tryz.prog.underlying 181 = some (.struct fs) ∧ fs[1]? = some f ∧ f.offset = 1 ∧ szOf Tryz.prog f.type = some (m + 1) := ⟨_, _, 0, Tryz.underlying181, rfl, rfl, by kernel_rfl⟩
theorem F2 : ∃ fs f m, Tryz.prog.underlying 181 = some (.struct fs) ∧ fs[2]? = some f ∧ f.offset = 2 ∧ szOf Tryz.prog f.type = some (m + 1) := ⟨_, _, 0, Tryz.underlying181, rfl, rfl, by kernel_rfl⟩
theorem G0 : (cxOf Tryz.prog 93).glob 0 = true := by kernel_rfl
theorem N93 : (cxOf Tryz.prog 93).n = 33 := by kernel_rfl
theorem M0 : Tryz.prog.follows .mixedOrders = true := by kernel_rfl
end
/-- The values of a map that is gone through, put into another one so far. -/
structure SoFar (l : List (AV × AV)) (es : Array MapEntry) (ms : AMap) (seen : Array Nat) (m : AMap) : Prop where
  nodup : (m.toL.map (·.1)).Nodup
  sorts : ∀ p ∈ m.toL, keySort p.1 = some (some .i64)
  hit : ∀ (i : Nat) (p : i < l.length) (q : i < es.size), seen.contains es[i].born = true → m.look l[i].1 = some l[i].2
  miss : ∀ c, (∀ (i : Nat) (p : i < l.length) (q : i < es.size), seen.contains es[i].born = true → l[i].1 ≠ c) → m.look c = ms.look c
theorem nodup_inj {α : Type} {l : List α} (h : l.Nodup) {i j : Nat} (hi : i < l.length) (hj : j < l.length) (e : l[i] = l[j]) : i = j := by
  rw [List.nodup_iff_pairwise_ne, List.pairwise_iff_getElem] at h
  rcases Nat.lt_trichotomy i j with h1 | h1 | h1
  · exact absurd e (h i j hi hj h1)
  · exact h1
  · exact absurd e.symm (h j i hj hi h1)
theorem SoFar.step {l : List (AV × AV)} {es : Array MapEntry} {ms m : AMap} {seen : Array Nat} (h : SoFar l es ms seen m) (hl : (l.map (·.1)).Nodup) (hb : (es.toList.map (·.born)).Nodup) {i : Nat} (hi : i < l.length) (hq : i < es.size) (hs : keySort l[i].1 = some (some .i64)) :
    SoFar l es ms (seen.push es[i].born) (m.put l[i].1 l[i].2) := by
  have keys : ∀ (j : Nat) (p : j < l.length), l[j].1 = l[i].1 → j = i := fun j p e => nodup_inj hl (by simpa using p) (by simpa using hi) (by simpa using e)
  have borns : ∀ (j : Nat) (q : j < es.size), es[j].born = es[i].born → j = i := fun j q e => nodup_inj hb (by simpa using q) (by simpa using hq) (by simpa using e)
  refine ⟨put_nodup h.nodup, put_sorts hs h.sorts, fun j p q hc => ?_, fun c hc => ?_⟩
  · rw [put_look]
    by_cases hk : l[i].1 = l[j].1
    · have := keys j p hk.symm
      subst this
      simp
    · rw [if_neg hk]
      refine h.hit j p q ?_
      simp only [Array.contains_eq_mem, Array.mem_push, decide_eq_true_eq] at hc ⊢
      rcases hc with hc | hc
      · exact hc
      · have := borns j q hc
        subst this
        exact absurd rfl hk
  · rw [put_look]
    have hi' : l[i].1 ≠ c := hc i hi hq (by simp)
    rw [if_neg hi']
    exact h.miss c fun j p q hj => hc j p q (by simp only [Array.contains_eq_mem, Array.mem_push, decide_eq_true_eq] at hj ⊢; exact .inl hj)
theorem SoFar.perm {l : List (AV × AV)} {es : Array MapEntry} {ms mo m : AMap} {seen : Array Nat} (h : SoFar l es ms seen m) (hp : l.Perm mo.toL) (hlen : l.length = es.size) (ho : (mo.toL.map (·.1)).Nodup) (hs : (ms.toL.map (·.1)).Nodup)
    (hall : (leftOf es seen).size = 0) : m.toL.Perm (merge mo ms).toL := by
  have hdone : ∀ (i : Nat) (q : i < es.size), seen.contains es[i].born = true := fun i q => by
    have h0 : leftOf es seen = #[] := Array.eq_empty_of_size_eq_zero hall
    unfold leftOf at h0
    rw [Array.filter_eq_empty_iff] at h0
    have := h0 es[i] (Array.getElem_mem q)
    simpa using this
  refine toL_perm h.nodup (merge_nodup _ _ hs) fun c => ?_
  rw [merge_look _ _ _ ho]
  cases hc : mo.look c with
  | some v =>
    have hm := hp.mem_iff.2 (look_mem hc)
    obtain ⟨j, hj, hje⟩ := List.getElem_of_mem hm
    have := h.hit j hj (by omega) (hdone j (by omega))
    rw [hje] at this
    exact this
  | none =>
    refine h.miss c fun j p q _ e => ?_
    have hm := hp.mem_iff.1 (List.getElem_mem p)
    have := mem_look ho (a := l[j].1) (v := l[j].2) hm
    rw [e, hc] at this
    cases this
set_option maxHeartbeats 4000000 in
set_option maxRecDepth 100000 in
theorem sync_cw {ih : Lv} : CW Tryz.prog ih 93 (.mk syncPatch) syncLoop := by
  intro rd t d σ k hk
  cases rd with
  | some β => cases hk
  | none =>
  have hk0 : (t.get 0).asPtr (fun δ off => loadBlk σ δ (Nat.add off 1) fun sf => loadBlk σ δ (Nat.add off 2) fun op => sf.asMp false fun s => op.asMp false fun o =>
    Ad.beqK s o false (σ.mpK s fun ms => σ.mpK o fun mo => i64K (i64K (aggsK 512 (mergeK mo ms fun m => σ.setK s (.mp m) fun σ => nilK loopTmps t fun t => k .normal t d σ) mo) mo) ms)) = true := hk
  obtain ⟨δ, off, ht0, hk1⟩ := AV.asPtr_true hk0
  obtain ⟨sf, hk2, hl1⟩ := loadBlk_sound hk1
  obtain ⟨op, hk3, hl2⟩ := loadBlk_sound hk2
  rcases AV.asMp_true hk3 with ⟨_, hx⟩ | ⟨s, rfl, hk4⟩
  · cases hx
  rcases AV.asMp_true hk4 with ⟨_, hx⟩ | ⟨o, rfl, hk5⟩
  · cases hx
  rw [Ad.beqK_eq] at hk5
  split at hk5
  · cases hk5
  rename_i hso
  obtain ⟨ms, hgs, hk6⟩ := Hp.mpK_true hk5
  obtain ⟨mo, hgo, hk7⟩ := Hp.mpK_true hk6
  obtain ⟨hk8, hsorts⟩ := i64K_true hk7
  obtain ⟨hk9, hsorto⟩ := i64K_true hk8
  obtain ⟨hk10, hagg⟩ := aggsK_true hk9
  rw [mergeK_eval mo ms _ hsorto hsorts, Hp.setK_eq, nilK_eval] at hk10
  refine ⟨.normal, nilT loopTmps t, d, _, hk10, fun {B φ a w ro} r hB he hd hr => ?_⟩
  cases ro with
  | some l => exact hr.elim
  | none =>
  -- what stands
  obtain ⟨x0, hx0, hv0⟩ := he.get 0 G0
  have ht0' : t.get 0 = .ptr δ off := ht0
  rw [ht0'] at hv0
  have hsz : 33 ≤ a.tmps.size := by have := he.size; rw [N93] at this; exact this
  cases hv0 with
  | ptr _ _ b dd hφ =>
  have ev0 : ∀ {a' : Act}, a'.tmps[0]? = a.tmps[0]? → a'.eval (.tmp 0) = .pointer (some ⟨b, dd + off, none⟩) := fun {a'} h => by simp [Act.eval, h, hx0]
  obtain ⟨cs1, e1, fz1, v1, hw1, hc1, _, hv1⟩ := hl1 r hφ
  obtain ⟨cs2, e2, fz2, v2, hw2, hc2, _, hv2⟩ := hl2 r hφ
  cases hv1 with
  | map _ sb hsb =>
  cases hv2 with
  | map _ ob hob =>
  obtain ⟨gs, hgs', hbs⟩ := r.blk _ _ _ hsb
  rw [hgs] at hgs'; cases hgs'
  obtain ⟨go, hgo', hbo⟩ := r.blk _ _ _ hob
  rw [hgo] at hgo'; cases hgo'
  cases hbs with
  | mp _ _ ess cls hws hms =>
  cases hbo with
  | mp _ _ eso clo hwo hmo =>
  obtain ⟨l, hlp, hlen, hlr⟩ := hmo.ent
  have hlk : (l.map (·.1)).Nodup := (hlp.map (·.1)).nodup_iff.2 hmo.nodup
  have hls : ∀ p ∈ l, keySort p.1 = some (some .i64) := fun p hp => hsorto p (hlp.mem_iff.1 hp)
  have hla : ∀ p ∈ l, ∃ c, p.2 = .agg 512 c := fun p hp => hagg p (hlp.mem_iff.1 hp)
  have himg : ∀ β b' d', φ β = some (b', d') → b' < w.heap.size := fun β b' d' h => (r.low β b' d' h).2
  have hobs : ob ≠ w.heap.size := Nat.ne_of_lt (himg _ _ _ hob)
  -- what is kept from round to round
  let I : Act → World → Prop := fun a1 w1 => ∃ (seen : Array Nat) (ms' : AMap) (σ1 : Hp), a1.tmps.size = a.tmps.size ∧ (∀ i, i ∉ loopTmps → a1.tmps[i]? = a.tmps[i]?) ∧ a1.defers = a.defers ∧ a1.eval (.tmp 17) = .pointer (some ⟨w.heap.size, 0, none⟩) ∧
    w1.heap[w.heap.size]? = some (.mapIter (some ob) clo seen clo) ∧ Rel Tryz.prog B φ σ1 w1.heap ∧ Ext B φ σ w.heap φ σ1 w1.heap ∧ Same w w1 ∧ (∀ γ, σ1.get γ = if γ = s then some (.mp ms') else σ.get γ) ∧ σ1.nx = σ.nx ∧ SoFar l eso ms seen ms' ∧
    w1.heap[ob]? = some (.map eso clo) ∧ w.heap.size < w1.heap.size ∧ ∀ b', b' < w.heap.size → b' ≠ sb → w1.heap[b']? = w.heap[b']?
  have hFA : ∀ (j : Nat) (W : World), (j = 1 ∨ j = 2) → (Instr.fieldAt 181 (.pointer (some ⟨b, dd + off, none⟩)) j).run Tryz.prog W = .ok (.pointer (some ⟨b, dd + off + j, none⟩)) W := fun j W hj => by
    have : ∃ fs f m, Tryz.prog.underlying 181 = some (.struct fs) ∧ fs[j]? = some f ∧ f.offset = j ∧ szOf Tryz.prog f.type = some (m + 1) := by
      rcases hj with rfl | rfl
      · exact F1
      · exact F2
    obtain ⟨fs, f, m, hT, hf, hoff, hm⟩ := this
    simp [Instr.fieldAt, underlying, hT, hf, Instr.sureAddr, fieldPlace, szOf_run hm, Addr.add_none, hoff]
  have hI : ∀ a1 w1, I a1 w1 → Code.wpIn (FW none) 0 Tryz.prog (seqR syncLoop) (Ended Tryz.prog B φ σ w (cxOf Tryz.prog 93) none .normal (nilT loopTmps t) d (σ.set s (.mp (merge mo ms)))) a1 w1 := by
    intro a0 w0 hI0
    refine wpIn_block (wpIn_loop I (fun _ w1 => (leftOf eso (w1.iterSeen w.heap.size)).size) hI0 ?_)
    rintro a1 w1 ⟨seen, ms', σ1, i1, i2, i3, i4, i5, i6, i7, i8, i9, i10, i11, i12, i13, i14⟩
    refine wpIn_seq (wpIn_region ?_)
    show wpOpsIn _ _ _ _ _ [0, 1] a1 w1
    have hold : ∀ x ∈ eso.toList, x.born < clo := hmo.born.2
    rcases run_next_at (P := Tryz.prog) (ty := 0) i5 i12 hold (Nat.le_refl _) with ⟨h0, hrun⟩ | ⟨e, he1, w2, hw2, hs2, hrun⟩
    · -- all have come
      refine ops_val (some 18) (.next (.tmp 17) false) (.tuple #[.bool false]) w1 rfl rfl rfl rfl (fun c h => by cases h) (v_run (s := Instr.next (a1.eval (.tmp 17)) false _) (by rw [i4]; exact hrun)) ?_
      refine ops_val (some 19) (.extract (.tmp 18) 0) (.bool false) w1 rfl rfl rfl rfl (fun c h => by cases h) (v_run (s := Instr.extract (Act.eval _ (.tmp 18)) 0) (by rw [eval_put_same (by omega)]; rfl)) ?_
      refine wpIn_seq (wpIn_cond_false (eval_put_same (by rw [put_size]; omega)) (wpIn_exit ?_))
      show Exit.inBlock 0 (Ended Tryz.prog B φ σ w (cxOf Tryz.prog 93) none .normal (nilT loopTmps t) d (σ.set s (.mp (merge mo ms)))) (.exit 0) _ _
      refine inBlock_exit ?_
      have hgset : ∀ γ, (σ.set s (.mp (merge mo ms))).get γ = if γ = s then some (.mp (merge mo ms)) else σ1.get γ := fun γ => by
        rw [Hp.get_set, i9]
        by_cases hγ : γ = s
        · simp [hγ]
        · simp [hγ]
      have hrel := i6.mapPerm (s := s) (m := ms') (by rw [i9, if_pos rfl]) (i11.perm hlp hlen hmo.nodup hms.nodup h0) hgset (by rw [Hp.nx_set, i10])
      refine ⟨rfl, ⟨φ, hrel, ⟨i7.le, by rw [Hp.nx_set]; exact Nat.le_refl _, fun β y q1 q2 => absurd (q2.symm.trans q1) (by simp), fun β q1 q2 => ?_, i7.size, i7.csz, i7.low⟩, ?_, ?_⟩, i8⟩
      · refine .inl ?_
        rw [Hp.get_set, if_neg]
        rintro rfl
        rw [hsb] at q1; cases q1
      · refine ⟨?_, fun i hi => ?_⟩
        · have := he.size
          rw [put_size, put_size, i1]; exact this
        · obtain ⟨hi1, hi2⟩ := Cx.glob_lt hi
          rw [N93] at hi2
          rw [nilT_get _ _ _ hi1 (by decide)]
          by_cases him : i ∈ loopTmps
          · rw [if_pos him]
            refine ⟨_, Array.getElem?_eq_getElem (by rw [put_size, put_size, i1]; exact Nat.lt_of_lt_of_le hi2 hsz), .any _⟩
          · rw [if_neg him]
            obtain ⟨x, q1, q2⟩ := he.get i hi
            refine ⟨x, ?_, q2.mono φ.le_refl i7.csz⟩
            rw [tmps_put_ne (by intro e; subst e; exact him (by decide)), tmps_put_ne (by intro e; subst e; exact him (by decide)), i2 i him]
            exact q1
      · rw [put_eta, put_eta, i3]; exact hd
    · -- one comes
      obtain ⟨hem, hes⟩ := mem_left he1
      obtain ⟨i, hi, hie⟩ := List.getElem_of_mem hem
      have hi' : i < eso.size := by simpa using hi
      have hie' : eso[i] = e := by rw [← hie, Array.getElem_toList]
      have hil : i < l.length := by omega
      obtain ⟨vk, vv⟩ := hlr i hil hi'
      rw [hie'] at vk vv
      obtain ⟨cc, hcc⟩ := hla l[i] (List.getElem_mem hil)
      have vv' := vv
      rw [hcc] at vv'
      obtain ⟨xs, hxs, hxn, hxc⟩ := vv'.agg_inv
      have hw2it : w2.heap[w.heap.size]? = some (.mapIter (some ob) clo (seen.push e.born) clo) := by rw [hw2]; exact hset_self i5
      have hw2ob : w2.heap[ob]? = some (.map eso clo) := by rw [hw2, hset_ne hobs]; exact i12
      have hcs2 : ∀ b', csz w1.heap b' ≤ csz w2.heap b' := fun b' => by rw [hw2]; exact csz_loop i5 (fun _ _ _ h => by cases h) b'
      have hsz2 : w2.heap.size = w1.heap.size := by rw [hw2]; simp
      have hr2 : Rel Tryz.prog B φ σ1 w2.heap := i6.beside (by omega) hcs2 fun β b' d' h => by rw [hw2]; exact hset_ne (Nat.ne_of_lt (himg β b' d' h))
      have hx2 : Ext B φ σ w.heap φ σ1 w2.heap := ⟨i7.le, i7.nx, i7.new, i7.frame, by rw [hsz2]; exact i7.size, fun b' => Nat.le_trans (i7.csz b') (hcs2 b'), fun b' hb' => by rw [hw2, hset_ne (Nat.ne_of_lt (hB b' hb'))]; exact i7.low b' hb'⟩
      refine ops_val (some 18) (.next (.tmp 17) false) (.tuple #[.bool true, e.key, e.val]) w2 rfl rfl rfl rfl (fun c h => by cases h) (v_run (s := Instr.next (a1.eval (.tmp 17)) false _) (by rw [i4]; exact hrun)) ?_
      refine ops_val (some 19) (.extract (.tmp 18) 0) (.bool true) w2 rfl rfl rfl rfl (fun c h => by cases h) (v_run (s := Instr.extract (Act.eval _ (.tmp 18)) 0) (by rw [eval_put_same (by omega)]; rfl)) ?_
      refine wpIn_seq (wpIn_cond_true (eval_put_same (by rw [put_size]; omega)) (wpIn_skip ?_))
      refine wpIn_block (wpIn_seq (wpIn_region ?_))
      show wpOpsIn _ _ _ _ _ [0, 1, 2, 3, 4, 5] _ w2
      generalize hA2 : (a1.put (some 18) (.tuple #[.bool true, e.key, e.val])).put (some 19) (.bool true) = a2
      have j1 : a2.tmps.size = a.tmps.size := by rw [← hA2, put_size, put_size, i1]
      have j2 : ∀ i, i ∉ loopTmps → a2.tmps[i]? = a.tmps[i]? := fun i hi => by
        have hne : ∀ u, u ∈ loopTmps → i ≠ u := fun u hu e => hi (by rw [e]; exact hu)
        rw [← hA2, tmps_put_ne (hne 19 (by decide)), tmps_put_ne (hne 18 (by decide)), i2 i hi]
      have j3 : a2.defers = a.defers := by rw [← hA2, put_eta, put_eta, i3]
      have j4 : a2.eval (.tmp 17) = .pointer (some ⟨w.heap.size, 0, none⟩) := by rw [← hA2, eval_put_ne (by decide), eval_put_ne (by decide), i4]
      obtain ⟨it, zv, hit', hits, hitz, hzs, hzo⟩ := szz_inv Z194
      -- the round's own variable
      refine ops_val (some 20) (.entry (.tmp 17)) (.tuple #[e.key, e.val]) w2 rfl rfl rfl rfl (fun c h => by cases h) (v_run (s := Instr.entry (a2.eval (.tmp 17))) (by rw [j4]; exact run_entry_at hw2it hw2ob hem hmo.born.1)) ?_
      refine ops_val (some 21) (.extract (.tmp 20) 0) e.key w2 rfl rfl rfl rfl (fun c h => by cases h) (v_run (s := Instr.extract (Act.eval _ (.tmp 20)) 0) (by rw [eval_put_same (by omega)]; rfl)) ?_
      refine ops_val (some 22) (.extract (.tmp 20) 1) e.val w2 rfl rfl rfl rfl (fun c h => by cases h) (v_run (s := Instr.extract (Act.eval _ (.tmp 20)) 1) (by rw [eval_put_ne (by decide), eval_put_same (by omega)]; rfl)) ?_
      refine ops_val (some 5) (.alloc 194) (.pointer (some ⟨w2.heap.size, 0, none⟩)) (w2.alloc (.cells zv.cells 194)) rfl rfl rfl rfl (fun c h => by cases h) (v_run (s := Instr.alloc 194 true (.tuple #[])) (allocVar hzo)) ?_
      refine ops_val (some 4) (.assign (.tmp 21)) e.key (w2.alloc (.cells zv.cells 194)) rfl rfl rfl rfl (fun c h => by cases h) (by
        show Result.ok (Next.value (Act.eval _ (.tmp 21))) _ = _
        rw [eval_put_ne (by decide), eval_put_ne (by decide), eval_put_same (by rw [put_size]; omega)]) ?_
      have hw3 : (w2.alloc (.cells zv.cells 194)).heap[w2.heap.size]? = some (.cells zv.cells 194 (0, 0)) := heap_alloc_new _ _
      have hst := run_storeCells_am (P := Tryz.prog) (o := 0) hw3 xs.toList (by rw [Array.length_toList, hzs, hxn]; omega) (fun i hi h => by simp at h) hxc.one
      refine ops_unit (.store 194 (.tmp 5) (.tmp 22)) { w2.alloc (.cells zv.cells 194) with heap := hset (w2.alloc (.cells zv.cells 194)).heap w2.heap.size (.cells xs 194 (0, 0)) } rfl rfl rfl rfl (fun c h => by cases h) (u_run (s := Instr.storeAt 194 (Act.eval _ (.tmp 5)) (Act.eval _ (.tmp 22))) (by
        rw [eval_put_ne (by decide), eval_put_same (by simp only [put_size]; omega), eval_put_ne (by decide), eval_put_ne (by decide), eval_put_same (by simp only [put_size]; omega), hxs]
        have hsz194 : szOf Tryz.prog 194 = some 512 := by kernel_rfl
        have hpl : putL zv.cells 0 xs.toList = xs := by rw [putL_all (by rw [hzs, Array.length_toList, hxn])]
        rw [hpl] at hst
        exact storeAgg hsz194 hxn hst)) ?_
      generalize hA3 : ((((a2.put (some 20) (.tuple #[e.key, e.val])).put (some 21) e.key).put (some 22) e.val).put (some 5) (.pointer (some ⟨w2.heap.size, 0, none⟩))).put (some 4) e.key = a3
      generalize hW4 : ({ w2.alloc (.cells zv.cells 194) with heap := hset (w2.alloc (.cells zv.cells 194)).heap w2.heap.size (.cells xs 194 (0, 0)) } : World) = w4
      have l1 : a3.tmps.size = a.tmps.size := by rw [← hA3]; simp only [put_size]; exact j1
      have l2 : ∀ i, i ∉ loopTmps → a3.tmps[i]? = a.tmps[i]? := fun i hi => by
        have hne : ∀ u, u ∈ loopTmps → i ≠ u := fun u hu e => hi (by rw [e]; exact hu)
        rw [← hA3, tmps_put_ne (hne 4 (by decide)), tmps_put_ne (hne 5 (by decide)), tmps_put_ne (hne 22 (by decide)), tmps_put_ne (hne 21 (by decide)), tmps_put_ne (hne 20 (by decide)), j2 i hi]
      have l3 : a3.defers = a.defers := by rw [← hA3]; simp only [put_eta]; exact j3
      have l4 : a3.eval (.tmp 17) = .pointer (some ⟨w.heap.size, 0, none⟩) := by
        rw [← hA3, eval_put_ne (by decide), eval_put_ne (by decide), eval_put_ne (by decide), eval_put_ne (by decide), eval_put_ne (by decide), j4]
      have l5 : a3.eval (.tmp 4) = e.key := by rw [← hA3, eval_put_same (by simp only [put_size]; omega)]
      have l6 : a3.eval (.tmp 5) = .pointer (some ⟨w2.heap.size, 0, none⟩) := by rw [← hA3, eval_put_ne (by decide), eval_put_same (by simp only [put_size]; omega)]
      -- the heap behind it
      have hh4 : ∀ b', b' ≠ w2.heap.size → w4.heap[b']? = (w2.heap.push (.cells zv.cells 194))[b']? := fun b' hb' => by rw [← hW4]; exact hset_ne hb'
      have hn4 : w4.heap[w2.heap.size]? = some (.cells xs 194 (0, 0)) := by rw [← hW4]; exact hset_self hw3
      have hs4 : w4.heap.size = w2.heap.size + 1 := by rw [← hW4]; show (hset _ _ _).size = _; rw [hset_size, alloc_size]
      have hold4 : ∀ b', b' < w2.heap.size → w4.heap[b']? = w2.heap[b']? := fun b' hb' => by rw [hh4 b' (Nat.ne_of_lt hb'), push_old _ hb']
      have hcs4 : ∀ b', csz w2.heap b' ≤ csz w4.heap b' := fun b' => by
        by_cases hb' : b' < w2.heap.size
        · unfold csz; rw [hold4 b' hb']; exact Nat.le_refl _
        · unfold csz; rw [Array.getElem?_eq_none (by omega)]; exact Nat.zero_le _
      have hr4 : Rel Tryz.prog B φ σ1 w4.heap := hr2.more (by omega) hcs4 hold4
      have hx4 : Ext B φ σ w.heap φ σ1 w4.heap := ⟨hx2.le, hx2.nx, hx2.new, hx2.frame, by rw [hs4]; exact Nat.le_succ_of_le hx2.size, fun b' => Nat.le_trans (hx2.csz b') (hcs4 b'), fun b' hb' => by rw [hold4 b' (Nat.lt_of_lt_of_le (hB b' hb') hx2.size)]; exact hx2.low b' hb'⟩
      have hkeep4 : ∀ b', b' < w.heap.size → b' ≠ sb → w4.heap[b']? = w.heap[b']? := fun b' hb' hne => by
        rw [hold4 b' (by omega), hw2, hset_ne (Nat.ne_of_lt hb')]
        exact i14 b' hb' hne
      have hsm4 : Same w w4 := by
        have h1 := i8.trans hs2
        rw [← hW4]
        exact ⟨h1.os, h1.tape, h1.output⟩
      have hcsw : ∀ b', csz w.heap b' ≤ csz w4.heap b' := hx4.csz
      have hgs1 : σ1.get s = some (.mp ms') := by rw [i9, if_pos rfl]
      have hkey : keySort l[i].1 = some (some .i64) := hls _ (List.getElem_mem hil)
      obtain ⟨w5, hw5⟩ : ∃ w5 : World, w5 = { w4 with drawn := w4.drawn + 1 } := ⟨_, rfl⟩
      have h5 : w5.heap = w4.heap := by rw [hw5]
      have hsm5 : Same w w5 := by rw [hw5]; exact ⟨hsm4.os, hsm4.tape, hsm4.output⟩
      rw [← h5] at hr4 hx4 hcsw hold4 hn4 hkeep4
      have hs5 : w5.heap.size = w2.heap.size + 1 := by rw [h5]; exact hs4
      obtain ⟨es', cl', hmu, hr5, hx5⟩ := mapUpdate_at (P := Tryz.prog) (w := w5) Tryz.underlying179 K3 (key := l[i].1) (v := l[i].2) hkey (by simp) i11.sorts hgs1 hr4 hsb (vk.mono φ.le_refl hcsw) (vv.mono φ.le_refl hcsw)
      have hsf := i11.step hlk hmo.born.1 hil hi' hkey
      rw [hie'] at hsf
      have hsbit : sb ≠ w.heap.size := Nat.ne_of_lt (himg _ _ _ hsb)
      -- the last step
      have fin : ∀ (A : Act), A.tmps.size = a.tmps.size → (∀ i, i ∉ loopTmps → A.tmps[i]? = a.tmps[i]?) → A.defers = a.defers → A.eval (.tmp 17) = .pointer (some ⟨w.heap.size, 0, none⟩) →
          I A { w5 with heap := hset w5.heap sb (.map es' cl') } ∧ (leftOf eso (({ w5 with heap := hset w5.heap sb (.map es' cl') } : World).iterSeen w.heap.size)).size < (leftOf eso (w1.iterSeen w.heap.size)).size := fun A m1 m2 m3 m4 => by
        have hit5 : (hset w5.heap sb (.map es' cl'))[w.heap.size]? = some (.mapIter (some ob) clo (seen.push e.born) clo) := by rw [hset_ne (Ne.symm hsbit), hold4 _ (by omega)]; exact hw2it
        have hobsb : ob ≠ sb := fun e => by
          subst e
          rcases r.inj _ _ _ _ _ _ _ hsb hob hso hgs hgo with h | h | h | h
          · exact h
          · exact h
          · cases h
          · cases h
        refine ⟨⟨seen.push e.born, ms'.put l[i].1 l[i].2, σ1.set s (.mp (ms'.put l[i].1 l[i].2)), m1, m2, m3, m4, hit5, hr5, hx4.trans hx5, ⟨hsm5.os, hsm5.tape, hsm5.output⟩, fun γ => ?_, by rw [Hp.nx_set, i10], hsf, ?_, ?_, fun b' hb' hne => ?_⟩, ?_⟩
        · rw [Hp.get_set]
          by_cases hγ : γ = s
          · simp [hγ]
          · rw [if_neg hγ, if_neg hγ, i9, if_neg hγ]
        · show (hset w5.heap sb _)[ob]? = _
          rw [hset_ne hobsb, hold4 _ (by have := himg _ _ _ hob; omega)]
          exact hw2ob
        · show w.heap.size < (hset w5.heap sb _).size
          rw [hset_size]; omega
        · show (hset w5.heap sb _)[b']? = _
          rw [hset_ne hne]
          exact hkeep4 b' hb' hne
        · have e1 : ({ w5 with heap := hset w5.heap sb (.map es' cl') } : World).iterSeen w.heap.size = seen.push e.born := by
            unfold World.iterSeen
            show (match (hset w5.heap sb _)[w.heap.size]? with | some (.mapIter _ _ s _) => s | _ => #[]) = _
            rw [hit5]
          have e2 : w1.iterSeen w.heap.size = seen := by unfold World.iterSeen; rw [i5]
          rw [e1, e2]
          exact left_shrinks eso seen e he1
      have hpan : ∀ (c : List PanicEntry) (A : Act) (W : World), ¬ Ended Tryz.prog B φ σ w (cxOf Tryz.prog 93) none .normal (nilT loopTmps t) d (σ.set s (.mp (merge mo ms))) (.panic c) A W := fun c A W h => by have := h.e; cases this
      have hld5 : (Instr.loadAt 194 (.pointer (some ⟨w2.heap.size, 0, none⟩))).run Tryz.prog w5 = .ok e.val w5 := by
        rw [hxs]
        exact loadAgg (w := w5) T194 (by rw [hxn]; kernel_rfl) hn4
      have hld1 : (Instr.loadAt 179 (.pointer (some ⟨b, dd + off + 1, none⟩))).run Tryz.prog w5 = .ok (.map (some sb)) w5 := by
        have hbs : b ≠ sb := fun e => by subst e; rw [hws] at hw1; cases hw1
        have hw1' : w5.heap[b]? = some (.cells cs1 e1 fz1) := by
          rw [hkeep4 b (himg _ _ _ hφ) hbs]; exact hw1
        have hc1' : cs1[dd + off + 1]? = some (.map (some sb)) := by rw [Nat.add_assoc]; exact hc1
        simp [Instr.loadAt, Instr.sureAddr, loadVar, aggOf_run T179, cell?_of hw1', hc1']
      refine wpIn_region_any M0 ?_
      rw [← hw5]
      show wpAnyIn _ _ _ _ _ _ 7 _ a3 w5
      refine take_val 0 (some 23) (.move (.tmp 0)) (.pointer (some ⟨b, dd + off, none⟩)) rfl rfl rfl rfl (by decide +kernel) (by decide +kernel) (by decide +kernel) (fun c h => by cases h) (fun c A W h => hpan c A W h) (fun W => by show Result.ok (Next.value (a3.eval (.tmp 0))) W = _; rw [ev0 (l2 0 (by decide))]) ?_
      refine take_val 1 (some 24) (.nilCheck (.tmp 23)) (.pointer (some ⟨b, dd + off, none⟩)) rfl rfl rfl rfl (by decide +kernel) (by decide +kernel) (by decide +kernel) (fun c h => by cases h) (fun c A W h => hpan c A W h) (fun W => nilCheck_run (eval_put_same (by omega))) ?_
      refine take_val 2 (some 25) (.fieldAddr 181 (.tmp 24) 1) (.pointer (some ⟨b, dd + off + 1, none⟩)) rfl rfl rfl rfl (by decide +kernel) (by decide +kernel) (by decide +kernel) (fun c h => by cases h) (fun c A W h => hpan c A W h) (fun W => v_run (s := Instr.fieldAt 181 (Act.eval _ (.tmp 24)) 1) (by rw [eval_put_same (by rw [put_size]; omega)]; exact hFA 1 W (.inl rfl))) ?_
      refine take_val 4 (some 27) (.move (.tmp 4)) e.key rfl rfl rfl rfl (by decide +kernel) (by decide +kernel) (by decide +kernel) (fun c h => by cases h) (fun c A W h => hpan c A W h) (fun W => by
        show Result.ok (Next.value (Act.eval _ (.tmp 4))) W = _
        rw [eval_put_ne (by decide), eval_put_ne (by decide), eval_put_ne (by decide), l5]) ?_
      generalize hA4 : ((((a3.put (some 23) (.pointer (some ⟨b, dd + off, none⟩))).put (some 24) (.pointer (some ⟨b, dd + off, none⟩))).put (some 25) (.pointer (some ⟨b, dd + off + 1, none⟩))).put (some 27) e.key) = a4
      have n1 : a4.tmps.size = a.tmps.size := by rw [← hA4]; simp only [put_size]; exact l1
      have n2 : ∀ i, i ∉ loopTmps → a4.tmps[i]? = a.tmps[i]? := fun i hi => by
        have hne : ∀ u, u ∈ loopTmps → i ≠ u := fun u hu e => hi (by rw [e]; exact hu)
        rw [← hA4, tmps_put_ne (hne 27 (by decide)), tmps_put_ne (hne 25 (by decide)), tmps_put_ne (hne 24 (by decide)), tmps_put_ne (hne 23 (by decide)), l2 i hi]
      have n3 : a4.defers = a.defers := by rw [← hA4]; simp only [put_eta]; exact l3
      have n4 : a4.eval (.tmp 17) = .pointer (some ⟨w.heap.size, 0, none⟩) := by
        rw [← hA4, eval_put_ne (by decide), eval_put_ne (by decide), eval_put_ne (by decide), eval_put_ne (by decide), l4]
      have n5 : a4.eval (.tmp 5) = .pointer (some ⟨w2.heap.size, 0, none⟩) := by
        rw [← hA4, eval_put_ne (by decide), eval_put_ne (by decide), eval_put_ne (by decide), eval_put_ne (by decide), l6]
      have n6 : a4.eval (.tmp 25) = .pointer (some ⟨b, dd + off + 1, none⟩) := by rw [← hA4, eval_put_ne (by decide), eval_put_same (by simp only [put_size]; omega)]
      have n7 : a4.eval (.tmp 27) = e.key := by rw [← hA4, eval_put_same (by simp only [put_size]; omega)]
      have last : ∀ (A : Act), A.eval (.tmp 26) = .map (some sb) → A.eval (.tmp 27) = e.key → A.eval (.tmp 28) = e.val → ∀ ty,
          (execOp A.eval { dst := none, op := .mapUpdate 179 (.tmp 26) (.tmp 27) (.tmp 28), type := ty, pos := "", after := #[], guard := none }).run Tryz.prog w5 = .ok .skip { w5 with heap := hset w5.heap sb (.map es' cl') } := fun A p1 p2 p3 ty => u_run (s := Instr.mapUpdate 179 (A.eval (.tmp 26)) (A.eval (.tmp 27)) (A.eval (.tmp 28))) (by rw [p1, p2, p3]; exact hmu)
      have e26 : ∀ (A : Act), A.eval (.tmp 25) = .pointer (some ⟨b, dd + off + 1, none⟩) → (Instr.loadAt 179 (A.eval (.tmp 25))).run Tryz.prog w5 = .ok (.map (some sb)) w5 := fun A h => by rw [h]; exact hld1
      have e28 : ∀ (A : Act), A.eval (.tmp 5) = .pointer (some ⟨w2.heap.size, 0, none⟩) → (Instr.loadAt 194 (A.eval (.tmp 5))).run Tryz.prog w5 = .ok e.val w5 := fun A h => by rw [h]; exact hld5
      have hns : ∀ u, u ∈ loopTmps → ∀ i, i ∉ loopTmps → i ≠ u := fun u hu i hi e => hi (by rw [e]; exact hu)
      refine wpAnyIn_all (rs := [3, 5]) (by decide +kernel) (by decide) (fun i hi => ?_)
      rcases List.mem_cons.1 hi with rfl | hi
      · refine op_val (some 26) (.load 179 (.tmp 25)) (.map (some sb)) w5 rfl rfl rfl rfl (fun c h => by cases h) (v_run (s := Instr.loadAt 179 (Act.eval _ (.tmp 25))) (e26 _ n6)) ?_
        refine wpAnyIn_all (rs := [5]) (by decide +kernel) (by decide) (fun i hi => ?_)
        rw [List.mem_singleton] at hi
        subst hi
        refine op_val (some 28) (.load 194 (.tmp 5)) e.val w5 rfl rfl rfl rfl (fun c h => by cases h) (v_run (s := Instr.loadAt 194 (Act.eval _ (.tmp 5))) (e28 _ (by rw [eval_put_ne (by decide)]; exact n5))) ?_
        refine wpAnyIn_all (rs := [6]) (by decide +kernel) (by decide) (fun i hi => ?_)
        rw [List.mem_singleton] at hi
        subst hi
        have p1 : ((a4.put (some 26) (.map (some sb))).put (some 28) e.val).tmps.size = a.tmps.size := by simp only [put_size]; exact n1
        have p2 : ∀ i, i ∉ loopTmps → ((a4.put (some 26) (.map (some sb))).put (some 28) e.val).tmps[i]? = a.tmps[i]? := fun i hi => by
          rw [tmps_put_ne (hns 28 (by decide) i hi), tmps_put_ne (hns 26 (by decide) i hi), n2 i hi]
        have p3 : ((a4.put (some 26) (.map (some sb))).put (some 28) e.val).defers = a.defers := by simp only [put_eta]; exact n3
        have p4 : ((a4.put (some 26) (.map (some sb))).put (some 28) e.val).eval (.tmp 17) = .pointer (some ⟨w.heap.size, 0, none⟩) := by
          rw [eval_put_ne (by decide), eval_put_ne (by decide), n4]
        have p5 : ((a4.put (some 26) (.map (some sb))).put (some 28) e.val).eval (.tmp 26) = .map (some sb) := by
          rw [eval_put_ne (by decide), eval_put_same (by omega)]
        have p6 : ((a4.put (some 26) (.map (some sb))).put (some 28) e.val).eval (.tmp 27) = e.key := by
          rw [eval_put_ne (by decide), eval_put_ne (by decide), n7]
        have p7 : ((a4.put (some 26) (.map (some sb))).put (some 28) e.val).eval (.tmp 28) = e.val := by
          rw [eval_put_same (by simp only [put_size]; omega)]
        generalize (a4.put (some 26) (.map (some sb))).put (some 28) e.val = A at p1 p2 p3 p4 p5 p6 p7 ⊢
        refine op_unit (.mapUpdate 179 (.tmp 26) (.tmp 27) (.tmp 28)) _ rfl rfl rfl rfl (fun c h => by cases h) (last A p5 p6 p7 _) ?_
        refine wpAnyIn_done (by decide +kernel) ?_ _
        exact fin A p1 p2 p3 p4
      · rw [List.mem_singleton] at hi
        subst hi
        refine op_val (some 28) (.load 194 (.tmp 5)) e.val w5 rfl rfl rfl rfl (fun c h => by cases h) (v_run (s := Instr.loadAt 194 (Act.eval _ (.tmp 5))) (e28 _ n5)) ?_
        refine wpAnyIn_all (rs := [3]) (by decide +kernel) (by decide) (fun i hi => ?_)
        rw [List.mem_singleton] at hi
        subst hi
        refine op_val (some 26) (.load 179 (.tmp 25)) (.map (some sb)) w5 rfl rfl rfl rfl (fun c h => by cases h) (v_run (s := Instr.loadAt 179 (Act.eval _ (.tmp 25))) (e26 _ (by rw [eval_put_ne (by decide)]; exact n6))) ?_
        refine wpAnyIn_all (rs := [6]) (by decide +kernel) (by decide) (fun i hi => ?_)
        rw [List.mem_singleton] at hi
        subst hi
        have p1 : ((a4.put (some 28) e.val).put (some 26) (.map (some sb))).tmps.size = a.tmps.size := by simp only [put_size]; exact n1
        have p2 : ∀ i, i ∉ loopTmps → ((a4.put (some 28) e.val).put (some 26) (.map (some sb))).tmps[i]? = a.tmps[i]? := fun i hi => by
          rw [tmps_put_ne (hns 26 (by decide) i hi), tmps_put_ne (hns 28 (by decide) i hi), n2 i hi]
        have p3 : ((a4.put (some 28) e.val).put (some 26) (.map (some sb))).defers = a.defers := by simp only [put_eta]; exact n3
        have p4 : ((a4.put (some 28) e.val).put (some 26) (.map (some sb))).eval (.tmp 17) = .pointer (some ⟨w.heap.size, 0, none⟩) := by
          rw [eval_put_ne (by decide), eval_put_ne (by decide), n4]
        have p5 : ((a4.put (some 28) e.val).put (some 26) (.map (some sb))).eval (.tmp 26) = .map (some sb) := by
          rw [eval_put_same (by simp only [put_size]; omega)]
        have p6 : ((a4.put (some 28) e.val).put (some 26) (.map (some sb))).eval (.tmp 27) = e.key := by
          rw [eval_put_ne (by decide), eval_put_ne (by decide), n7]
        have p7 : ((a4.put (some 28) e.val).put (some 26) (.map (some sb))).eval (.tmp 28) = e.val := by
          rw [eval_put_ne (by decide), eval_put_same (by omega)]
        generalize (a4.put (some 28) e.val).put (some 26) (.map (some sb)) = A at p1 p2 p3 p4 p5 p6 p7 ⊢
        refine op_unit (.mapUpdate 179 (.tmp 26) (.tmp 27) (.tmp 28)) _ rfl rfl rfl rfl (fun c h => by cases h) (last A p5 p6 p7 _) ?_
        refine wpAnyIn_done (by decide +kernel) ?_ _
        exact fin A p1 p2 p3 p4
  show Code.wpIn (FW none) 0 Tryz.prog (.seq (seqL syncLoop) (seqR syncLoop)) _ a w
  refine wpIn_seq (wpIn_region ?_)
  show wpOpsIn _ _ _ _ _ [0, 1, 2, 3, 4] a w
  refine ops_val (some 13) (.move (.tmp 0)) (.pointer (some ⟨b, dd + off, none⟩)) w rfl rfl rfl rfl (fun c h => by cases h) (by show Result.ok (Next.value (a.eval (.tmp 0))) w = _; rw [ev0 rfl]) ?_
  refine ops_val (some 14) (.nilCheck (.tmp 13)) (.pointer (some ⟨b, dd + off, none⟩)) w rfl rfl rfl rfl (fun c h => by cases h) (nilCheck_run (eval_put_same (by omega))) ?_
  refine ops_val (some 15) (.fieldAddr 181 (.tmp 14) 2) (.pointer (some ⟨b, dd + off + 2, none⟩)) w rfl rfl rfl rfl (fun c h => by cases h) (v_run (s := Instr.fieldAt 181 (Act.eval _ (.tmp 14)) 2) (by rw [eval_put_same (by rw [put_size]; omega)]; exact hFA 2 w (.inr rfl))) ?_
  have hld : (Instr.loadAt 179 (.pointer (some ⟨b, dd + off + 2, none⟩))).run Tryz.prog w = .ok (.map (some ob)) w := by
    have hc2' : cs2[dd + off + 2]? = some (.map (some ob)) := by rw [Nat.add_assoc]; exact hc2
    simp [Instr.loadAt, Instr.sureAddr, loadVar, aggOf_run T179, cell?_of hw2, hc2']
  refine ops_val (some 16) (.load 179 (.tmp 15)) (.map (some ob)) w rfl rfl rfl rfl (fun c h => by cases h) (v_run (s := Instr.loadAt 179 (Act.eval _ (.tmp 15))) (by rw [eval_put_same (by rw [put_size, put_size]; omega)]; exact hld)) ?_
  refine ops_val (some 17) (.range 179 (.tmp 16)) (.pointer (some ⟨w.heap.size, 0, none⟩)) (w.alloc (.mapIter (some ob) clo #[] clo)) rfl rfl rfl rfl (fun c h => by cases h) (v_run (s := Instr.range 179 (Act.eval _ (.tmp 16))) (by rw [eval_put_same (by rw [put_size, put_size, put_size]; omega)]; exact run_range_map w 179 3 194 ob eso clo Tryz.underlying179 hwo)) ?_
  refine hI _ _ ⟨#[], ms, σ, by simp only [put_size], fun i hi => ?_, by simp only [put_eta], eval_put_same (by simp only [put_size]; omega), heap_alloc_new _ _, ?_, ?_, ⟨rfl, rfl, rfl⟩, fun γ => ?_, rfl, ⟨hms.nodup, hsorts, fun i p q h => by simp at h, fun c _ => rfl⟩, ?_, by rw [alloc_size]; exact Nat.lt_succ_self _, fun b' hb' _ => push_old _ hb'⟩
  · have hne : ∀ u, u ∈ loopTmps → i ≠ u := fun u hu e => hi (by rw [e]; exact hu)
    rw [tmps_put_ne (hne 17 (by decide)), tmps_put_ne (hne 16 (by decide)), tmps_put_ne (hne 15 (by decide)), tmps_put_ne (hne 14 (by decide)), tmps_put_ne (hne 13 (by decide))]
  · exact r.more (alloc_le _ _) (csz_push _ _) fun b' hb' => push_old _ hb'
  · exact ⟨φ.le_refl, Nat.le_refl _, fun β y q1 q2 => absurd (q2.symm.trans q1) (by simp), fun _ _ _ => .inl rfl, alloc_le _ _, csz_push _ _, fun b' hb' => push_old _ (hB b' hb')⟩
  · by_cases hγ : γ = s
    · rw [if_pos hγ, hγ]; exact hgs
    · rw [if_neg hγ]
  · show (w.heap.push _)[ob]? = _
    rw [push_old _ (himg _ _ _ hob)]
    exact hwo
end Go.Am
