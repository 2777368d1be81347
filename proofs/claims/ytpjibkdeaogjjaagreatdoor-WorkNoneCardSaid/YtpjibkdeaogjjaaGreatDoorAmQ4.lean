import Derived.Test.YtpjibkdeaogjjaaGreatDoorAmQ3
set_option linter.unusedVariables false
set_option linter.unusedSimpArgs false
/-! Soundness in another form, 4: loops over maps, in whatever order. -/
namespace Go.Am
open Go
/-! ### Entries -/
def LeftR (φ : Emb) (κ : Nat → Nat) (m : AMap) (L : List MapEntry) : Prop := ∃ l : List (AV × AV), l.Perm m.toL ∧ l.length = L.length ∧ ∀ q ∈ l.zip L, VR φ κ q.1.1 q.2.key ∧ VR φ κ q.1.2 q.2.val
theorem LeftR.mono {φ φ' : Emb} {κ κ' : Nat → Nat} {m : AMap} {L : List MapEntry} (h : LeftR φ κ m L) (hφ : φ.le φ') (hκ : ∀ b, κ b ≤ κ' b) : LeftR φ' κ' m L :=
  let ⟨l, h1, h2, h3⟩ := h; ⟨l, h1, h2, fun q hq => ⟨(h3 q hq).1.mono hφ hκ, (h3 q hq).2.mono hφ hκ⟩⟩
theorem MR.left {φ : Emb} {κ : Nat → Nat} {m : AMap} {es : Array MapEntry} {cl : Nat} (h : MR φ κ m es cl) : LeftR φ κ m es.toList := by
  obtain ⟨l, h1, h2, h3⟩ := h.ent
  refine ⟨l, h1, by simpa using h2, fun q hq => ?_⟩
  obtain ⟨i, hi, rfl⟩ := List.getElem_of_mem hq
  have hi' : i < l.length ∧ i < es.size := by simp only [List.length_zip, Array.length_toList] at hi; omega
  rw [List.getElem_zip]
  simpa using h3 i hi'.1 hi'.2
theorem picksK_true {f : AV → AV → AMap → Bool} : ∀ {m : AMap} {pre : AMap → AMap} {l0 : List (AV × AV)}, (∀ x, (pre x).toL = l0 ++ x.toL) → m.picksK true f pre = true → ∀ l1 p l2, m.toL = l1 ++ p :: l2 → ∃ r, r.toL = l0 ++ (l1 ++ l2) ∧ f p.1 p.2 r = true := by
  intro m
  induction m with
  | nil => intro pre l0 hpre h l1 p l2 hm; cases l1 <;> cases hm
  | cons a v r ih =>
    intro pre l0 hpre h l1 p l2 hm
    have h' : sel (f a v (pre r)) (r.picksK true f fun x => pre (.cons a v x)) false = true := h
    obtain ⟨h1, h3⟩ := sel_yes h'
    have hm' : (a, v) :: r.toL = l1 ++ p :: l2 := hm
    cases l1 with
    | nil =>
      simp only [List.nil_append, List.cons.injEq] at hm'
      obtain ⟨rfl, rfl⟩ := hm'
      exact ⟨_, by rw [hpre]; rfl, h1⟩
    | cons q l1 =>
      simp only [List.cons_append, List.cons.injEq] at hm'
      obtain ⟨rfl, hr⟩ := hm'
      obtain ⟨r', e1, e2⟩ := ih (pre := fun x => pre (.cons a v x)) (l0 := l0 ++ [(a, v)]) (fun x => by rw [hpre]; simp [AMap.toL]) h3 l1 p l2 hr
      exact ⟨r', by rw [e1]; simp, e2⟩
theorem filter_born {L1 L2 : List MapEntry} {e : MapEntry} (h : ((L1 ++ e :: L2).map (·.born)).Nodup) : (L1 ++ e :: L2).filter (fun x => !(x.born == e.born)) = L1 ++ L2 := by
  rw [List.map_append, List.map_cons, List.nodup_append, List.nodup_cons] at h
  obtain ⟨h1, ⟨h2, h3⟩, h4⟩ := h
  rw [List.filter_append, List.filter_cons_of_neg (by simp)]
  congr 1
  · refine List.filter_eq_self.2 fun x hx => ?_
    have := h4 x.born (List.mem_map_of_mem hx) e.born (by simp)
    simpa using this
  · refine List.filter_eq_self.2 fun x hx => ?_
    have : x.born ≠ e.born := fun e' => h2 (by rw [← e']; exact List.mem_map_of_mem hx)
    simpa using this
theorem LeftR.pick {φ : Emb} {κ : Nat → Nat} {m : AMap} {L : List MapEntry} (h : LeftR φ κ m L) (hn : (L.map (·.born)).Nodup) {e : MapEntry} (he : e ∈ L) {f : AV → AV → AMap → Bool} (hp : m.picksK true f (fun x => x) = true) :
    ∃ a v r, f a v r = true ∧ VR φ κ a e.key ∧ VR φ κ v e.val ∧ LeftR φ κ r (L.filter fun x => !(x.born == e.born)) := by
  obtain ⟨L1, L2, rfl⟩ := List.append_of_mem he
  obtain ⟨l, h1, h2, h3⟩ := h
  have hlen : L1.length < l.length := by rw [h2]; simp
  have hl : l = l.take L1.length ++ l[L1.length] :: l.drop (L1.length + 1) := by rw [List.getElem_cons_drop, List.take_append_drop]
  have htl : (l.take L1.length).length = L1.length := by rw [List.length_take]; omega
  generalize l.take L1.length = l1 at hl htl
  generalize l[L1.length] = p at hl
  generalize l.drop (L1.length + 1) = l2 at hl
  subst hl
  have hpm : p ∈ m.toL := h1.mem_iff.1 (by simp)
  obtain ⟨m1, m2, hm⟩ := List.append_of_mem hpm
  obtain ⟨r, e1, e2⟩ := picksK_true (l0 := []) (fun x => rfl) hp m1 p m2 hm
  have hz : (l1 ++ p :: l2).zip (L1 ++ e :: L2) = l1.zip L1 ++ (p, e) :: l2.zip L2 := by rw [List.zip_append htl]; rfl
  rw [hz] at h3
  obtain ⟨q1, q2⟩ := h3 (p, e) (by simp)
  refine ⟨p.1, p.2, r, e2, q1, q2, l1 ++ l2, ?_, ?_, fun q hq => h3 q ?_⟩
  · rw [e1, List.nil_append]
    have t1 : (p :: (l1 ++ l2)).Perm (p :: (m1 ++ m2)) := (List.perm_middle.symm.trans (hm ▸ h1)).trans List.perm_middle
    exact t1.cons_inv
  · rw [filter_born hn]
    simp only [List.length_append, List.length_cons] at h2 ⊢
    omega
  · rw [filter_born hn, List.zip_append htl] at hq
    rcases List.mem_append.1 hq with hq | hq
    · exact List.mem_append.2 (.inl hq)
    · exact List.mem_append.2 (.inr (List.mem_cons_of_mem _ hq))
theorem left_push (es : Array MapEntry) (seen : Array Nat) (b : Nat) : (leftOf es (seen.push b)).toList = (leftOf es seen).toList.filter fun x => !(x.born == b) := by
  unfold leftOf
  rw [Array.toList_filter, Array.toList_filter, List.filter_filter]
  congr 1
  funext x
  by_cases h : x.born = b
  · simp [h]
  · simp [h, Array.contains_eq_mem]
/-! ### A map is put aside, and is there again -/
theorem every8_true {α : Type} {f : α → Bool} {t : R8 α} (h : every8 f t = true) (d : D8) : f (t.at d) = true := by
  obtain ⟨a0, a1, a2, a3, a4, a5, a6, a7⟩ := t
  obtain ⟨h0, h⟩ := sel_yes h
  obtain ⟨h1, h⟩ := sel_yes h
  obtain ⟨h2, h⟩ := sel_yes h
  obtain ⟨h3, h⟩ := sel_yes h
  obtain ⟨h4, h⟩ := sel_yes h
  obtain ⟨h5, h⟩ := sel_yes h
  obtain ⟨h6, h⟩ := sel_yes h
  cases d <;> assumption
theorem leafNo_true {β : Ad} {b : Blk} (h : leafNo β (some b) = true) : β ∉ b.olds := by
  cases b with
  | cells n c st pl sh olds =>
    intro hm
    have hm' : β ∈ olds := hm
    cases olds with
    | nil => cases hm'
    | cons x l =>
      have h' : Bool.not (hasK β (x :: l)) = true := h
      rw [(hasK_eq β (x :: l)).2 hm'] at h'
      cases h'
  | _ => intro hm; cases hm
theorem noOlds_true {σ : Hp} {β : Ad} (h : σ.noOlds β = true) {ε : Ad} {k : Blk} (hk : σ.get ε = some k) : β ∉ k.olds := by
  have := every8_true (every8_true (every8_true (every8_true (every8_true h ε.d4) ε.d3) ε.d2) ε.d1) ε.d0
  have hk' : (((((σ.t).at ε.d4).at ε.d3).at ε.d2).at ε.d1).at ε.d0 = some k := hk
  rw [hk'] at this
  exact leafNo_true this
section
variable {P : Program} {B : Fz} {φ : Emb} {σ : Hp} {h : Array Obj}
theorem Rel.freeze (r : Rel P B φ σ h) {β : Ad} {bm itb : Nat} {m : AMap} (hβ : φ β = some (bm, 0)) (hg : σ.get β = some (.mp m)) (hit : ∀ γ d, φ γ = some (itb, d) → ∃ k, σ.get γ = some k ∧ k.isDead) :
    Rel P (fun b => B b ∨ b = itb ∨ b = bm) φ (σ.set β .dead) h where
  fresh γ y hy := by rw [Hp.nx_set]; exact r.fresh γ y hy
  low γ b d hb := ⟨fun hF => by
    rw [Hp.get_set]
    by_cases hγ : γ = β
    · rw [if_pos hγ]; exact ⟨_, rfl, trivial⟩
    · rw [if_neg hγ]
      rcases hF with hB | rfl | rfl
      · exact (r.low γ b d hb).1 hB
      · exact hit γ d hb
      · obtain ⟨k, hk, _⟩ := r.blk _ _ _ hb
        refine ⟨k, hk, ?_⟩
        rcases r.inj _ _ _ _ _ _ _ hβ hb (Ne.symm hγ) hg hk with h | h | h | h
        · exact h.elim
        · exact h
        · cases h
        · exact absurd h (r.live_olds hβ hg (fun h => h) (fun h => h) hb hk), (r.low γ b d hb).2⟩
  blk γ b d hb := by
    rw [Hp.get_set]
    by_cases hγ : γ = β
    · rw [if_pos hγ]; exact ⟨_, rfl, .dead _ _⟩
    · rw [if_neg hγ]; exact r.blk γ b d hb
  inj γ δ b d d' k g h1 h2 h3 h4 h5 := by
    rw [Hp.get_set] at h4 h5
    by_cases hγ : γ = β
    · rw [if_pos hγ] at h4; cases h4; exact .inl trivial
    · rw [if_neg hγ] at h4
      by_cases hδ : δ = β
      · rw [if_pos hδ] at h5; cases h5; exact .inr (.inl trivial)
      · rw [if_neg hδ] at h5
        exact r.inj γ δ b d d' k g h1 h2 h3 h4 h5
  olds γ b d k δ h1 h2 h3 := by
    rw [Hp.get_set] at h2
    by_cases hγ : γ = β
    · rw [if_pos hγ] at h2; cases h2; cases h3
    · rw [if_neg hγ] at h2
      obtain ⟨b', d', g, h4, h5, h6⟩ := r.olds γ b d k δ h1 h2 h3
      rw [Hp.get_set]
      by_cases hδ : δ = β
      · rw [if_pos hδ]; exact ⟨b', d', _, h4, rfl, .inl trivial⟩
      · rw [if_neg hδ]; exact ⟨b', d', g, h4, h5, h6⟩
theorem Rel.thaw {itb bm : Nat} (r : Rel P (fun b => B b ∨ b = itb ∨ b = bm) φ σ h) {β : Ad} {m : AMap} {es : Array MapEntry} {cl : Nat} (hβ : φ β = some (bm, 0)) (hw : h[bm]? = some (.map es cl)) (hm : MR φ (csz h) m es cl) (hno : σ.noOlds β = true) (hB : ¬ B bm) :
    Rel P B φ (σ.set β (.mp m)) h where
  fresh γ y hy := by rw [Hp.nx_set]; exact r.fresh γ y hy
  low γ b d hb := ⟨fun hBb => by
    rw [Hp.get_set]
    by_cases hγ : γ = β
    · subst hγ; rw [hβ] at hb; cases hb; exact absurd hBb hB
    · rw [if_neg hγ]; exact (r.low γ b d hb).1 (.inl hBb), (r.low γ b d hb).2⟩
  blk γ b d hb := by
    rw [Hp.get_set]
    by_cases hγ : γ = β
    · subst hγ; rw [hβ] at hb; cases hb
      rw [if_pos rfl]; exact ⟨_, rfl, .mp _ _ es cl hw hm⟩
    · rw [if_neg hγ]; exact r.blk γ b d hb
  inj γ δ b d d' k g h1 h2 h3 h4 h5 := by
    rw [Hp.get_set] at h4 h5
    by_cases hγ : γ = β
    · subst hγ
      rw [hβ] at h1; cases h1
      rw [if_neg (Ne.symm h3)] at h5
      obtain ⟨k0, e0, dd⟩ := (r.low δ _ d' h2).1 (.inr (.inr rfl))
      rw [e0] at h5; cases h5
      exact .inr (.inl dd)
    · rw [if_neg hγ] at h4
      by_cases hδ : δ = β
      · subst hδ
        rw [hβ] at h2; cases h2
        obtain ⟨k0, e0, dd⟩ := (r.low γ _ d h1).1 (.inr (.inr rfl))
        rw [e0] at h4; cases h4
        exact .inl dd
      · rw [if_neg hδ] at h5
        exact r.inj γ δ b d d' k g h1 h2 h3 h4 h5
  olds γ b d k δ h1 h2 h3 := by
    rw [Hp.get_set] at h2
    by_cases hγ : γ = β
    · rw [if_pos hγ] at h2; cases h2; cases h3
    · rw [if_neg hγ] at h2
      obtain ⟨b', d', g, h4, h5, h6⟩ := r.olds γ b d k δ h1 h2 h3
      rw [Hp.get_set]
      by_cases hδ : δ = β
      · subst hδ; exact absurd h3 (noOlds_true hno h2)
      · rw [if_neg hδ]; exact ⟨b', d', g, h4, h5, h6⟩
/-- What lies aside may turn. -/
theorem Rel.aside (r : Rel P B φ σ h) {h' : Array Obj} (hs : h.size ≤ h'.size) (hc : ∀ b, csz h b ≤ csz h' b) (he : ∀ b, ¬ B b → h'[b]? = h[b]?) : Rel P B φ σ h' where
  fresh := r.fresh
  low β b d hb := let ⟨h1, h2⟩ := r.low β b d hb; ⟨h1, by omega⟩
  blk β b d hb := by
    obtain ⟨k, h1, h2⟩ := r.blk β b d hb
    by_cases hB : B b
    · obtain ⟨k0, e0, dd⟩ := (r.low β b d hb).1 hB
      rw [h1] at e0; cases e0
      refine ⟨k, h1, ?_⟩
      cases k <;> first | exact .dead _ _ | exact dd.elim
    · exact ⟨k, h1, h2.mono φ.le_refl hc (he b hB)⟩
  inj := r.inj
  olds := r.olds
end
theorem Ext.less {B B' : Fz} {φ φ' : Emb} {σ σ' : Hp} {h h' : Array Obj} (x : Ext B φ σ h φ' σ' h') (hB : ∀ b, B' b → B b) : Ext B' φ σ h φ' σ' h' :=
  ⟨x.le, x.nx, x.new, x.frame, x.size, x.csz, fun b hb => x.low b (hB b hb)⟩
theorem Ext.thaw {B : Fz} {φ φ' : Emb} {σ σ' : Hp} {h h' : Array Obj} {β : Ad} {k : Blk} {y : Nat × Nat} (hβ : φ β = some y) (x : Ext B φ (σ.set β .dead) h φ' σ' h') : Ext B φ σ h φ' (σ'.set β k) h' :=
  ⟨x.le, by have := x.nx; rw [Hp.nx_set] at this ⊢; exact this, fun γ z h1 h2 => by have := x.new γ z h1 h2; rw [Hp.nx_set] at this; exact this, fun γ h1 h2 => by
    have hγ : γ ≠ β := fun e => by subst e; rw [hβ] at h1; cases h1
    have := x.frame γ h1 (by rw [Hp.nx_set]; exact h2)
    rw [Hp.get_set, if_neg hγ] at this ⊢
    exact this, x.size, x.csz, x.low⟩
/-! ### The round -/
theorem hereK_true {fit : OpdF} {α : Ad} {t : Regs} {k : Bool} (h : hereK fit α t k = true) : fit t .nil = .ptr α 0 ∧ k = true := by
  obtain ⟨γ, o, e, h1⟩ := AV.asPtr_true h
  rw [Ad.beqK_eq] at h1
  split at h1
  · rename_i e'
    obtain ⟨h2, h3⟩ := sel_yes h1
    rw [e, ← e', Nat.eq_of_beq_eq_true h2]
    exact ⟨rfl, h3⟩
  · cases h1
theorem dst_cx_glob {C C' : Cx} {dst : Option Tmp} {d : Dst} (h : dstW C dst = some (d, C')) : C'.E = C.E ∧ C'.n = C.n := dstW_cx h
section
variable {P : Program} {ih : Lv}
/-- A region whose first operation is told apart. -/
theorem first_q (H : LvQ P ih) {fn i2 : Nat} {ops : Array Oper} {r2 : List Oper} {hd : Oper} (hops : ops.toList = hd :: r2) {tn : Nat} (hdst : hd.dst = some tn) (hgd : hd.guard = none) (hnd : ∀ c, hd.op ≠ .defer c) {dn : Dst} {Cn : Cx} (hdn : dstW (cxOf P fn) (some tn) = some (dn, Cn))
    {t : Regs} {σ : Hp} {kk : KO} {v : AV} {x : Value} {F : Fz} {φ : Emb} {a : Act} {w w1 : World} {ro : Option Nat} {Q : Exit → Act → World → Prop}
    (hk : (putK dn v t .nil fun t ls => (opsW P ops.toList Cn r2).run ih t ls σ kk) = true)
    (hrun : (execOp a.eval { dst := none, op := hd.op, type := hd.type, pos := "", after := #[], guard := none }).run P w = .ok (.value x) w1)
    (hv : VR φ (csz w1.heap) v x) (r : Rel P F φ σ w1.heap) (hF : F.le w1.heap.size) (he : ER φ (csz w1.heap) (cxOf P fn) t a.tmps)
    (hq : ∀ t' σ' a' w', kk t' σ' = true → RegionOK P F φ σ w1 (cxOf P fn) t' σ' a a' w' → Q .normal a' w') : (Code.region i2 ops false).wpIn (FW ro) 0 P Q a w := by
  refine wpIn_region ?_
  have hsz : ops.size = r2.length + 1 := by rw [← Array.length_toList, hops]; rfl
  have hr : List.range ops.size = 0 :: List.range' 1 r2.length := by rw [hsz, List.range_eq_range', List.range'_succ]
  rw [hr]
  have h0 : ops[0]? = some hd := by rw [← Array.getElem?_toList, hops]; rfl
  refine ops_val (some tn) hd.op x w1 h0 hgd rfl hdst hnd hrun ?_
  rw [putK_eq hdn] at hk
  obtain ⟨hE, hn⟩ := dstW_cx hdn
  have hb := cxOf_binds P fn
  have := opsW_q H ops.toList r2 1 Cn _ _ σ kk (by rw [hops]; rfl) hk (ro := ro) (Q := Q) r hF ((EnvR.of_er hb he).put hdn hv (ds := a.defers)) fun t' σ' a' w' hk2 ⟨⟨φ', r1, x1, e1⟩, hdf, s⟩ =>
    hq t' σ' a' w' hk2 ⟨⟨φ', r1, x1, e1.cx hE.symm hn.symm⟩, hdf.trans (put_eta _ _ _), s⟩
  simpa using this
end
end Go.Am
