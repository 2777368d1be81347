import Derived.Test.YtfdbmpokhfjdoaaGreatDoorAmS4
set_option linter.unusedSimpArgs false
set_option linter.unusedVariables false
/-! Soundness, 5: slices that grow. -/
namespace Go.Am
open Go
section
variable {P : Program} {B : Fz} {φ : Emb} {σ σ' : Hp} {h h' : Array Obj}
/-- A block is grown over: of it no more than its first cells are seen. -/
theorem Rel.staled (r : Rel P B φ σ h) {β : Ad} {b d n m sh : Nat} {c : AV} {pl : Bool} {olds : List Ad} (hβ : φ β = some (b, d)) (hk : σ.get β = some (.cells n c 0 pl sh olds))
    {cs cs' : Array Value} {e : TypeId} {fz : Nat × Nat} (hw : h[b]? = some (.cells cs e fz)) (hm : m ≤ n)
    (hw' : h'[b]? = some (.cells cs' e fz)) (hs : cs'.size = cs.size) (hsz : h'.size = h.size) (hne : ∀ b', b' ≠ b → h'[b']? = h[b']?) (hc : ∀ j, j < d + m → cs'[j]? = cs[j]?)
    (hσ : σ' = if m < sh then (killAll olds σ).set β (.cells m c 1 pl 0 []) else σ.set β (.cells m c 1 pl sh olds)) :
    Rel P B φ σ' h' ∧ Ext B φ σ h φ σ' h' := by
  obtain ⟨cs0, e0, fz0, hw0, hs0, hf, hcc⟩ := r.cells hβ hk
  rw [hw] at hw0; cases hw0
  have hcsz : ∀ b', Am.csz h b' ≤ Am.csz h' b' := fun b' => by
    by_cases hb : b' = b
    · subst hb; rw [csz_cells hw, csz_cells hw', hs]; exact Nat.le_refl _
    · simp only [Am.csz, hne _ hb]; exact Nat.le_refl _
  have hnew : ∀ sh' olds', BR P φ h' (.cells m c 1 pl sh' olds') b d := fun sh' olds' => by
    refine .cells _ _ _ _ _ _ _ _ _ e fz hw' (by omega) (by rw [hs]; exact hf) fun i hi => ?_
    obtain ⟨v, x, h1, h2, h3, h4⟩ := hcc i (by omega)
    exact ⟨v, x, h1, by rw [hc _ (by omega)]; exact h2, h3, h4.mono φ.le_refl hcsz⟩
  refine r.change hβ hk (fun h => h) (by simp [Blk.stale]) (decide (m < sh)) (k' := if m < sh then .cells m c 1 pl 0 [] else .cells m c 1 pl sh olds) (fun γ => ?_) ?_ ?_ ?_ hsz hcsz hne ?_ ?_
  · rw [hσ]
    by_cases hl : m < sh
    · simp only [hl, if_true, decide_true, true_and, Hp.get_set, killAll_get, Blk.olds]
    · simp only [hl, if_false, decide_false, false_and, Hp.get_set, Bool.false_eq_true]
  · rw [hσ]; by_cases hl : m < sh <;> simp [hl, killAll_nx]
  · by_cases hl : m < sh <;> simp [hl, Blk.olds]
  · intro hl; simp only [decide_eq_false_iff_not] at hl; simp [hl, Blk.sh]
  · by_cases hl : m < sh
    · rw [if_pos hl]; exact hnew _ _
    · rw [if_neg hl]; exact hnew _ _
  · intro hl γ d' g hmm hγ hg hnd hlen
    simp only [decide_eq_false_iff_not] at hl
    obtain ⟨g', hg', hbr⟩ := r.blk _ _ _ hγ
    rw [hg] at hg'; cases hg'
    cases hbr with
    | cells n2 c2 st2 pl2 sh2 olds2 _ _ cs2 e2 fz2 hw2 hn2 hf2 hc2 =>
      rw [hw] at hw2; cases hw2
      refine .cells _ _ _ _ _ _ _ _ _ e fz hw' (by omega) (by rw [hs]; exact hf2) fun i hi => ?_
      obtain ⟨v, x, h1, h2, h3, h4⟩ := hc2 i hi
      simp only [Blk.len, Blk.sh] at hlen
      exact ⟨v, x, h1, by rw [hc _ (by omega)]; exact h2, h3, h4.mono φ.le_refl hcsz⟩
    | mp m _ es cl hw2 => rw [hw] at hw2; cases hw2
    | loop st j fn t ps as body df _ dd tmps fn' hw2 => rw [hw] at hw2; cases hw2
    | defr o _ hw2 => rw [hw] at hw2; cases hw2
    | dead => exact absurd trivial hnd
theorem Ext.share {φ : Emb} (x : Ext B φ σ h φ σ' h') {σ2 : Hp} {k : Blk} (m : σ'.Made k σ2) {h2 : Array Obj} {y : Nat × Nat} (hn : φ σ'.nx = none) (hlow : ∀ b, B b → h2[b]? = h[b]?) (hs : h.size ≤ h2.size) (hc : ∀ b, Am.csz h b ≤ Am.csz h2 b) (hnx : σ'.nx = σ.nx) :
    Ext B φ σ h (φ.put σ'.nx y) σ2 h2 where
  le := Emb.put_le hn
  nx := by rw [m.nx, hnx]; omega
  new β z h1 h2 := by
    rcases Emb.put_inv h1 with ⟨rfl, _⟩ | ⟨_, h1⟩
    · rw [hnx]; exact Nat.le_refl _
    · rw [h2] at h1; cases h1
  frame β h1 h2 := by
    rw [m.get, if_neg (by rintro rfl; rw [hnx] at h2; exact Nat.lt_irrefl _ h2)]
    exact x.frame β h1 h2
  size := hs
  csz := hc
  low := hlow
/-- A slice grows: the model writes behind it, in the same block; or it makes a new one. -/
theorem growK_sound {β : Ad} {off l es need : Nat} {src : AV} {n : Nat} {cc : AV} {pl : Bool} {sh : Nat} {olds : List Ad} {k : KV} {m : Nat} (hneed : need * es = l + m) (hg : σ.get β = some (.cells n cc 0 pl sh olds)) (hk : growK β off l es need src n cc pl sh olds k σ = true) :
    ∃ v σ', k v σ' = true ∧ ∀ {P B φ h b d}, Rel P B φ σ h → φ β = some (b, d) → B.le h.size → ∃ cs e fz, h[b]? = some (.cells cs e fz) ∧ d + off + l ≤ cs.size ∧ FzOk fz cs.size pl ∧
      ∀ xs : List Value, xs.length = m → CR φ (csz h) src xs →
        (∀ c', (need ≤ c' ∧ c' ≤ 9223372036854775807) → d + off + c' * es ≤ cs.size → ∃ φ', Rel P B φ' σ' (hset h b (.cells (putL cs (d + off + l) xs) e fz)) ∧ Ext B φ σ h φ' σ' (hset h b (.cells (putL cs (d + off + l) xs) e fz)) ∧
          VR φ' (csz (hset h b (.cells (putL cs (d + off + l) xs) e fz))) v (.slice (some ⟨b, d + off, none⟩) need c')) ∧
        (∀ c' el (ys : List Value), (need ≤ c' ∧ c' ≤ 9223372036854775807) → ys.length = (c' - need) * es → ∃ φ', Rel P B φ' σ' (h.push (.cells (((cs.toList.drop (d + off)).take l ++ xs ++ ys).toArray) el)) ∧
          Ext B φ σ h φ' σ' (h.push (.cells (((cs.toList.drop (d + off)).take l ++ xs ++ ys).toArray) el)) ∧
          VR φ' (csz (h.push (.cells (((cs.toList.drop (d + off)).take l ++ xs ++ ys).toArray) el))) v (.slice (some ⟨h.size, 0, none⟩) need c')) := by
  unfold growK at hk
  simp only [Nat.add_eq, Nat.mul_eq] at hk
  obtain ⟨h1, hk1⟩ := sel_yes hk
  clear hk
  have hle : off + l ≤ n := Nat.le_of_ble_eq_true h1
  obtain ⟨a, hk2, ha⟩ := AV.rsubK_true hk1
  clear hk1
  obtain ⟨rr, hk3, hr1, hr2⟩ := AV.rjoinK_true hk2
  clear hk2
  rw [sel_eq] at hk3
  -- both roads: a heap where the elder is stale, then a new block
  have key : ∃ σ1 σ2 ol, σ1 = (if off + l < sh then (killAll olds σ).set β (.cells (off + l) cc 1 pl 0 []) else σ.set β (.cells (off + l) cc 1 pl sh olds)) ∧ σ1.nx = σ.nx ∧ (ol = if off + l < sh then [] else olds) ∧
      σ1.Made (.cells (need * es) rr 0 pl l (β :: ol)) σ2 ∧ k (.slice σ1.nx 0 need false need es) σ2 = true := by
    by_cases hl : off + l < sh
    · rw [if_pos (Nat.ble_eq_true_of_le hl), killK_eq, Hp.setK_eq] at hk3
      obtain ⟨σ2, hm, hk4⟩ := Hp.newK_true hk3
      exact ⟨_, σ2, [], by rw [if_pos hl], by simp [killAll_nx], by rw [if_pos hl], hm, hk4⟩
    · rw [if_neg (fun hb => hl (Nat.le_of_ble_eq_true hb)), Hp.setK_eq] at hk3
      obtain ⟨σ2, hm, hk4⟩ := Hp.newK_true hk3
      exact ⟨_, σ2, olds, by rw [if_neg hl], by simp, by rw [if_neg hl], hm, hk4⟩
  obtain ⟨σ1, σ2, ol, e1, enx, eol, hm, hk4⟩ := key
  refine ⟨_, σ2, hk4, fun {P B φ h b d} r hβ hB => ?_⟩
  obtain ⟨cs, e, fz, hw, hs, hf, hcc⟩ := r.cells hβ hg
  refine ⟨cs, e, fz, hw, by omega, hf, fun xs hx hcr => ?_⟩
  have hg1 : σ1.get β = some (.cells (off + l) cc 1 pl (if off + l < sh then 0 else sh) (if off + l < sh then [] else olds)) := by
    rw [e1]; by_cases hl : off + l < sh <;> simp [hl]
  have hn1 : φ σ1.nx = none := by rw [enx]; exact r.nx_none
  have hold : ∀ γ b' d' k, φ γ = some (b', d') → σ2.get γ = some k → b' = b → k.isDead ∨ γ ∈ β :: ol := fun γ b' d' kk hγ hkk hb => by
    subst hb
    have hne : γ ≠ σ1.nx := by rintro rfl; rw [hn1] at hγ; cases hγ
    rw [hm.get, if_neg hne] at hkk
    by_cases hγβ : γ = β
    · right; simp [hγβ]
    · have hkk' : σ1.get γ = if off + l < sh ∧ γ ∈ olds then some .dead else σ.get γ := by
        rw [e1]; by_cases hl : off + l < sh <;> simp [hl, hγβ, killAll_get]
      by_cases hki : off + l < sh ∧ γ ∈ olds
      · rw [hkk', if_pos hki] at hkk; cases hkk; exact .inl trivial
      · rw [hkk', if_neg hki] at hkk
        rcases r.inj _ _ _ _ _ _ _ hβ hγ (Ne.symm hγβ) hg hkk with h | h | h | h
        · exact absurd h (fun h => h)
        · exact .inl h
        · right
          have : ¬ off + l < sh := fun hl => hki ⟨hl, h⟩
          rw [eol, if_neg this]
          exact List.mem_cons_of_mem _ h
        · exact absurd h (r.live_olds hβ hg (fun h => h) (by simp [Blk.stale]) hγ hkk)
  have holds : ∀ bb dd, (bb = b ∧ dd = d + off) ∨ bb = h.size → ∀ γ ∈ β :: ol, ∃ b' d' k, φ γ = some (b', d') ∧ σ2.get γ = some k ∧ (k.isDead ∨ k.stale ∧ (b' = bb → d' + k.len ≤ dd + l)) := fun bb dd hbd γ hγ => by
    have hne : φ γ ≠ none → γ ≠ σ1.nx := by rintro hh rfl; exact hh hn1
    rcases List.mem_cons.1 hγ with rfl | hγ
    · refine ⟨b, d, .cells (off + l) cc 1 pl (if off + l < sh then 0 else sh) (if off + l < sh then [] else olds), hβ, by rw [hm.get, if_neg (hne (by rw [hβ]; simp)), hg1], .inr ⟨rfl, fun hb => ?_⟩⟩
      simp only [Blk.len]
      rcases hbd with hbd | hbd
      · omega
      · have := (r.low _ _ _ hβ).2; omega
    · have hl : ¬ off + l < sh := fun hl => by rw [eol, if_pos hl] at hγ; cases hγ
      rw [eol, if_neg hl] at hγ
      obtain ⟨b', d', g, q1, q2, q3⟩ := r.olds _ _ _ _ _ hβ hg hγ
      have hγβ : γ ≠ β := by intro he; subst he; exact r.live_olds hβ hg (fun h => h) (by simp [Blk.stale]) hβ hg ‹γ ∈ olds›
      refine ⟨b', d', g, q1, by rw [hm.get, if_neg (hne (by rw [q1]; simp)), e1]; simp [hl, hγβ, q2], ?_⟩
      rcases q3 with q3 | ⟨q3, q4⟩
      · exact .inl q3
      · refine .inr ⟨q3, fun hb => ?_⟩
        rcases hbd with hbd | hbd
        · have := q4 (hb.trans hbd.1); simp only [Blk.sh] at this; omega
        · have := (r.low _ _ _ q1).2; omega
  constructor
  · intro c' hc' hroom
    have hroom2 : need * es ≤ c' * es := Nat.mul_le_mul_right _ hc'.1
    have hget : ∀ j, (putL cs (d + off + l) xs)[j]? = if d + off + l ≤ j ∧ j < d + off + l + xs.length then xs[j - (d + off + l)]? else cs[j]? := fun j => putL_get xs cs _ _ (by omega)
    have hcsz := csz_hset (cs' := putL cs (d + off + l) xs) (e' := e) (fz' := fz) hw (by simp)
    obtain ⟨r1, x1⟩ := r.staled (h' := hset h b (.cells (putL cs (d + off + l) xs) e fz)) (σ' := σ1) hβ hg hw hle (hset_self hw) (by simp) (by simp) (fun b' hb => hset_ne hb)
      (fun j hj => by rw [hget, if_neg (by omega)]) e1
    have r2 : Rel P B φ σ2 _ := r1.frame (fun γ y hy => by rw [hm.get, if_neg]; rintro rfl; rw [hn1] at hy; cases hy) (by rw [hm.nx]; omega)
    refine ⟨φ.put σ1.nx (b, d + off), r2.share (g := .cells (need * es) rr 0 pl l (β :: ol)) hn1 (by rw [hm.nx]; omega) (by rw [hm.get, if_pos rfl]) ⟨fun hBb => by (obtain ⟨k0, e0, dd⟩ := (r.low _ _ _ hβ).1 hBb; rw [hg] at e0; cases e0; exact dd.elim), by rw [hset_size]; exact (r.low _ _ _ hβ).2⟩ ?_ (fun γ d' kk hγ hkk => hold γ b d' kk hγ hkk rfl)
      (holds b (d + off) (.inl ⟨rfl, rfl⟩)), x1.share hm hn1 x1.low x1.size hcsz enx, ?_⟩
    · refine .cells _ _ _ _ _ _ _ _ _ e fz (hset_self hw) (by simp; omega) (by simpa using hf) fun i hi => ?_
      by_cases hil : i < l
      · obtain ⟨v, x, h2, h3, h4, h5⟩ := hcc (off + i) (by omega)
        refine ⟨v, x, by rw [hr1 i hil, (ha i hil).1, h2], by rw [hget, if_neg (by omega), show d + off + i = d + (off + i) by omega, h3], h4, h5.mono (Emb.put_le hn1) hcsz⟩
      · obtain ⟨v, h2, h3, h4⟩ := hcr (i - l) (by omega)
        refine ⟨v, _, by rw [show i = l + (i - l) by omega, hr2, h2], by rw [hget, if_pos (by omega), show d + off + i - (d + off + l) = i - l by omega]; exact List.getElem?_eq_getElem _, h3, h4.mono (Emb.put_le hn1) hcsz⟩
    · exact .slice σ1.nx 0 need false need es b (d + off) c' (Emb.put_self _ _ _) (fun h => by cases h) hc' (Nat.le_refl _) (by rw [csz_cells (hset_self hw)]; simpa using hroom)
  · intro c' el ys hc' hys
    obtain ⟨r1, x1⟩ := r.staled (h' := h) (σ' := σ1) hβ hg hw hle hw rfl rfl (fun _ _ => rfl) (fun _ _ => rfl) e1
    have r2 : Rel P B φ σ2 h := r1.frame (fun γ y hy => by rw [hm.get, if_neg]; rintro rfl; rw [hn1] at hy; cases hy) (by rw [hm.nx]; omega)
    generalize hobj : Obj.cells (((cs.toList.drop (d + off)).take l ++ xs ++ ys).toArray) el = obj
    have r3 : Rel P B φ σ2 (h.push obj) := r2.more (by simp) (csz_push h obj) fun _ hb => push_old obj hb
    have hlt : ((cs.toList.drop (d + off)).take l).length = l := by simp; omega
    have hself : (h.push obj)[h.size]? = some obj := by simp
    have hcs : csz (h.push obj) h.size = l + xs.length + ys.length := by
      rw [← hobj] at hself ⊢
      rw [csz_cells hself]; simp; omega
    refine ⟨φ.put σ1.nx (h.size, 0), r3.share (g := .cells (need * es) rr 0 pl l (β :: ol)) hn1 (by rw [hm.nx]; omega) (by rw [hm.get, if_pos rfl]) ⟨fun hBb => absurd (hB _ hBb) (Nat.lt_irrefl _), by simp⟩ ?_ (fun γ d' kk hγ hkk => absurd (r.low _ _ _ hγ).2 (Nat.lt_irrefl _))
      (holds h.size 0 (.inr rfl)), x1.share hm hn1 (fun b' hb' => push_old obj (hB b' hb')) (by simp) (csz_push h obj) enx, ?_⟩
    · rw [← hobj] at hself ⊢
      refine .cells _ _ _ _ _ _ _ _ _ el (0, 0) hself (by simp; omega) ⟨fun _ => rfl, .inl rfl⟩ fun i hi => ?_
      rw [hobj]
      by_cases hil : i < l
      · obtain ⟨v, x, h2, h3, h4, h5⟩ := hcc (off + i) (by omega)
        refine ⟨v, x, by rw [hr1 i hil, (ha i hil).1, h2], ?_, h4, h5.mono (Emb.put_le hn1) (csz_push h obj)⟩
        rw [← h3]
        simp only [Nat.zero_add, List.getElem?_toArray]
        rw [List.append_assoc, List.getElem?_append_left (by omega), List.getElem?_take_of_lt hil, List.getElem?_drop, show d + off + i = d + (off + i) by omega]
        simp
      · obtain ⟨v, h2, h3, h4⟩ := hcr (i - l) (by omega)
        refine ⟨v, _, by rw [show i = l + (i - l) by omega, hr2, h2], ?_, h3, h4.mono (Emb.put_le hn1) (csz_push h obj)⟩
        simp only [Nat.zero_add, List.getElem?_toArray]
        rw [List.append_assoc, List.getElem?_append_right (by omega), hlt, List.getElem?_append_left (by omega)]
        exact List.getElem?_eq_getElem _
    · refine .slice σ1.nx 0 need false need es h.size 0 c' (Emb.put_self _ _ _) (fun h => by cases h) hc' (Nat.le_refl _) ?_
      rw [hcs, hx, hys, ← Nat.sub_add_cancel hc'.1, Nat.add_sub_cancel, Nat.add_mul]
      omega
end
end Go.Am
