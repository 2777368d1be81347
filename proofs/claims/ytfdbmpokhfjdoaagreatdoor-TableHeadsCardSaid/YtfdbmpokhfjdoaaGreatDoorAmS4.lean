import Derived.Test.YtfdbmpokhfjdoaaGreatDoorAmS3
import Derived.Laws.IdiomCopy
set_option linter.unusedSimpArgs false
set_option linter.unusedVariables false
/-! Soundness, 4: reading and writing cells. -/
namespace Go.Am
open Go

def putL (cs : Array Value) : Nat → List Value → Array Value
  | _, [] => cs
  | o, v :: r => putL (cs.setIfInBounds o v) (o + 1) r
@[simp] theorem putL_size (vs : List Value) : ∀ (cs : Array Value) (o : Nat), (putL cs o vs).size = cs.size := by
  induction vs with
  | nil => exact fun _ _ => rfl
  | cons v r ih => intro cs o; rw [putL, ih]; simp
theorem putL_get (vs : List Value) : ∀ (cs : Array Value) (o j : Nat), o + vs.length ≤ cs.size → (putL cs o vs)[j]? = if o ≤ j ∧ j < o + vs.length then vs[j - o]? else cs[j]? := by
  induction vs with
  | nil => intro cs o j _; simp only [putL, List.length_nil]; rw [if_neg (by omega)]
  | cons v r ih =>
    intro cs o j hs
    simp only [List.length_cons] at hs ⊢
    rw [putL, ih _ _ _ (by simp; omega)]
    by_cases h1 : o + 1 ≤ j ∧ j < o + 1 + r.length
    · rw [if_pos h1, if_pos (by omega), show j - o = (j - (o + 1)) + 1 by omega, List.getElem?_cons_succ]
    · rw [if_neg h1, Array.getElem?_setIfInBounds]
      by_cases h2 : o = j
      · subst h2; rw [if_pos rfl, if_pos (by omega), if_pos (by omega)]; simp
      · rw [if_neg h2, if_neg (by omega)]
/-- A block's cells are others. -/
def hset (h : Array Obj) (b : Nat) (o : Obj) : Array Obj := h.setIfInBounds b o
theorem hset_self {h : Array Obj} {b : Nat} {o o' : Obj} (hb : h[b]? = some o') : (hset h b o)[b]? = some o := by
  have : b < h.size := by obtain ⟨h, _⟩ := Array.getElem?_eq_some_iff.1 hb; exact h
  simp [hset, this]
theorem hset_ne {h : Array Obj} {b b' : Nat} {o : Obj} (hb : b' ≠ b) : (hset h b o)[b']? = h[b']? := by
  simp only [hset, Array.getElem?_setIfInBounds]; rw [if_neg (Ne.symm hb)]
@[simp] theorem hset_size (h : Array Obj) (b : Nat) (o : Obj) : (hset h b o).size = h.size := by simp [hset]
theorem csz_hset {h : Array Obj} {b : Nat} {cs cs' : Array Value} {e e' : TypeId} {fz fz' : Nat × Nat} (hb : h[b]? = some (.cells cs e fz)) (hs : cs.size ≤ cs'.size) (b' : Nat) : csz h b' ≤ csz (hset h b (.cells cs' e' fz')) b' := by
  by_cases hbb : b' = b
  · subst hbb; simp only [csz, hset_self hb, hb]; exact hs
  · simp only [csz, hset_ne hbb]; exact Nat.le_refl _
theorem csz_cells {h : Array Obj} {b : Nat} {cs : Array Value} {e : TypeId} {fz : Nat × Nat} (hb : h[b]? = some (.cells cs e fz)) : csz h b = cs.size := by simp [csz, hb]
theorem setCells_eq (vs : List Value) : ∀ (w : World) (b o : Nat) (cs : Array Value) (e : TypeId) (fz : Nat × Nat), w.heap[b]? = some (.cells cs e fz) → w.setCells b o vs = { w with heap := hset w.heap b (.cells (putL cs o vs) e fz) } := by
  induction vs with
  | nil =>
    intro w b o cs e fz hw
    obtain ⟨hl, hv⟩ := Array.getElem?_eq_some_iff.1 hw
    simp only [World.setCells, putL]
    have : hset w.heap b (.cells cs e fz) = w.heap := by
      apply Array.ext_getElem?
      intro i
      by_cases hi : i = b
      · subst hi; rw [hset_self hw, hw]
      · rw [hset_ne hi]
    rw [this]
  | cons v r ih =>
    intro w b o cs e fz hw
    obtain ⟨hl, hv⟩ := Array.getElem?_eq_some_iff.1 hw
    have h1 : (w.setCell ⟨b, o, none⟩ v).heap[b]? = some (.cells (cs.setIfInBounds o v) e fz) := by
      simp only [World.setCell, Array.getElem?_modify, hw]; simp
    rw [World.setCells, ih _ _ _ _ _ _ h1, putL]
    have : hset (w.setCell ⟨b, o, none⟩ v).heap b (.cells (putL (cs.setIfInBounds o v) (o + 1) r) e fz) = hset w.heap b (.cells (putL (cs.setIfInBounds o v) (o + 1) r) e fz) := by
      apply Array.ext_getElem?
      intro i
      by_cases hi : i = b
      · subst hi; rw [hset_self h1, hset_self hw]
      · rw [hset_ne hi, hset_ne hi]; simp only [World.setCell, Array.getElem?_modify]; rw [if_neg (Ne.symm hi)]
    rw [this]; rfl
theorem cell?_of {w : World} {b i : Nat} {cs : Array Value} {e : TypeId} {fz : Nat × Nat} (hw : w.heap[b]? = some (.cells cs e fz)) : w.cell? ⟨b, i, none⟩ = cs[i]? := by simp [World.cell?, hw]
theorem Addr.add_none (b o i : Nat) : (⟨b, o, none⟩ : Addr).add i = ⟨b, o + i, none⟩ := by unfold Addr.add; split <;> simp_all
theorem run_storeCells_am {P : Program} {w : World} {b o : Nat} {cs : Array Value} {e : TypeId} {fz : Nat × Nat} (hw : w.heap[b]? = some (.cells cs e fz)) (vs : List Value) (hs : o + vs.length ≤ cs.size)
    (hf : ∀ i, i < cs.size → ¬(fz.1 ≤ i ∧ i < fz.2)) (h1 : ∀ v ∈ vs, v.oneCell' = true) : (storeCells ⟨b, o, none⟩ vs).run P w = .ok () { w with heap := hset w.heap b (.cells (putL cs o vs) e fz) } := by
  rw [run_storeCells_cells b o vs 0 w (fun j hj => ?_) (fun j hj => ?_) h1, Nat.add_zero, setCells_eq vs w b o cs e fz hw]
  · rw [cell?_of hw]; simp; omega
  · simp only [World.frozen?, hw, Nat.add_zero]
    have := hf (o + j) (by omega)
    simpa using this

/-- Rows of cells. -/
def CR (φ : Emb) (κ : Nat → Nat) (r : AV) (xs : List Value) : Prop := ∀ i (h : i < xs.length), ∃ v, r.rget i = some v ∧ v.plain ∧ VR φ κ v xs[i]
theorem CR.mono {φ φ' : Emb} {κ κ' : Nat → Nat} {r : AV} {xs : List Value} (h : CR φ κ r xs) (hφ : φ.le φ') (hκ : ∀ b, κ b ≤ κ' b) : CR φ' κ' r xs :=
  fun i hi => let ⟨v, h1, h2, h3⟩ := h i hi; ⟨v, h1, h2, h3.mono hφ hκ⟩
theorem CR.one {φ : Emb} {κ : Nat → Nat} {r : AV} {xs : List Value} (h : CR φ κ r xs) : ∀ v ∈ xs, v.oneCell' = true := fun v hv => by
  obtain ⟨i, hi, rfl⟩ := List.getElem_of_mem hv
  obtain ⟨u, _, h2, h3⟩ := h i hi
  exact h3.one h2
theorem CR.agg {φ : Emb} {κ : Nat → Nat} {c : AV} {xs : Array Value} (h : CR φ κ c xs.toList) : VR φ κ (.agg xs.size c) (.agg xs) :=
  .agg xs.size c xs rfl (fun i => (c.rget i).getD .undef) (fun i hi => by obtain ⟨v, h1, _⟩ := h i (by simpa using hi); simp [h1])
    (fun i hi => by obtain ⟨v, h1, _, h3⟩ := h i (by simpa using hi); simpa [h1] using h3) (fun i hi => by obtain ⟨v, h1, h2, _⟩ := h i (by simpa using hi); simpa [h1] using h2)
theorem VR.agg_inv {φ : Emb} {κ : Nat → Nat} {n : Nat} {c : AV} {x : Value} (h : VR φ κ (.agg n c) x) : ∃ xs : Array Value, x = .agg xs ∧ xs.size = n ∧ CR φ κ c xs.toList := by
  cases h with
  | agg _ _ xs hn f hf h h1 =>
    refine ⟨xs, rfl, hn, fun i hi => ?_⟩
    have hi' : i < xs.size := by simpa using hi
    refine ⟨f i, hf i (by omega), h1 i hi', by simpa using h i hi'⟩

section
variable {P : Program} {B : Fz} {φ : Emb} {σ σ' : Hp} {h h' : Array Obj}
theorem FzOk.free {fz : Nat × Nat} {n : Nat} {pl : Bool} (hf : FzOk fz n pl) : ∀ i, i < n → ¬(fz.1 ≤ i ∧ i < fz.2) := fun i hi => by
  rcases hf.2 with rfl | rfl <;> simp; omega
theorem Rel.cells (r : Rel P B φ σ h) {β : Ad} {b d n st sh : Nat} {c : AV} {pl : Bool} {olds : List Ad} (hβ : φ β = some (b, d)) (hk : σ.get β = some (.cells n c st pl sh olds)) :
    ∃ cs e fz, h[b]? = some (.cells cs e fz) ∧ d + n ≤ cs.size ∧ FzOk fz cs.size pl ∧ ∀ i, i < n → ∃ v x, c.rget i = some v ∧ cs[d + i]? = some x ∧ v.plain ∧ VR φ (Am.csz h) v x := by
  obtain ⟨k, h1, h2⟩ := r.blk _ _ _ hβ
  rw [hk] at h1; cases h1
  cases h2 with
  | cells _ _ _ _ _ _ _ _ cs e fz hw hn hf hc => exact ⟨cs, e, fz, hw, hn, hf, hc⟩
theorem loadBlk_sound {β : Ad} {off : Nat} {k : AV → Bool} (hl : loadBlk σ β off k = true) :
    ∃ v, k v = true ∧ ∀ {P B φ h b d}, Rel P B φ σ h → φ β = some (b, d) → ∃ cs e fz x, h[b]? = some (.cells cs e fz) ∧ cs[d + off]? = some x ∧ v.plain ∧ VR φ (csz h) v x := by
  obtain ⟨n, c, st, pl, sh, olds, hg, hl⟩ := Hp.cellsK_true hl
  obtain ⟨h1, hl⟩ := sel_yes hl
  have hn : off < n := Nat.le_of_ble_eq_true h1
  obtain ⟨v, hv, hl⟩ := AV.rgetK_true hl
  refine ⟨v, hl, fun r hβ => ?_⟩
  obtain ⟨cs, e, fz, hw, _, _, hc⟩ := r.cells hβ hg
  obtain ⟨v', x, h2, h3, h4, h5⟩ := hc off hn
  rw [hv] at h2; cases h2
  exact ⟨cs, e, fz, x, hw, h3, h4, h5⟩
theorem loadBlkN_sound {β : Ad} {off m : Nat} {k : AV → Bool} (hl : loadBlkN σ β off m k = true) :
    ∃ v, k v = true ∧ ∀ {P B φ h b d}, Rel P B φ σ h → φ β = some (b, d) → ∃ cs e fz, h[b]? = some (.cells cs e fz) ∧ d + off + m ≤ cs.size ∧ CR φ (csz h) v ((cs.toList.drop (d + off)).take m) := by
  obtain ⟨n, c, st, pl, sh, olds, hg, hl⟩ := Hp.cellsK_true hl
  obtain ⟨h1, hl⟩ := sel_yes hl
  have hn : off + m ≤ n := Nat.le_of_ble_eq_true h1
  obtain ⟨v, hl, hv⟩ := AV.rsubK_true hl
  refine ⟨v, hl, fun {P B φ h b d} r hβ => ?_⟩
  obtain ⟨cs, e, fz, hw, hs, _, hc⟩ := r.cells hβ hg
  refine ⟨cs, e, fz, hw, by omega, fun i hi => ?_⟩
  simp only [List.length_take, List.length_drop, Array.length_toList] at hi
  obtain ⟨v', x, h2, h3, h4, h5⟩ := hc (off + i) (by omega)
  refine ⟨v', by rw [(hv i (by omega)).1]; exact h2, h4, ?_⟩
  rw [List.getElem_take, List.getElem_drop]
  obtain ⟨hlt, hx⟩ := Array.getElem?_eq_some_iff.1 h3
  rw [Array.getElem_toList]
  simp only [show d + off + i = d + (off + i) by omega, hx]
  exact h5
theorem wrote_eq (σ : Hp) (β : Ad) (off n : Nat) (c' : AV) (pl : Bool) (sh : Nat) (olds : List Ad) (k : Hp → Bool) :
    wrote σ β off n c' pl sh olds k = if off < sh then k ((killAll olds σ).set β (.cells n c' 0 pl 0 [])) else k (σ.set β (.cells n c' 0 pl sh olds)) := by
  unfold wrote
  rw [sel_eq, killK_eq, Hp.setK_eq, Hp.setK_eq]
  by_cases hl : off < sh
  · rw [if_pos hl, if_pos (Nat.ble_eq_true_of_le hl)]
  · rw [if_neg hl, if_neg (fun hb => hl (Nat.le_of_ble_eq_true hb))]
/-- What a write of cells does to both. -/
theorem Rel.write (r : Rel P B φ σ h) {β : Ad} {b d n sh off : Nat} {c c' : AV} {pl : Bool} {olds : List Ad} (hβ : φ β = some (b, d)) (hk : σ.get β = some (.cells n c 0 pl sh olds))
    {cs : Array Value} {e : TypeId} {fz : Nat × Nat} (hw : h[b]? = some (.cells cs e fz)) (xs : List Value) (hle : off + xs.length ≤ n)
    (hc : ∀ i, i < n → (off ≤ i ∧ i < off + xs.length → ∃ v x, c'.rget i = some v ∧ xs[i - off]? = some x ∧ v.plain ∧ VR φ (Am.csz h) v x) ∧ (¬(off ≤ i ∧ i < off + xs.length) → c'.rget i = c.rget i))
    (hσ : σ' = if off < sh then (killAll olds σ).set β (.cells n c' 0 pl 0 []) else σ.set β (.cells n c' 0 pl sh olds)) :
    Rel P B φ σ' (hset h b (.cells (putL cs (d + off) xs) e fz)) ∧ Ext B φ σ h φ σ' (hset h b (.cells (putL cs (d + off) xs) e fz)) := by
  obtain ⟨cs', e', fz', hw', hs, hf, hcc⟩ := r.cells hβ hk
  rw [hw] at hw'; cases hw'
  have hcsz := csz_hset (cs' := putL cs (d + off) xs) (e' := e) (fz' := fz) hw (by simp)
  have hget : ∀ j, (putL cs (d + off) xs)[j]? = if d + off ≤ j ∧ j < d + off + xs.length then xs[j - (d + off)]? else cs[j]? := fun j => putL_get xs cs _ _ (by omega)
  have hnew : ∀ sh' olds', BR P φ (hset h b (.cells (putL cs (d + off) xs) e fz)) (.cells n c' 0 pl sh' olds') b d := fun sh' olds' => by
    refine .cells _ _ _ _ _ _ _ _ _ e fz (hset_self hw) (by simpa using hs) (by simpa using hf) fun i hi => ?_
    by_cases hin : off ≤ i ∧ i < off + xs.length
    · obtain ⟨v, x, h1, h2, h3, h4⟩ := (hc i hi).1 hin
      refine ⟨v, x, h1, ?_, h3, h4.mono φ.le_refl hcsz⟩
      rw [hget, if_pos (by omega), show d + i - (d + off) = i - off by omega, h2]
    · obtain ⟨v, x, h1, h2, h3, h4⟩ := hcc i hi
      refine ⟨v, x, by rw [(hc i hi).2 hin]; exact h1, ?_, h3, h4.mono φ.le_refl hcsz⟩
      rw [hget, if_neg (by omega), h2]
  refine r.change hβ hk (fun h => h) (by simp [Blk.stale]) (decide (off < sh)) (k' := if off < sh then .cells n c' 0 pl 0 [] else .cells n c' 0 pl sh olds) (fun γ => ?_) ?_ ?_ ?_ (by simp) hcsz (fun b' hb' => hset_ne hb') ?_ ?_
  · rw [hσ]
    by_cases hl : off < sh
    · simp only [hl, if_true, decide_true, true_and, Hp.get_set, killAll_get, Blk.olds]
    · simp only [hl, if_false, decide_false, false_and, Hp.get_set, Bool.false_eq_true]
  · rw [hσ]; by_cases hl : off < sh <;> simp [hl, killAll_nx]
  · by_cases hl : off < sh <;> simp [hl, Blk.olds]
  · intro hl; simp only [decide_eq_false_iff_not] at hl; simp [hl, Blk.sh]
  · by_cases hl : off < sh
    · rw [if_pos hl]; exact hnew _ _
    · rw [if_neg hl]; exact hnew _ _
  · intro hl γ d' g hm hγ hg hnd hlen
    simp only [decide_eq_false_iff_not] at hl
    obtain ⟨g', hg', hbr⟩ := r.blk _ _ _ hγ
    rw [hg] at hg'; cases hg'
    cases hbr with
    | cells n2 c2 st2 pl2 sh2 olds2 _ _ cs2 e2 fz2 hw2 hn2 hf2 hc2 =>
      rw [hw] at hw2; cases hw2
      refine .cells _ _ _ _ _ _ _ _ _ e fz (hset_self hw) (by simpa using hn2) (by simpa using hf2) fun i hi => ?_
      obtain ⟨v, x, h1, h2, h3, h4⟩ := hc2 i hi
      refine ⟨v, x, h1, ?_, h3, h4.mono φ.le_refl hcsz⟩
      simp only [Blk.len, Blk.sh] at hlen
      rw [hget, if_neg (by omega), h2]
    | mp m _ es cl hw2 => rw [hw] at hw2; cases hw2
    | loop st j fn t ps as body df _ dd tmps fn' hw2 => rw [hw] at hw2; cases hw2
    | defr o _ hw2 => rw [hw] at hw2; cases hw2
    | dead => exact absurd trivial hnd
theorem writeK_sound {β : Ad} {off m : Nat} {src : AV} {k : Hp → Bool} (hl : σ.writeK β off m src k = true) :
    ∃ σ', k σ' = true ∧ ∀ {P B φ h b d}, Rel P B φ σ h → φ β = some (b, d) → ∃ cs e fz, h[b]? = some (.cells cs e fz) ∧ d + off + m ≤ cs.size ∧ (∀ i, i < cs.size → ¬(fz.1 ≤ i ∧ i < fz.2)) ∧
      ∀ xs : List Value, xs.length = m → CR φ (csz h) src xs → Rel P B φ σ' (hset h b (.cells (putL cs (d + off) xs) e fz)) ∧ Ext B φ σ h φ σ' (hset h b (.cells (putL cs (d + off) xs) e fz)) := by
  obtain ⟨n, c, st, pl, sh, olds, hg, hl1⟩ := Hp.cellsK_true hl
  clear hl
  obtain ⟨h0, hl2⟩ := sel_yes hl1
  clear hl1
  obtain ⟨h1, hl⟩ := sel_yes hl2
  clear hl2
  obtain rfl : st = 0 := Nat.eq_of_beq_eq_true h0
  have hn : off + m ≤ n := Nat.le_of_ble_eq_true h1
  obtain ⟨c', hl, hc'⟩ := spliceK_true hl hn
  rw [wrote_eq] at hl
  refine ⟨if off < sh then (killAll olds σ).set β (.cells n c' 0 pl 0 []) else σ.set β (.cells n c' 0 pl sh olds), by split <;> simp_all, fun {P B φ h b d} r hβ => ?_⟩
  obtain ⟨cs, e, fz, hw, hs, hf, _⟩ := r.cells hβ hg
  refine ⟨cs, e, fz, hw, by omega, hf.free, fun xs hx hr => ?_⟩
  subst hx
  refine r.write hβ hg hw xs hn (fun i hi => ⟨fun hin => ?_, fun hin => ?_⟩) rfl
  · obtain ⟨v, h1, h2, h3⟩ := hr (i - off) (by omega)
    exact ⟨v, _, by rw [hc' i hi, if_pos hin, h1], List.getElem?_eq_getElem _, h2, h3⟩
  · rw [hc' i hi, if_neg hin]
theorem write1K_sound {β : Ad} {off : Nat} {v : AV} {k : Hp → Bool} (hl : σ.write1K β off v k = true) :
    ∃ σ', k σ' = true ∧ ∀ {P B φ h b d}, Rel P B φ σ h → φ β = some (b, d) → ∃ cs e fz, h[b]? = some (.cells cs e fz) ∧ d + off + 1 ≤ cs.size ∧ (∀ i, i < cs.size → ¬(fz.1 ≤ i ∧ i < fz.2)) ∧
      ∀ x : Value, VR φ (csz h) v x → x.oneCell' = true ∧ Rel P B φ σ' (hset h b (.cells (putL cs (d + off) [x]) e fz)) ∧ Ext B φ σ h φ σ' (hset h b (.cells (putL cs (d + off) [x]) e fz)) := by
  obtain ⟨n, c, st, pl, sh, olds, hg, hl1⟩ := Hp.cellsK_true hl
  clear hl
  obtain ⟨h0, hl2⟩ := sel_yes hl1
  clear hl1
  obtain ⟨h1, hl⟩ := sel_yes hl2
  clear hl2
  obtain rfl : st = 0 := Nat.eq_of_beq_eq_true h0
  have hn : off + 1 ≤ n := Nat.le_of_ble_eq_true h1
  obtain ⟨c', hl, hp, hc', _⟩ := AV.rsetK_true hl
  rw [wrote_eq] at hl
  refine ⟨if off < sh then (killAll olds σ).set β (.cells n c' 0 pl 0 []) else σ.set β (.cells n c' 0 pl sh olds), by split <;> simp_all, fun {P B φ h b d} r hβ => ?_⟩
  obtain ⟨cs, e, fz, hw, hs, hf, _⟩ := r.cells hβ hg
  refine ⟨cs, e, fz, hw, by omega, hf.free, fun x hx => ⟨hx.one hp, ?_⟩⟩
  refine r.write hβ hg hw [x] hn (fun i hi => ⟨fun hin => ?_, fun hin => ?_⟩) rfl
  · simp only [List.length_singleton] at hin
    have : i = off := by omega
    subst this
    exact ⟨v, x, by rw [hc', if_pos rfl], by simp, hp, hx⟩
  · simp only [List.length_singleton] at hin
    rw [hc', if_neg (by omega)]
end
end Go.Am
