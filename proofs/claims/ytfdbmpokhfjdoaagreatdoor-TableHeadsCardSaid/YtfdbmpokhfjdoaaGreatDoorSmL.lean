import Derived.Test.YtfdbmpokhfjdoaaGreatDoorSmK
set_option linter.unusedVariables false
set_option linter.unusedSimpArgs false
namespace Go.Am
open Go Go.Proofs Go.RowKit
/-- A buffer grows: its slice's row in place, or a new one; both are one block of the machine's. -/
noncomputable def bufK (σ : Hp) (δ : Ad) (off : Nat) (β : Ad) (o l es n : Nat) (pp : AV) (k : Hp → Bool) : Bool :=
  sel (Nat.beq es 1) (sel (Nat.ble 1 l) (sel (Nat.ble (Nat.add l n) 140737488355328) (Ad.beqK δ β false
    (σ.cellsK δ fun dn _ dst dpl _ _ => sel dpl (sel (Nat.beq dst 0) (sel (Nat.ble (Nat.add off 3) dn)
      (loadBlk σ δ (Nat.add off 1) fun u => AV.of_i64 u (fun z => sel (Nat.beq z 0)
        (σ.cellsK β fun bn bc bst bpl bsh bolds => sel bpl (sel (Nat.beq bst 0)
          (growK β o l 1 (Nat.add l n) pp bn bc bpl bsh bolds (fun v σ => σ.write1K δ (Nat.add off 2) (.nat .i8 0) fun σ => σ.write1K δ off v fun σ => k σ) σ) false) false) false) (fun _ => false)) false) false) false)) false) false) false
/-- What is known of a buffer and its row. -/
structure BufAt (P : Program) (w : World) (b q g a l : Nat) (cs cur : Array Value) (T tg : TypeId) : Prop where
  hb : w.heap[b]? = some (.cells cs T (0, 0))
  h1 : cs[q + 1]? = some (.int .i64 0)
  h2 : ∃ v2, cs[q + 2]? = some v2
  hq : q < cs.size
  hg : w.heap[g]? = some (.cells cur tg (0, 0))
  ne : g ≠ b
  fit : a + l ≤ cur.size
  one : ∀ v ∈ (cur.toList.drop a).take l, v.oneCell' = true
theorem bufK_sound {P : Program} {σ : Hp} {δ β : Ad} {off o l es n : Nat} {pp : AV} {k : Hp → Bool} (hk : bufK σ δ off β o l es n pp k = true) :
    ∃ σ', k σ' = true ∧ es = 1 ∧ 1 ≤ l ∧ l + n ≤ 140737488355328 ∧ ∀ {B : Fz} {φ : Emb} {w : World} {b d g dg c' : Nat}, Rel P B φ σ w.heap → B.le w.heap.size → φ δ = some (b, d) → φ β = some (g, dg) → c' ≤ 9223372036854775807 → dg + o + c' ≤ csz w.heap g →
      ∃ cs cur T tg, BufAt P w b (d + off) g (dg + o) l cs cur T tg ∧ ∀ ps : List Value, ps.length = n → CR φ (csz w.heap) pp ps →
        (l + n ≤ c' → ∀ w' : World, w'.heap[g]? = some (.cells (putL cur (dg + o + l) ps) tg (0, 0)) → w'.heap[b]? = some (.cells ((cs.setIfInBounds (d + off + 2) (.int .i8 0)).setIfInBounds (d + off) (.slice (some ⟨g, dg + o, none⟩) (l + n) c')) T (0, 0)) →
          (∀ k, k ≠ b → k ≠ g → w'.heap[k]? = w.heap[k]?) → w'.heap.size = w.heap.size → ∃ φ', Rel P B φ' σ' w'.heap ∧ Ext B φ σ w.heap φ' σ' w'.heap) ∧
        (∀ (w' : World) (cap2 : Nat) (cells : Array Value), l + n ≤ cap2 → cap2 ≤ 9223372036854775807 → w'.heap[w.heap.size]? = some (.cells cells 5 (0, 0)) → cells.size = cap2 → cells.toList.take (l + n) = (cur.toList.drop (dg + o)).take l ++ ps →
          w'.heap[b]? = some (.cells (((cs.setIfInBounds (d + off + 2) (.int .i8 0)).setIfInBounds (d + off) (.slice (some ⟨w.heap.size, 0, none⟩) (l + n) cap2)).setIfInBounds (d + off + 1) (.int .i64 0)) T (0, 0)) →
          (∀ k, k < w.heap.size → k ≠ b → w'.heap[k]? = w.heap[k]?) → w.heap.size ≤ w'.heap.size → ∃ φ', Rel P B φ' σ' w'.heap ∧ Ext B φ σ w.heap φ' σ' w'.heap) := by
  obtain ⟨p1, hk1⟩ := sel_yes hk
  obtain ⟨p2, hk2⟩ := sel_yes hk1
  obtain ⟨p3, hk3⟩ := sel_yes hk2
  rw [Ad.beqK_eq] at hk3
  split at hk3
  · cases hk3
  rename_i hδβ
  obtain ⟨dn, dc, dst, dpl, dsh, dolds, hgδ, hk4⟩ := Hp.cellsK_true hk3
  obtain ⟨rfl, hk5⟩ := sel_yes hk4
  obtain ⟨p4, hk6⟩ := sel_yes hk5
  obtain ⟨p5, hk7⟩ := sel_yes hk6
  obtain ⟨u, hk8, hu⟩ := loadBlk_sound hk7
  rcases acc_true (q := .i64) rfl hk8 with ⟨z, rfl, hk9⟩ | ⟨_, _, h⟩
  case inr => cases h
  obtain ⟨p6, hk10⟩ := sel_yes hk9
  obtain rfl : z = 0 := Nat.eq_of_beq_eq_true p6
  obtain ⟨bn, bc, bst, bpl, bsh, bolds, hgβ, hk11⟩ := Hp.cellsK_true hk10
  obtain ⟨rfl, hk12⟩ := sel_yes hk11
  obtain ⟨p7, hk13⟩ := sel_yes hk12
  obtain rfl : dst = 0 := Nat.eq_of_beq_eq_true p4
  obtain rfl : bst = 0 := Nat.eq_of_beq_eq_true p7
  obtain ⟨v, σ1, hk14, hgrow⟩ := growK_sound (m := n) (show Nat.add l n * 1 = l + n from Nat.mul_one _) hgβ hk13
  obtain ⟨σ2, hk15, hw1⟩ := write1K_sound hk14
  obtain ⟨σ3, hk16, hw2⟩ := write1K_sound hk15
  refine ⟨σ3, hk16, (Nat.eq_of_beq_eq_true p1), Nat.le_of_ble_eq_true p2, Nat.le_of_ble_eq_true p3, fun {B φ w b d g dg c'} r hB hδ hβ hcM hroomy => ?_⟩
  have hlim : l + n ≤ 140737488355328 := Nat.le_of_ble_eq_true p3
  have hdn : off + 3 ≤ dn := Nat.le_of_ble_eq_true p5
  obtain ⟨cs, T, fz, hb, hbs, hbf, _⟩ := r.cells hδ hgδ
  obtain rfl : fz = (0, 0) := hbf.1 rfl
  obtain ⟨cur, tg, fz, hg, hgsz, hgf, hcc⟩ := r.cells hβ hgβ
  obtain rfl : fz = (0, 0) := hgf.1 rfl
  obtain ⟨cs', e', fz', x', hb', hx', _, hvx⟩ := hu r hδ
  rw [hb] at hb'
  cases hb'
  cases hvx with
  | nat _ _ =>
  have hne : g ≠ b := by
    rintro rfl
    rcases r.inj _ _ _ _ _ _ _ hδ hβ hδβ hgδ hgβ with h | h | h | h
    · exact h
    · exact h
    · obtain ⟨_, _, y, q1, q2, q3⟩ := r.olds _ _ _ _ _ hδ hgδ h
      rw [hgβ] at q2; cases q2
      rcases q3 with q3 | q3
      · exact q3
      · exact absurd q3.1 (by simp [Blk.stale])
    · obtain ⟨_, _, y, q1, q2, q3⟩ := r.olds _ _ _ _ _ hβ hgβ h
      rw [hgδ] at q2; cases q2
      rcases q3 with q3 | q3
      · exact q3
      · exact absurd q3.1 (by simp [Blk.stale])
  obtain ⟨cur', tg', fz', hg', hfit, _, hgr⟩ := hgrow r hβ hB
  rw [hg] at hg'
  cases hg'
  have hcsz : csz w.heap g = cur.size := csz_cells hg
  have hq2 : d + off + 2 < cs.size := by omega
  refine ⟨cs, cur, T, tg, ⟨hb, by rw [Nat.add_assoc]; exact hx', ⟨_, Array.getElem?_eq_getElem hq2⟩, by omega, hg, hne, hfit, fun y hy => ?_⟩, fun ps hps hcr => ?_⟩
  · obtain ⟨i, hi, rfl⟩ := List.getElem_of_mem hy
    simp only [List.length_take, List.length_drop, Array.length_toList] at hi
    have hol : o + l ≤ bn := Nat.le_of_ble_eq_true (sel_yes (show sel (Nat.ble (Nat.add o l) bn) _ false = true from hk13)).1
    obtain ⟨vv, xx, _, q2, q3, q4⟩ := hcc (o + i) (by omega)
    rw [List.getElem_take, List.getElem_drop, Array.getElem_toList]
    obtain ⟨hlt, hx⟩ := Array.getElem?_eq_some_iff.1 q2
    simp only [show dg + o + i = dg + (o + i) by omega, hx]
    exact q4.one q3
  obtain ⟨hin, hnew⟩ := hgr ps hps hcr
  refine ⟨fun hfits w' h1 h2 h3 h4 => ?_, fun w' cap2 cells g1 g2 g3 g4 g5 g6 g7 g8 => ?_⟩
  · obtain ⟨φ1, r1, x1, v1⟩ := hin c' ⟨hfits, hcM⟩ (by rw [← hcsz, Nat.mul_one]; exact hroomy)
    have hδ1 := x1.le _ _ hδ
    obtain ⟨cs1, e1, fz1, q1, _, _, q4⟩ := hw1 r1 hδ1
    rw [hset_ne (Ne.symm hne), hb] at q1
    cases q1
    obtain ⟨_, r2, x2⟩ := q4 (.int .i8 0) (.nat .i8 0)
    obtain ⟨cs2, e2, fz2, t1, _, _, t4⟩ := hw2 r2 hδ1
    rw [hset_self (show (hset w.heap g (.cells (putL cur (dg + o + l) ps) tg (0, 0)))[b]? = some (.cells cs T (0, 0)) from (hset_ne (Ne.symm hne)).trans hb)] at t1
    cases t1
    obtain ⟨_, r3, x3⟩ := t4 _ (v1.mono φ1.le_refl x2.csz)
    have heq : w'.heap = hset (hset (hset w.heap g (.cells (putL cur (dg + o + l) ps) tg (0, 0))) b (.cells (putL cs (d + Nat.add off 2) [.int .i8 0]) T (0, 0))) b (.cells (putL (putL cs (d + Nat.add off 2) [.int .i8 0]) (d + off) [.slice (some ⟨g, dg + o, none⟩) (Nat.add l n) c']) T (0, 0)) := by
      apply Array.ext_getElem?
      intro kk
      by_cases hkb : kk = b
      · subst hkb
        rw [h2, hset_self (hset_self (show (hset w.heap g (.cells (putL cur (dg + o + l) ps) tg (0, 0)))[kk]? = some (.cells cs T (0, 0)) from (hset_ne (Ne.symm hne)).trans hb))]
        rfl
      · rw [hset_ne hkb, hset_ne hkb]
        by_cases hkg : kk = g
        · subst hkg; rw [h1, hset_self hg]
        · rw [hset_ne hkg, h3 kk hkb hkg]
    exact ⟨φ1, heq ▸ r3, heq ▸ (x1.trans x2).trans x3⟩
  · have hcl : cells.toList = (cur.toList.drop (dg + o)).take l ++ ps ++ cells.toList.drop (l + n) := by
      have := List.take_append_drop (l + n) cells.toList
      rw [g5] at this
      exact this.symm
    have hca : (((cur.toList.drop (dg + o)).take l ++ ps ++ cells.toList.drop (l + n)).toArray) = cells := by rw [← hcl]
    obtain ⟨φ1, r1, x1, v1⟩ := hnew cap2 5 (cells.toList.drop (l + n)) ⟨g1, g2⟩ (by rw [List.length_drop, Array.length_toList, g4, Nat.mul_one]; rfl)
    rw [hca] at r1 x1 v1
    have hbl : b < w.heap.size := (r.low _ _ _ hδ).2
    have hδ1 := x1.le _ _ hδ
    have hb1 : (w.heap.push (.cells cells 5))[b]? = some (.cells cs T (0, 0)) := (push_old _ hbl).trans hb
    obtain ⟨cs1, e1, fz1, q1, _, _, q4⟩ := hw1 r1 hδ1
    rw [hb1] at q1
    cases q1
    obtain ⟨_, r2, x2⟩ := q4 (.int .i8 0) (.nat .i8 0)
    obtain ⟨cs2, e2, fz2, t1, _, _, t4⟩ := hw2 r2 hδ1
    rw [hset_self hb1] at t1
    cases t1
    obtain ⟨_, r3, x3⟩ := t4 _ (v1.mono φ1.le_refl x2.csz)
    generalize hh3 : hset (hset (w.heap.push (.cells cells 5)) b (.cells (putL cs (d + Nat.add off 2) [.int .i8 0]) T (0, 0))) b (.cells (putL (putL cs (d + Nat.add off 2) [.int .i8 0]) (d + off) [.slice (some ⟨w.heap.size, 0, none⟩) (Nat.add l n) cap2]) T (0, 0)) = h3 at r3 x3
    have hs3 : h3.size = w.heap.size + 1 := by rw [← hh3]; simp
    have hbN : w.heap.size ≠ b := Nat.ne_of_gt hbl
    have hlt : w.heap.size < w'.heap.size := by
      rcases Nat.lt_or_ge w.heap.size w'.heap.size with h | h
      · exact h
      · rw [Array.getElem?_eq_none h] at g3; cases g3
    have hsame : ∀ kk, kk < h3.size → w'.heap[kk]? = h3[kk]? := fun kk hkk => by
      rw [← hh3]
      by_cases hkb : kk = b
      · subst hkb
        rw [g6, hset_self (hset_self hb1)]
        congr 2
        apply Array.ext_getElem?
        intro i
        show _ = ((cs.setIfInBounds (d + off + 2) (.int .i8 0)).setIfInBounds (d + off) (.slice (some ⟨w.heap.size, 0, none⟩) (l + n) cap2))[i]?
        by_cases hi : d + off + 1 = i
        · subst hi
          rw [Array.getElem?_setIfInBounds_ne (i := d + off) (by omega), Array.getElem?_setIfInBounds_ne (i := d + off + 2) (by omega), show cs[d + off + 1]? = some (.int .i64 0) from (by rw [Nat.add_assoc]; exact hx')]
          simp only [Array.getElem?_setIfInBounds, Array.size_setIfInBounds]
          rw [if_pos trivial, if_pos (by omega)]
        · rw [Array.getElem?_setIfInBounds_ne hi]
      · rw [hset_ne hkb, hset_ne hkb]
        by_cases hkN : kk = w.heap.size
        · subst hkN; rw [g3]; simp
        · rw [push_old _ (by omega)]; exact g7 kk (by omega) hkb
    have hcs3 : ∀ kk, csz h3 kk ≤ csz w'.heap kk := fun kk => by
      by_cases hkk : kk < h3.size
      · unfold csz; rw [hsame kk hkk]; exact Nat.le_refl _
      · unfold csz; rw [Array.getElem?_eq_none (by omega)]; exact Nat.zero_le _
    have xx := (x1.trans x2).trans x3
    have hle : h3.size ≤ w'.heap.size := by omega
    exact ⟨φ1, r3.more hle hcs3 hsame, ⟨xx.le, xx.nx, xx.new, xx.frame, Nat.le_trans xx.size hle, fun kk => Nat.le_trans (xx.csz kk) (hcs3 kk), fun kk hkk => (hsame kk (Nat.lt_of_lt_of_le (hB kk hkk) xx.size)).trans (xx.low kk hkk)⟩⟩
end Go.Am
