import Derived.Test.YtfdbmpokhfjdoaaGreatDoorSmH
import Derived.Lib.BufferGrow
import Derived.Lib.Hide
import Derived.RegionTactic
import Derived.Deep.RegionWith
import Derived.Deep.Draws
import Derived.BigGuard
set_option linter.unusedVariables false
set_option linter.unusedSimpArgs false
namespace Go.Proofs
open Go.Shelf Go.RowKit
set_option maxHeartbeats 6400000 in
set_option maxRecDepth 100000 in
theorem Tryz.len_any (b q l c : Nat) (ao : Option Addr) (w : World) (c0 : w.cell? ⟨b, q, none⟩ = some (.slice ao l c)) (c1 : w.cell? ⟨b, q + 1, none⟩ = some (.int .i64 0)) (hlc : l ≤ c) (hcm : c ≤ maxLen) :
    Calls Tryz.prog 287 #[.pointer (some ⟨b, q, none⟩)] w fun e w' => e = .returned (.int .i64 l) ∧ ∃ n, w' = w.drewN n := by
  have hcm' := hcm
  unfold maxLen at hcm'
  go_enter Tryz.func287, Tryz.ntmps287
  go_wp2
  go_region
  all_goals (
    go_wp2
    go_ret
    exact ⟨by simp, 1, rfl⟩)
theorem Tryz.heap_set3 {w : World} {b q : Nat} {cs : Array Value} {T : TypeId} (hb : w.heap[b]? = some (.cells cs T (0, 0))) (x y z : Value) :
    (((w.setCell ⟨b, q, none⟩ x).setCell ⟨b, q + 1, none⟩ y).setCell ⟨b, q, none⟩ z).heap[b]? = some (.cells (((cs.setIfInBounds q x).setIfInBounds (q + 1) y).setIfInBounds q z) T (0, 0)) :=
  Lib.heap_setCell_same (i := q) (Lib.heap_setCell_same (i := q + 1) (Lib.heap_setCell_same (i := q) hb x) y) z
theorem Tryz.grow_fin {w w' w2 : World} {b q l n cap2 : Nat} {cs cells : Array Value} {T : TypeId} {xs : List Value} (hs : w'.heap = w.heap ∧ w'.os = w.os ∧ w'.tape = w.tape ∧ w'.output = w.output) (hbl : b < w.heap.size) (hN : w2.heap[w'.heap.size]? = some (.cells cells 5 (0, 0))) (hcsz : cells.size = cap2) (htk : cells.toList.take l = xs)
    (hcap : l + n ≤ cap2) (hcm : cap2 ≤ maxLen) (hbel : Below w'.heap.size w' w2) (hb2 : w2.heap[b]? = some (.cells cs T (0, 0))) (x y z : Value) (hz : z = .slice (some ⟨w.heap.size, 0, none⟩) (l + n) cap2) (hy : y = .int .i64 0) {W : World} (hW : W = ((w2.setCell ⟨b, q, none⟩ x).setCell ⟨b, q + 1, none⟩ y).setCell ⟨b, q, none⟩ z) :
    ∃ cap2 cells, W.heap[w.heap.size]? = some (.cells cells 5 (0, 0)) ∧ cells.size = cap2 ∧ cells.toList.take l = xs ∧ l + n ≤ cap2 ∧ cap2 ≤ maxLen ∧
      W.heap[b]? = some (.cells ((cs.setIfInBounds q (.slice (some ⟨w.heap.size, 0, none⟩) (l + n) cap2)).setIfInBounds (q + 1) (.int .i64 0)) T (0, 0)) ∧ (∀ k, k < w.heap.size → k ≠ b → W.heap[k]? = w.heap[k]?) ∧ w.heap.size ≤ W.heap.size ∧ W.os = w.os ∧ W.tape = w.tape ∧ W.output = w.output := by
  obtain ⟨s1, s2, s3, s4⟩ := hs
  have hother : ∀ k, k ≠ b → W.heap[k]? = w2.heap[k]? := fun k hk => by
    rw [hW, Below.heap_setCell _ _ _ _ hk, Below.heap_setCell _ _ _ _ hk, Below.heap_setCell _ _ _ _ hk]
  rw [s1] at hN
  refine ⟨cap2, cells, (hother _ (Nat.ne_of_gt hbl)).trans hN, hcsz, htk, hcap, hcm, ?_, fun k hk hkb => (hother k hkb).trans ((hbel.block k (by rw [s1]; exact hk)).trans (by rw [s1])), ?_, ?_, ?_, ?_⟩
  · rw [hW, Tryz.heap_set3 hb2, hz, hy]
    congr 2
    apply Array.ext_getElem?
    intro i
    simp only [Array.getElem?_setIfInBounds, Array.size_setIfInBounds]
    by_cases h1 : q = i
    · subst h1; simp
    · by_cases h2 : q + 1 = i
      · subst h2; simp
      · simp [h1, h2]
  · have h := hbel.size
    rw [s1] at h
    rw [hW]
    simpa [World.setCell] using h
  · rw [hW]; exact hbel.os.trans s2
  · rw [hW]; exact hbel.tape.trans s3
  · rw [hW]; exact hbel.output.trans s4
set_option maxHeartbeats 12800000 in
set_option maxRecDepth 100000 in
/-- grow, where the buffer's slice has no room. -/
theorem Tryz.grow_any (b q l c n : Nat) (a : Addr) (T : TypeId) (cs : Array Value) (xs : List Value) (w : World) (hb : w.heap[b]? = some (.cells cs T (0, 0))) (h0 : cs[q]? = some (.slice (some a) l c)) (h1 : cs[q + 1]? = some (.int .i64 0)) (hxl : xs.length = l)
    (hsrc : ∀ j v, xs[j]? = some v → w.cell? (a.add j) = some v) (ha : a.block < w.heap.size) (hl1 : 1 ≤ l) (hlc : l ≤ c) (hcm : c ≤ maxLen) (hn : 1 ≤ n) (hroom : c - l < n) (hlim : l + n ≤ 140737488355328) (hx1 : ∀ v ∈ xs, v.oneCell' = true) :
    Calls Tryz.prog 214 #[.pointer (some ⟨b, q, none⟩), .int .i64 n] w fun e w' => e = .returned (.int .i64 l) ∧ ∃ cap2 cells, w'.heap[w.heap.size]? = some (.cells cells 5 (0, 0)) ∧ cells.size = cap2 ∧ cells.toList.take l = xs ∧ l + n ≤ cap2 ∧ cap2 ≤ maxLen ∧
      w'.heap[b]? = some (.cells ((cs.setIfInBounds q (.slice (some ⟨w.heap.size, 0, none⟩) (l + n) cap2)).setIfInBounds (q + 1) (.int .i64 0)) T (0, 0)) ∧ (∀ k, k < w.heap.size → k ≠ b → w'.heap[k]? = w.heap[k]?) ∧ w.heap.size ≤ w'.heap.size ∧ w'.os = w.os ∧ w'.tape = w.tape ∧ w'.output = w.output := by
  have hbl : b < w.heap.size := by
    rcases Nat.lt_or_ge b w.heap.size with h | h
    · exact h
    · simp [Array.getElem?_eq_none h] at hb
  have c0 : w.cell? ⟨b, q, none⟩ = some (.slice (some a) l c) := by simp [World.cell?, hb, h0]
  have c1 : w.cell? ⟨b, q + 1, none⟩ = some (.int .i64 0) := by simp [World.cell?, hb, h1]
  have f0 : ∀ i, w.frozen? ⟨b, i, none⟩ = false := fun i => by simp [World.frozen?, hb]
  have hcm' := hcm
  unfold maxLen at hcm'
  have hnil : ∀ W, (binOp .eql 27 (.slice (some a) l c) (.slice none 0 0)).run Tryz.prog W = .ok (.bool false) W := fun W => Lib.run_eql_slice_some_nil W _ _ _ Tryz.underlying27
  have hc2 : c ≤ 140737488355328 := by omega
  have hwn : IntKind.i64.wrap (n : Int) = n := by rw [IntKind.wrap_i64]; omega
  have hlen := fun W (e0 : W.cell? ⟨b, q, none⟩ = some (.slice (some a) l c)) (e1 : W.cell? ⟨b, q + 1, none⟩ = some (.int .i64 0)) => Tryz.len_any b q l c (some a) W e0 e1 hlc hcm
  go_enter Tryz.func214, Tryz.ntmps214
  go_wp2_with (go_at_call 287; refine (hlen _ c0 c1).mono ?_)
  rintro e W0 ⟨rfl, k, hW0⟩
  have hb0 : W0.heap[b]? = some (.cells cs T (0, 0)) := by rw [hW0]; exact hb
  have c0 : W0.cell? ⟨b, q, none⟩ = some (.slice (some a) l c) := by rw [hW0]; exact c0
  have c1 : W0.cell? ⟨b, q + 1, none⟩ = some (.int .i64 0) := by rw [hW0]; exact c1
  have f0 : ∀ i, W0.frozen? ⟨b, i, none⟩ = false := fun i => by rw [hW0]; exact f0 i
  have hsz0 : W0.heap.size = w.heap.size := by rw [hW0]; rfl
  have hsame : W0.heap = w.heap ∧ W0.os = w.os ∧ W0.tape = w.tape ∧ W0.output = w.output := by rw [hW0]; exact ⟨rfl, rfl, rfl, rfl⟩
  have hsrc0 : ∀ j v, xs[j]? = some v → W0.cell? (a.add j) = some v := by rw [hW0]; exact hsrc
  clear hW0 hsrc hlen
  have HS := Lib.hid hsame
  clear hsame
  go_wp2_with (go_at_call 213; refine (Any.Buffer_tryGrow_none_at Tryz.lays251 b q _ l c n _ c0 hlc hcm hroom).mono ?_; rintro e w' ⟨rfl, rfl⟩)
  go_region_with (
      go_at_call 289
      refine (Tryz.growSlice_any a l c n xs _ hxl ?_ ?_ hlc hn hlim hc2 hx1).mono ?_
      exact hsrc0
      exact (by rw [← hsz0] at ha; exact ha)
      rintro e w2 ⟨cap2, cells, rfl, hN, hcsz, htk, hcap2, hcm2, hbel⟩
      have hb2 : w2.heap[b]? = some (.cells cs T (0, 0)) := (hbel.block b (by rw [← hsz0] at hbl; exact hbl)).trans hb0
      have d0 : w2.cell? ⟨b, q, none⟩ = some (.slice (some a) l c) := by simp [World.cell?, hb2, h0]
      have d1 : w2.cell? ⟨b, q + 1, none⟩ = some (.int .i64 0) := by simp [World.cell?, hb2, h1]
      have e0 : ∀ i, w2.frozen? ⟨b, i, none⟩ = false := fun i => by simp [World.frozen?, hb2])
  all_goals (
    go_wp2
    go_ret
    exact ⟨rfl, Tryz.grow_fin HS.out hbl hN hcsz htk hcap2 hcm2 ⟨hbel.os, hbel.tape, hbel.output, hbel.size, hbel.block⟩ hb2 _ _ _ rfl rfl rfl⟩)
end Go.Proofs
