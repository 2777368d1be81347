import Derived.Test.YtfdbmpokhfjdoaaGreatDoorSmJ
set_option linter.unusedVariables false
set_option linter.unusedSimpArgs false
namespace Go.Proofs
open Go.Shelf Go.RowKit
set_option maxHeartbeats 12800000 in
set_option maxRecDepth 100000 in
/-- WriteByte, where the buffer's slice has no room. -/
theorem Tryz.writeByte_none (b q l c : Nat) (x : Int) (a : Addr) (T : TypeId) (cs : Array Value) (xs : List Value) (v2 : Value) (w : World) (hb : w.heap[b]? = some (.cells cs T (0, 0))) (h0 : cs[q]? = some (.slice (some a) l c)) (h1 : cs[q + 1]? = some (.int .i64 0)) (h2 : cs[q + 2]? = some v2) (hxl : xs.length = l)
    (hsrc : ∀ j v, xs[j]? = some v → w.cell? (a.add j) = some v) (ha : a.block < w.heap.size) (hab : a.block ≠ b) (hl1 : 1 ≤ l) (hlc : l ≤ c) (hcm : c ≤ maxLen) (hroom : c - l < 1) (hlim : l + 1 ≤ 140737488355328) (hx1 : ∀ v ∈ xs, v.oneCell' = true) :
    Calls Tryz.prog 215 #[.pointer (some ⟨b, q, none⟩), .int .u8 x] w fun e w' => e = .returned .nilIface ∧ ∃ cap2 cells, w'.heap[w.heap.size]? = some (.cells cells 5 (0, 0)) ∧ cells.size = cap2 ∧ cells.toList.take (l + 1) = xs ++ [.int .u8 x] ∧ l + 1 ≤ cap2 ∧ cap2 ≤ maxLen ∧
      w'.heap[b]? = some (.cells (((cs.setIfInBounds (q + 2) (.int .i8 0)).setIfInBounds q (.slice (some ⟨w.heap.size, 0, none⟩) (l + 1) cap2)).setIfInBounds (q + 1) (.int .i64 0)) T (0, 0)) ∧ (∀ k, k < w.heap.size → k ≠ b → w'.heap[k]? = w.heap[k]?) ∧ w.heap.size ≤ w'.heap.size ∧ w'.os = w.os ∧ w'.tape = w.tape ∧ w'.output = w.output := by
  have hbl := Tryz.lt_of hb
  have k2 : w.cell? ⟨b, q + 2, none⟩ = some v2 := by rw [Tryz.cell_of hb]; exact h2
  have f2 : w.frozen? ⟨b, q + 2, none⟩ = false := Tryz.froz_of hb
  generalize hW1 : w.setCell ⟨b, q + 2, none⟩ (.int .i8 0) = W1
  have hb1 : W1.heap[b]? = some (.cells (cs.setIfInBounds (q + 2) (.int .i8 0)) T (0, 0)) := by rw [← hW1]; exact Lib.heap_setCell_same (i := q + 2) hb _
  have ho1 : ∀ k, k ≠ b → W1.heap[k]? = w.heap[k]? := fun k hk => by rw [← hW1]; exact Tryz.set_other hk
  have hs1 : W1.heap.size = w.heap.size := by rw [← hW1]; simp [World.setCell]
  have hm1 : W1.os = w.os ∧ W1.tape = w.tape ∧ W1.output = w.output := by rw [← hW1]; exact ⟨rfl, rfl, rfl⟩
  generalize hcs1 : cs.setIfInBounds (q + 2) (.int .i8 0) = cs1 at hb1
  have g0 : cs1[q]? = some (.slice (some a) l c) := by rw [← hcs1, Array.getElem?_setIfInBounds_ne (by omega)]; exact h0
  have g1 : cs1[q + 1]? = some (.int .i64 0) := by rw [← hcs1, Array.getElem?_setIfInBounds_ne (by omega)]; exact h1
  have hgrow := Tryz.grow_any b q l c 1 a T cs1 xs W1 hb1 g0 g1 hxl (fun j v h => by rw [Tryz.cell_add ho1 hab]; exact hsrc j v h) (by rw [hs1]; exact ha) hl1 hlc hcm (Nat.le_refl _) hroom hlim hx1
  have htry := Any.Buffer_tryGrow_none_at Tryz.lays251 b q (some a) l c 1 W1 (by rw [Tryz.cell_of hb1]; exact g0) hlc hcm hroom
  have HS1 := Lib.hid hs1
  have HO1 := Lib.hid ho1
  have HM1 := Lib.hid hm1
  clear hsrc hcs1 hs1 ho1 hm1
  go_enter Tryz.func215, Tryz.ntmps215
  go_wp2_with (go_at_call 213; refine htry.mono ?_; rintro e w' ⟨rfl, rfl⟩)
  clear htry
  go_wp2_with (go_at_call 214; refine hgrow.mono ?_)
  clear hgrow
  rintro e W2 ⟨rfl, cap2, cells, hN, hcsz, htk, hcap2, hcm2, hb2, ho2, hs2, hm2⟩
  rw [HS1.out] at hN hb2 ho2 hs2
  have hbk : w.heap.size ≠ b := Nat.ne_of_gt hbl
  have hq : q < cs1.size := by rw [Array.getElem?_eq_some_iff] at g0; exact g0.1
  have d0 : W2.cell? ⟨b, q, none⟩ = some (.slice (some ⟨w.heap.size, 0, none⟩) (l + 1) cap2) := by
    rw [Tryz.cell_of hb2, Array.getElem?_setIfInBounds_ne (by omega)]
    simp [hq]
  have d3 : W2.cell? ⟨w.heap.size, l, none⟩ = some (cells[l]'(by omega)) := by rw [Tryz.cell_of hN]; exact Array.getElem?_eq_getElem _
  have f3 : W2.frozen? ⟨w.heap.size, l, none⟩ = false := Tryz.froz_of hN
  have HO2 := Lib.hid ho2
  have HM2 := Lib.hid hm2
  have HS2 := Lib.hid hs2
  have HB2 := Lib.hid hb2
  have HN := Lib.hid hN
  have HTK := Lib.hid htk
  have hcm2' := hcm2
  unfold maxLen at hcm2'
  clear ho2 hm2 hs2 hb2 hN htk
  go_wp2
  go_ret
  have hl : l < cells.size := by omega
  refine ⟨rfl, cap2, cells.setIfInBounds l (.int .u8 x), Lib.heap_setCell_same (i := l) HN.out _, by simpa using hcsz, ?_, hcap2, hcm2, ?_, fun k hk hkb => ?_, ?_, ?_, ?_, ?_⟩
  · rw [Array.toList_setIfInBounds, List.take_add_one, List.getElem?_set_self (by simpa using hl), List.take_set, List.set_eq_of_length_le (by rw [List.length_take]; omega), HTK.out]
    rfl
  · rw [Tryz.set_other (Ne.symm hbk)]; exact HB2.out
  · rw [Tryz.set_other (Nat.ne_of_lt hk), HO2.out k hk hkb]; exact HO1.out k hkb
  · have := HS2.out; simpa [World.setCell] using this
  · exact HM2.out.1.trans HM1.out.1
  · exact HM2.out.2.1.trans HM1.out.2.1
  · exact HM2.out.2.2.trans HM1.out.2.2
set_option maxHeartbeats 12800000 in
set_option maxRecDepth 100000 in
/-- WriteByte, where there is room. -/
theorem Tryz.writeByte_room (b q l c g o : Nat) (x : Int) (T tg : TypeId) (cs cur : Array Value) (v2 : Value) (w : World) (hb : w.heap[b]? = some (.cells cs T (0, 0))) (h0 : cs[q]? = some (.slice (some ⟨g, o, none⟩) l c)) (h2 : cs[q + 2]? = some v2)
    (hg : w.heap[g]? = some (.cells cur tg (0, 0))) (hgb : g ≠ b) (hfit : o + l + 1 ≤ cur.size) (hlc : l ≤ c) (hcm : c ≤ maxLen) (hroom : 1 ≤ c - l) :
    Calls Tryz.prog 215 #[.pointer (some ⟨b, q, none⟩), .int .u8 x] w fun e w' => e = .returned .nilIface ∧ w'.heap[g]? = some (.cells (cur.setIfInBounds (o + l) (.int .u8 x)) tg (0, 0)) ∧
      w'.heap[b]? = some (.cells ((cs.setIfInBounds (q + 2) (.int .i8 0)).setIfInBounds q (.slice (some ⟨g, o, none⟩) (l + 1) c)) T (0, 0)) ∧ (∀ k, k ≠ b → k ≠ g → w'.heap[k]? = w.heap[k]?) ∧ w'.heap.size = w.heap.size ∧ w'.os = w.os ∧ w'.tape = w.tape ∧ w'.output = w.output := by
  have hbl := Tryz.lt_of hb
  have k2 : w.cell? ⟨b, q + 2, none⟩ = some v2 := by rw [Tryz.cell_of hb]; exact h2
  have f2 : w.frozen? ⟨b, q + 2, none⟩ = false := Tryz.froz_of hb
  have hq : q < cs.size := by rw [Array.getElem?_eq_some_iff] at h0; exact h0.1
  generalize hW1 : w.setCell ⟨b, q + 2, none⟩ (.int .i8 0) = W1
  have hb1 : W1.heap[b]? = some (.cells (cs.setIfInBounds (q + 2) (.int .i8 0)) T (0, 0)) := by rw [← hW1]; exact Lib.heap_setCell_same (i := q + 2) hb _
  have ho1 : ∀ k, k ≠ b → W1.heap[k]? = w.heap[k]? := fun k hk => by rw [← hW1]; exact Tryz.set_other hk
  have hs1 : W1.heap.size = w.heap.size := by rw [← hW1]; simp [World.setCell]
  have hm1 : W1.os = w.os ∧ W1.tape = w.tape ∧ W1.output = w.output := by rw [← hW1]; exact ⟨rfl, rfl, rfl⟩
  generalize hcs1 : cs.setIfInBounds (q + 2) (.int .i8 0) = cs1 at hb1
  have g0 : cs1[q]? = some (.slice (some ⟨g, o, none⟩) l c) := by rw [← hcs1, Array.getElem?_setIfInBounds_ne (by omega)]; exact h0
  have hq1 : q < cs1.size := by rw [← hcs1]; simpa using hq
  have htry := Any.Buffer_tryGrow_room_at Tryz.lays251 b q (some ⟨g, o, none⟩) l c 1 W1 (by rw [Tryz.cell_of hb1]; exact g0) (Tryz.froz_of hb1) hlc hcm hroom
  have hb2 : (W1.setCell ⟨b, q, none⟩ (.slice (some ⟨g, o, none⟩) (l + 1) c)).heap[b]? = some (.cells (cs1.setIfInBounds q (.slice (some ⟨g, o, none⟩) (l + 1) c)) T (0, 0)) := Lib.heap_setCell_same (i := q) hb1 _
  have ho2 : ∀ k, k ≠ b → (W1.setCell ⟨b, q, none⟩ (.slice (some ⟨g, o, none⟩) (l + 1) c)).heap[k]? = w.heap[k]? := fun k hk => (Tryz.set_other hk).trans (ho1 k hk)
  have hs2 : (W1.setCell ⟨b, q, none⟩ (.slice (some ⟨g, o, none⟩) (l + 1) c)).heap.size = w.heap.size := by rw [← hs1]; simp [World.setCell]
  have hm2 : (W1.setCell ⟨b, q, none⟩ (.slice (some ⟨g, o, none⟩) (l + 1) c)).os = w.os ∧ (W1.setCell ⟨b, q, none⟩ (.slice (some ⟨g, o, none⟩) (l + 1) c)).tape = w.tape ∧ (W1.setCell ⟨b, q, none⟩ (.slice (some ⟨g, o, none⟩) (l + 1) c)).output = w.output := hm1
  generalize W1.setCell ⟨b, q, none⟩ (.slice (some ⟨g, o, none⟩) (l + 1) c) = W2 at htry hb2 ho2 hs2 hm2
  have d0 : W2.cell? ⟨b, q, none⟩ = some (.slice (some ⟨g, o, none⟩) (l + 1) c) := by rw [Tryz.cell_of hb2]; simp [hq1]
  have hg2 : W2.heap[g]? = some (.cells cur tg (0, 0)) := (ho2 g hgb).trans hg
  have d3 : W2.cell? ⟨g, o + l, none⟩ = some (cur[o + l]'(by omega)) := by rw [Tryz.cell_of hg2]; exact Array.getElem?_eq_getElem _
  have f3 : W2.frozen? ⟨g, o + l, none⟩ = false := Tryz.froz_of hg2
  have HO2 := Lib.hid ho2
  have HM2 := Lib.hid hm2
  have HS2 := Lib.hid hs2
  have HB2 := Lib.hid hb2
  have HG := Lib.hid hg2
  have hcm2' := hcm
  unfold maxLen at hcm2'
  clear ho2 hm2 hs2 hb2 hcs1 ho1 hm1 hs1 hg hg2
  go_enter Tryz.func215, Tryz.ntmps215
  go_wp2_with (go_at_call 213; refine htry.mono ?_; rintro e w' ⟨rfl, rfl⟩)
  clear htry
  go_wp2
  go_ret
  refine ⟨rfl, Lib.heap_setCell_same (i := o + l) HG.out _, ?_, fun k hkb hkg => ?_, ?_, ?_, ?_, ?_⟩
  · rw [Tryz.set_other (Ne.symm hgb)]; exact HB2.out
  · rw [Tryz.set_other hkg]; exact HO2.out k hkb
  · have := HS2.out; simpa [World.setCell] using this
  · exact HM2.out.1
  · exact HM2.out.2.1
  · exact HM2.out.2.2
end Go.Proofs
