import Derived.Test.YtfdbmpokhfjdoaaGreatDoorSmI
set_option linter.unusedVariables false
set_option linter.unusedSimpArgs false
namespace Go.Proofs
open Go.Shelf Go.RowKit
/-- A cell of a block that is written out. -/
theorem Tryz.cell_of {w : World} {b i : Nat} {cs : Array Value} {T : TypeId} {fz : Nat × Nat} (hb : w.heap[b]? = some (.cells cs T fz)) : w.cell? ⟨b, i, none⟩ = cs[i]? := by simp [World.cell?, hb]
theorem Tryz.froz_of {w : World} {b i : Nat} {cs : Array Value} {T : TypeId} (hb : w.heap[b]? = some (.cells cs T (0, 0))) : w.frozen? ⟨b, i, none⟩ = false := by simp [World.frozen?, hb]
theorem Tryz.set_other {w : World} {b i k : Nat} {v : Value} (h : k ≠ b) : (w.setCell ⟨b, i, none⟩ v).heap[k]? = w.heap[k]? := Below.heap_setCell _ _ _ _ h
theorem Tryz.lt_of {w : World} {b : Nat} {o : Obj} (hb : w.heap[b]? = some o) : b < w.heap.size := by
  rcases Nat.lt_or_ge b w.heap.size with h | h
  · exact h
  · simp [Array.getElem?_eq_none h] at hb
theorem Tryz.add_block (x : Addr) (j : Nat) : (x.add j).block = x.block := by
  unfold Addr.add
  split <;> rfl
theorem Tryz.cell_add {w W : World} {b : Nat} (ho : ∀ k, k ≠ b → W.heap[k]? = w.heap[k]?) {x : Addr} (hx : x.block ≠ b) (j : Nat) : W.cell? (x.add j) = w.cell? (x.add j) :=
  World.cell?_of_block (by rw [Tryz.add_block]; exact ho _ hx)
set_option maxHeartbeats 12800000 in
set_option maxRecDepth 100000 in
/-- Write, where the buffer's slice has no room. -/
theorem Tryz.write_none (b q l c n c2 : Nat) (a a2 : Addr) (T : TypeId) (cs : Array Value) (xs ps : List Value) (v2 : Value) (w : World) (hb : w.heap[b]? = some (.cells cs T (0, 0))) (h0 : cs[q]? = some (.slice (some a) l c)) (h1 : cs[q + 1]? = some (.int .i64 0)) (h2 : cs[q + 2]? = some v2) (hxl : xs.length = l) (hpl : ps.length = n)
    (hsrc : ∀ j v, xs[j]? = some v → w.cell? (a.add j) = some v) (ha : a.block < w.heap.size) (hab : a.block ≠ b) (hsrc2 : ∀ j v, ps[j]? = some v → w.cell? (a2.add j) = some v) (ha2 : a2.block < w.heap.size) (hab2 : a2.block ≠ b) (hl1 : 1 ≤ l) (hlc : l ≤ c) (hcm : c ≤ maxLen) (hn : 1 ≤ n) (hroom : c - l < n) (hlim : l + n ≤ 140737488355328) (hx1 : ∀ v ∈ xs, v.oneCell' = true) (hp1 : ∀ v ∈ ps, v.oneCell' = true) :
    Calls Tryz.prog 148 #[.pointer (some ⟨b, q, none⟩), .slice (some a2) n c2] w fun e w' => e = .returned (.tuple #[.int .i64 n, .nilIface]) ∧ ∃ cap2 cells, w'.heap[w.heap.size]? = some (.cells cells 5 (0, 0)) ∧ cells.size = cap2 ∧ cells.toList.take (l + n) = xs ++ ps ∧ l + n ≤ cap2 ∧ cap2 ≤ maxLen ∧
      w'.heap[b]? = some (.cells (((cs.setIfInBounds (q + 2) (.int .i8 0)).setIfInBounds q (.slice (some ⟨w.heap.size, 0, none⟩) (l + n) cap2)).setIfInBounds (q + 1) (.int .i64 0)) T (0, 0)) ∧ (∀ k, k < w.heap.size → k ≠ b → w'.heap[k]? = w.heap[k]?) ∧ w.heap.size ≤ w'.heap.size ∧ w'.os = w.os ∧ w'.tape = w.tape ∧ w'.output = w.output := by
  have hbl := Tryz.lt_of hb
  have k2 : w.cell? ⟨b, q + 2, none⟩ = some v2 := by rw [Tryz.cell_of hb]; exact h2
  have f2 : w.frozen? ⟨b, q + 2, none⟩ = false := Tryz.froz_of hb
  generalize hW1 : w.setCell ⟨b, q + 2, none⟩ (.int .i8 0) = W1
  have hb1 : W1.heap[b]? = some (.cells (cs.setIfInBounds (q + 2) (.int .i8 0)) T (0, 0)) := by rw [← hW1]; exact Lib.heap_setCell_same (i := q + 2) hb _
  have ho1 : ∀ k, k ≠ b → W1.heap[k]? = w.heap[k]? := fun k hk => by rw [← hW1]; exact Tryz.set_other hk
  have hs1 : W1.heap.size = w.heap.size := by rw [← hW1]; simp [World.setCell]
  have hm1 : W1.os = w.os ∧ W1.tape = w.tape ∧ W1.output = w.output := by rw [← hW1]; exact ⟨rfl, rfl, rfl⟩
  generalize hcs1 : cs.setIfInBounds (q + 2) (.int .i8 0) = cs1 at hb1
  have g0 : cs1[q]? = some (.slice (some a) l c) := by rw [← hcs1, Array.getElem?_setIfInBounds_ne (by omega)]; exact h0
  have g1 : cs1[q + 1]? = some (.int .i64 0) := by rw [← hcs1, Array.getElem?_setIfInBounds_ne (by omega)]; exact h1
  have hgrow := Tryz.grow_any b q l c n a T cs1 xs W1 hb1 g0 g1 hxl (fun j v h => by rw [Tryz.cell_add ho1 hab]; exact hsrc j v h) (by rw [hs1]; exact ha) hl1 hlc hcm hn hroom hlim hx1
  have htry := Any.Buffer_tryGrow_none_at Tryz.lays251 b q (some a) l c n W1 (by rw [Tryz.cell_of hb1]; exact g0) hlc hcm hroom
  have HS1 := Lib.hid hs1
  have HO1 := Lib.hid ho1
  have HM1 := Lib.hid hm1
  clear hsrc hcs1 hs1 ho1 hm1
  have hsz1 : (Tryz.prog.info? 5).map (·.size) = some 1 := by kernel_rfl
  go_enter Tryz.func148, Tryz.ntmps148
  go_wp2_with (go_at_call 213; refine htry.mono ?_; rintro e w' ⟨rfl, rfl⟩)
  clear htry
  go_wp2_with (go_at_call 214; refine hgrow.mono ?_)
  clear hgrow
  rintro e W2 ⟨rfl, cap2, cells, hN, hcsz, htk, hcap2, hcm2, hb2, ho2, hs2, hm2⟩
  rw [HS1.out] at hN hb2 ho2 hs2
  have hbk : w.heap.size ≠ b := Nat.ne_of_gt hbl
  have hq : q < cs1.size := by rw [Array.getElem?_eq_some_iff] at g0; exact g0.1
  have d0 : W2.cell? ⟨b, q, none⟩ = some (.slice (some ⟨w.heap.size, 0, none⟩) (l + n) cap2) := by
    rw [Tryz.cell_of hb2, Array.getElem?_setIfInBounds_ne (by omega)]
    simp [hq]
  have hcopy := run_copy_row (P := Tryz.prog) W2 27 27 3 5 w.heap.size l n (cap2 - l) a2 n c2 cells 5 ps Tryz.underlying27 hsz1 hN (by rw [hpl]; exact (Nat.min_self n).symm) (fun j v h => by
    rw [World.cell?_of_block (w := w) (by rw [Tryz.add_block, ho2 _ ha2 hab2]; exact HO1.out _ hab2)]
    exact hsrc2 j v h) (by rw [hpl]; omega) hp1
  rw [hpl] at hcopy
  generalize hY : (cells.toList.take l ++ ps ++ cells.toList.drop (l + n)).toArray = Y at hcopy
  have HY := Lib.hid hY
  have HO2 := Lib.hid ho2
  have HM2 := Lib.hid hm2
  have HS2 := Lib.hid hs2
  have HB2 := Lib.hid hb2
  have HN := Lib.hid hN
  have HTK := Lib.hid htk
  have hcm2' := hcm2
  unfold maxLen at hcm2'
  clear hY ho2 hm2 hs2 hb2 hN htk hsrc2
  go_wp2
  go_ret2
  have hYl : Y.toList = xs ++ ps ++ cells.toList.drop (l + n) := by rw [← HY.out, HTK.out]
  have hlen : (xs ++ ps).length = l + n := by rw [List.length_append, hxl, hpl]
  refine ⟨rfl, cap2, Y, setRow_heap _ _ cells Y 5 (0, 0) HN.out, ?_, ?_, hcap2, hcm2, ?_, fun k hk hkb => ?_, ?_, ?_, ?_, ?_⟩
  · have : Y.toList.length = cap2 := by rw [hYl, List.length_append, hlen, List.length_drop, Array.length_toList, hcsz]; omega
    simpa using this
  · rw [hYl, List.take_append_of_le_length (by rw [hlen]; exact Nat.le_refl _), List.take_of_length_le (by rw [hlen]; exact Nat.le_refl _)]
  · rw [setRow_other _ _ _ _ (Ne.symm hbk)]; exact HB2.out
  · rw [setRow_other _ _ _ _ (Nat.ne_of_lt hk), HO2.out k hk hkb]; exact HO1.out k hkb
  · have := HS2.out; simpa [World.setRow] using this
  · exact HM2.out.1.trans HM1.out.1
  · exact HM2.out.2.1.trans HM1.out.2.1
  · exact HM2.out.2.2.trans HM1.out.2.2
/-- What is written into a row. -/
noncomputable def Tryz.putAt (cur : Array Value) (o : Nat) (ps : List Value) : Array Value := (cur.toList.take o ++ ps ++ cur.toList.drop (o + ps.length)).toArray
set_option maxHeartbeats 12800000 in
set_option maxRecDepth 100000 in
/-- Write, where there is room. -/
theorem Tryz.write_room (b q l c n c2 g o : Nat) (a2 : Addr) (T tg : TypeId) (cs cur : Array Value) (ps : List Value) (v2 : Value) (w : World) (hb : w.heap[b]? = some (.cells cs T (0, 0))) (h0 : cs[q]? = some (.slice (some ⟨g, o, none⟩) l c)) (h2 : cs[q + 2]? = some v2) (hpl : ps.length = n)
    (hg : w.heap[g]? = some (.cells cur tg (0, 0))) (hgb : g ≠ b) (hfit : o + l + n ≤ cur.size) (hsrc2 : ∀ j v, ps[j]? = some v → w.cell? (a2.add j) = some v) (hab2 : a2.block ≠ b) (hlc : l ≤ c) (hcm : c ≤ maxLen) (hn : 1 ≤ n) (hroom : n ≤ c - l) (hp1 : ∀ v ∈ ps, v.oneCell' = true) :
    Calls Tryz.prog 148 #[.pointer (some ⟨b, q, none⟩), .slice (some a2) n c2] w fun e w' => e = .returned (.tuple #[.int .i64 n, .nilIface]) ∧ w'.heap[g]? = some (.cells (Tryz.putAt cur (o + l) ps) tg (0, 0)) ∧
      w'.heap[b]? = some (.cells ((cs.setIfInBounds (q + 2) (.int .i8 0)).setIfInBounds q (.slice (some ⟨g, o, none⟩) (l + n) c)) T (0, 0)) ∧ (∀ k, k ≠ b → k ≠ g → w'.heap[k]? = w.heap[k]?) ∧ w'.heap.size = w.heap.size ∧ w'.os = w.os ∧ w'.tape = w.tape ∧ w'.output = w.output := by
  have hbl := Tryz.lt_of hb
  have k2 : w.cell? ⟨b, q + 2, none⟩ = some v2 := by rw [Tryz.cell_of hb]; exact h2
  have f2 : w.frozen? ⟨b, q + 2, none⟩ = false := Tryz.froz_of hb
  have hq : q < cs.size := by rw [Array.getElem?_eq_some_iff] at h0; exact h0.1
  generalize hW1 : w.setCell ⟨b, q + 2, none⟩ (.int .i8 0) = W1
  have hb1 : W1.heap[b]? = some (.cells (cs.setIfInBounds (q + 2) (.int .i8 0)) T (0, 0)) := by rw [← hW1]; exact Lib.heap_setCell_same (i := q + 2) hb _
  have ho1 : ∀ k, k ≠ b → W1.heap[k]? = w.heap[k]? := fun k hk => by rw [← hW1]; exact Tryz.set_other hk
  have hs1 : W1.heap.size = w.heap.size := by rw [← hW1]; simp [World.setCell]
  have hm1 : W1.os = w.os ∧ W1.tape = w.tape ∧ W1.output = w.output := by rw [← hW1]; exact ⟨rfl, rfl, rfl⟩
  generalize hcs1 : cs.setIfInBounds (q + 2) (.int .i8 0) = cs1 at hb1
  have g0 : cs1[q]? = some (.slice (some ⟨g, o, none⟩) l c) := by rw [← hcs1, Array.getElem?_setIfInBounds_ne (by omega)]; exact h0
  have hq1 : q < cs1.size := by rw [← hcs1]; simpa using hq
  have htry := Any.Buffer_tryGrow_room_at Tryz.lays251 b q (some ⟨g, o, none⟩) l c n W1 (by rw [Tryz.cell_of hb1]; exact g0) (Tryz.froz_of hb1) hlc hcm hroom
  have hb2 : (W1.setCell ⟨b, q, none⟩ (.slice (some ⟨g, o, none⟩) (l + n) c)).heap[b]? = some (.cells (cs1.setIfInBounds q (.slice (some ⟨g, o, none⟩) (l + n) c)) T (0, 0)) := Lib.heap_setCell_same (i := q) hb1 _
  have ho2 : ∀ k, k ≠ b → (W1.setCell ⟨b, q, none⟩ (.slice (some ⟨g, o, none⟩) (l + n) c)).heap[k]? = w.heap[k]? := fun k hk => (Tryz.set_other hk).trans (ho1 k hk)
  have hs2 : (W1.setCell ⟨b, q, none⟩ (.slice (some ⟨g, o, none⟩) (l + n) c)).heap.size = w.heap.size := by rw [← hs1]; simp [World.setCell]
  have hm2 : (W1.setCell ⟨b, q, none⟩ (.slice (some ⟨g, o, none⟩) (l + n) c)).os = w.os ∧ (W1.setCell ⟨b, q, none⟩ (.slice (some ⟨g, o, none⟩) (l + n) c)).tape = w.tape ∧ (W1.setCell ⟨b, q, none⟩ (.slice (some ⟨g, o, none⟩) (l + n) c)).output = w.output := hm1
  generalize W1.setCell ⟨b, q, none⟩ (.slice (some ⟨g, o, none⟩) (l + n) c) = W2 at htry hb2 ho2 hs2 hm2
  have d0 : W2.cell? ⟨b, q, none⟩ = some (.slice (some ⟨g, o, none⟩) (l + n) c) := by rw [Tryz.cell_of hb2]; simp [hq1]
  have hsz1 : (Tryz.prog.info? 5).map (·.size) = some 1 := by kernel_rfl
  have hcopy := run_copy_row (P := Tryz.prog) W2 27 27 3 5 g (o + l) n (c - l) a2 n c2 cur tg ps Tryz.underlying27 hsz1 ((ho2 g hgb).trans hg) (by rw [hpl]; exact (Nat.min_self n).symm) (fun j v h => by
    rw [Tryz.cell_add ho2 hab2]
    exact hsrc2 j v h) (by rw [hpl]; omega) hp1
  generalize hY : (cur.toList.take (o + l) ++ ps ++ cur.toList.drop (o + l + ps.length)).toArray = Y at hcopy
  rw [hpl] at hcopy
  have HY := Lib.hid hY
  have HO2 := Lib.hid ho2
  have HM2 := Lib.hid hm2
  have HS2 := Lib.hid hs2
  have HB2 := Lib.hid hb2
  have HG := Lib.hid hg
  have hcm2' := hcm
  unfold maxLen at hcm2'
  clear hY ho2 hm2 hs2 hb2 hsrc2 hcs1 ho1 hm1 hs1 hg
  go_enter Tryz.func148, Tryz.ntmps148
  go_wp2_with (go_at_call 213; refine htry.mono ?_; rintro e w' ⟨rfl, rfl⟩)
  clear htry
  go_wp2
  go_ret2
  refine ⟨rfl, ?_, ?_, fun k hkb hkg => ?_, ?_, ?_, ?_, ?_⟩
  · have e : Tryz.putAt cur (o + l) ps = Y := HY.out
    rw [e]
    exact setRow_heap _ _ cur Y tg (0, 0) ((HO2.out g hgb).trans HG.out)
  · rw [setRow_other _ _ _ _ (Ne.symm hgb)]; exact HB2.out
  · rw [setRow_other _ _ _ _ hkg]; exact HO2.out k hkb
  · have := HS2.out; simpa [World.setRow] using this
  · exact HM2.out.1
  · exact HM2.out.2.1
  · exact HM2.out.2.2
set_option maxHeartbeats 12800000 in
set_option maxRecDepth 100000 in
/-- Write of nothing. -/
theorem Tryz.write_zero (b q l c c2 : Nat) (ao ao2 : Option Addr) (T : TypeId) (cs : Array Value) (v2 : Value) (w : World) (hb : w.heap[b]? = some (.cells cs T (0, 0))) (h0 : cs[q]? = some (.slice ao l c)) (h2 : cs[q + 2]? = some v2) (hlc : l ≤ c) (hcm : c ≤ maxLen)
    (hcopy : ∀ W o' d', (Builtin.copy_ #[27, 27] 3 #[.slice o' 0 d', .slice ao2 0 c2]).run Tryz.prog W = .ok (.int .i64 0) W) :
    Calls Tryz.prog 148 #[.pointer (some ⟨b, q, none⟩), .slice ao2 0 c2] w fun e w' => e = .returned (.tuple #[.int .i64 0, .nilIface]) ∧ w' = w.setCell ⟨b, q + 2, none⟩ (.int .i8 0) := by
  have hbl := Tryz.lt_of hb
  have k2 : w.cell? ⟨b, q + 2, none⟩ = some v2 := by rw [Tryz.cell_of hb]; exact h2
  have f2 : w.frozen? ⟨b, q + 2, none⟩ = false := Tryz.froz_of hb
  have hq : q < cs.size := by rw [Array.getElem?_eq_some_iff] at h0; exact h0.1
  have HW := Lib.hid (show w.setCell ⟨b, q + 2, none⟩ (.int .i8 0) = w.setCell ⟨b, q + 2, none⟩ (.int .i8 0) from rfl)
  generalize hW1 : w.setCell ⟨b, q + 2, none⟩ (.int .i8 0) = W1
  have hb1 : W1.heap[b]? = some (.cells (cs.setIfInBounds (q + 2) (.int .i8 0)) T (0, 0)) := by rw [← hW1]; exact Lib.heap_setCell_same (i := q + 2) hb _
  generalize hcs1 : cs.setIfInBounds (q + 2) (.int .i8 0) = cs1 at hb1
  have g0 : cs1[q]? = some (.slice ao l c) := by rw [← hcs1, Array.getElem?_setIfInBounds_ne (by omega)]; exact h0
  have hq1 : q < cs1.size := by rw [← hcs1]; simpa using hq
  have htry := Any.Buffer_tryGrow_room_at Tryz.lays251 b q ao l c 0 W1 (by rw [Tryz.cell_of hb1]; exact g0) (Tryz.froz_of hb1) hlc hcm (Nat.zero_le _)
  have hsame : W1.setCell ⟨b, q, none⟩ (.slice ao (l + 0) c) = W1 := by
    have h1 : (W1.setCell ⟨b, q, none⟩ (.slice ao (l + 0) c)).heap = W1.heap := by
      apply Array.ext_getElem?
      intro k
      by_cases hk : k = b
      · subst hk
        rw [Lib.heap_setCell_same (i := q) hb1 _, hb1]
        congr 2
        apply Array.ext_getElem?
        intro i
        by_cases hi : q = i
        · subst hi; rw [g0]; simp [hq1]
        · rw [Array.getElem?_setIfInBounds_ne hi]
      · exact Tryz.set_other hk
    show { W1 with heap := (W1.setCell ⟨b, q, none⟩ (.slice ao (l + 0) c)).heap } = W1
    rw [h1]
  rw [hsame] at htry
  have d0 : W1.cell? ⟨b, q, none⟩ = some (.slice ao l c) := by rw [Tryz.cell_of hb1]; exact g0
  have hcm2' := hcm
  unfold maxLen at hcm2'
  clear hsame hcs1 HW
  go_enter Tryz.func148, Tryz.ntmps148
  go_wp2_with (go_at_call 213; refine htry.mono ?_; rintro e w' ⟨rfl, rfl⟩)
  clear htry
  go_wp2
  all_goals (go_ret2; exact ⟨rfl, rfl⟩)
end Go.Proofs
