import Derived.Test.YtfdbmpokhfjdoaaGreatDoorAmS28
import Derived.Test.YtfdbmpokhfjdoaaGreatDoorSmC
import Derived.Shelf.Bytes.GrowSliceCatch
import Derived.Shelf.Bytes.TryGrowAt
import Derived.Shelf.Lay
import Derived.Ground.NamesProg
import Derived.Lib.AppendZeros
import Derived.Lib.Walk
import Derived.Laws.CopyRow
import Derived.WalkKit
import Derived.OwnWalk
import Derived.Defers
import Derived.Recover
import Derived.BigCall
set_option linter.unusedVariables false
set_option linter.unusedSimpArgs false
namespace Go.Proofs
open Go.Shelf Go.RowKit
shelf_lay LaysM.n251 Nm 251 at Tryz as Tryz.lays251
shelf_lay LaysM.n324 Nm 324 at Tryz as Tryz.lays324
/-- What a slice's row is grown to: a new row of C cells and more, that begins with its cells. -/
theorem Tryz.grown_end {w : World} {l C cap2 n : Nat} {xs : List Value} {Z Y : Array Value} (hxl : xs.length = l) (hZs : Z.size = cap2) (hlC : l ≤ C) (hCc : C ≤ cap2) (hln : l + n ≤ C) (hcm : cap2 ≤ maxLen) (hY : (Z.toList.take 0 ++ xs ++ Z.toList.drop (0 + l)).toArray = Y) :
    ∃ cells, ((w.alloc (.cells Z 5)).drew.setRow w.heap.size Y).heap[w.heap.size]? = some (.cells cells 5 (0, 0)) ∧ cells.size = cap2 ∧ cells.toList.take l = xs ∧ l + n ≤ cap2 ∧ cap2 ≤ maxLen ∧ Below w.heap.size w ((w.alloc (.cells Z 5)).drew.setRow w.heap.size Y) := by
  have hYl : Y.toList = xs ++ Z.toList.drop l := by rw [← hY]; simp
  refine ⟨Y, setRow_heap _ _ Z Y 5 (0, 0) (heap_alloc_new w _), ?_, ?_, by omega, hcm, ?_⟩
  · have : Y.toList.length = cap2 := by rw [hYl, List.length_append, hxl, List.length_drop, Array.length_toList, hZs]; omega
    simpa using this
  · rw [hYl, List.take_append_of_le_length (by rw [hxl]; exact Nat.le_refl _), List.take_of_length_le (by rw [hxl]; exact Nat.le_refl _)]
  · exact ⟨rfl, rfl, rfl, by simp [World.setRow], fun k hk => by rw [setRow_other _ _ _ _ (by omega)]; exact Below.heap_alloc w _ k hk⟩
set_option maxHeartbeats 6400000 in
set_option maxRecDepth 100000 in
theorem Tryz.growSlice_any (a : Addr) (l c n : Nat) (xs : List Value) (w : World) (hxl : xs.length = l) (hsrc : ∀ j v, xs[j]? = some v → w.cell? (a.add j) = some v) (ha : a.block < w.heap.size) (hlc : l ≤ c) (hn : 1 ≤ n)
    (hlim : l + n ≤ 140737488355328) (hc2 : c ≤ 140737488355328) (h1 : ∀ v ∈ xs, v.oneCell' = true) :
    Calls Tryz.prog 289 #[.slice (some a) l c, .int .i64 n] w fun e w' => ∃ cap2 cells, e = .returned (.slice (some ⟨w.heap.size, 0, none⟩) l cap2) ∧ w'.heap[w.heap.size]? = some (.cells cells 5 (0, 0)) ∧ cells.size = cap2 ∧ cells.toList.take l = xs ∧ l + n ≤ cap2 ∧ cap2 ≤ maxLen ∧ Below w.heap.size w w' := by
  obtain ⟨i0, hi, hz0, hz1, hz2⟩ := info_parts (show (Tryz.prog.info? 5).map (fun i => (i.zero, i.size, i.bytes)) = some (some (.int .u8 0), 1, 1) by kernel_rfl)
  have hsz1 : (Tryz.prog.info? 5).map (·.size) = some 1 := by rw [hi]; simp [hz1]
  have hold : ∀ (Z : Array Value) j v, xs[j]? = some v → (w.alloc (.cells Z 5)).drew.cell? (a.add j) = some v := fun Z j v h => by
    have hb : (a.add j).block = a.block := by unfold Addr.add; split <;> rfl
    rw [World.cell?_of_block (w := w) (by rw [hb]; exact Below.heap_alloc w _ _ ha)]
    exact hsrc j v h
  by_cases hC : l + n < 2 * c
  · have happ := Lib.run_append_nil_zeros (P := Tryz.prog) w 27 3 27 5 i0 (.int .u8 0) .i64 .i64 Tryz.underlying27 Tryz.underlying3 hi hz0 (2 * c) (by omega) (by omega) (by omega) (by rw [hz2]; omega)
    rw [show (((2 * c : Nat)) : Int) = 2 * (c : Int) by omega] at happ
    generalize hcap : grownCap w (2 * c) 0 5 = cap2 at happ
    have hcapge : 2 * c ≤ cap2 := by rw [← hcap]; exact grownCap_ge w _ 0 5
    have hcaple : cap2 ≤ maxLen := by rw [← hcap]; exact grownCap_le_maxLen w _ 0 5 (by unfold maxLen; omega)
    generalize hZ : (Builtin.zeroCells (Value.int .u8 0).cells (2 * c) ++ Builtin.zeroCells (Value.int .u8 0).cells (cap2 - (2 * c))) = Z at happ
    have hZs : Z.size = cap2 := by rw [← hZ]; simp [size_zeroCells, Value.cells]; omega
    clear hcap hZ
    have hcopy := run_copy_row (P := Tryz.prog) (w.alloc (.cells Z 5)).drew 27 27 3 5 w.heap.size 0 (2 * c) cap2 a l c Z 5 xs Tryz.underlying27 hsz1 (heap_alloc_new w _) (by rw [hxl]; exact (Nat.min_eq_left (by omega)).symm) (hold Z) (by rw [hxl]; omega) h1
    rw [hxl] at hcopy
    generalize hY : (Z.toList.take 0 ++ xs ++ Z.toList.drop (0 + l)).toArray = Y at hcopy
    have hend := Tryz.grown_end (w := w) (n := n) hxl hZs (by omega) hcapge (by omega) hcaple hY
    clear hold hsrc hY
    go_enter_defers Tryz.func289, Tryz.ntmps289
    go_wp2_with (at_builtin; refine Lib.wpList_append_run _ rfl _ _ _ _ rfl _ _ rfl rfl _ _ happ ?_)
    refine leaves_cons (f := 311) (args := #[]) (by simp) (enters_of Tryz.func311 (by kernel_rfl) rfl _ _) ?_
    refine (Any.growSlice_catch_idle Tryz.lays324 _).mono ?_
    rintro e u' w'' ⟨rfl, rfl, rfl⟩
    refine ⟨_, results_tmp rfl _ _ _, ?_⟩
    obtain ⟨cells, e1, e2, e3, e4, e5, e6⟩ := hend
    exact ⟨cap2, cells, rfl, e1, e2, e3, e4, e5, e6⟩
  · have happ := Lib.run_append_nil_zeros (P := Tryz.prog) w 27 3 27 5 i0 (.int .u8 0) .i64 .i64 Tryz.underlying27 Tryz.underlying3 hi hz0 (l + n) (by omega) (by omega) (by omega) (by rw [hz2]; omega)
    rw [show (((l + n : Nat)) : Int) = (l : Int) + (n : Int) by omega] at happ
    generalize hcap : grownCap w (l + n) 0 5 = cap2 at happ
    have hcapge : l + n ≤ cap2 := by rw [← hcap]; exact grownCap_ge w _ 0 5
    have hcaple : cap2 ≤ maxLen := by rw [← hcap]; exact grownCap_le_maxLen w _ 0 5 (by unfold maxLen; omega)
    generalize hZ : (Builtin.zeroCells (Value.int .u8 0).cells (l + n) ++ Builtin.zeroCells (Value.int .u8 0).cells (cap2 - (l + n))) = Z at happ
    have hZs : Z.size = cap2 := by rw [← hZ]; simp [size_zeroCells, Value.cells]; omega
    clear hcap hZ
    have hcopy := run_copy_row (P := Tryz.prog) (w.alloc (.cells Z 5)).drew 27 27 3 5 w.heap.size 0 (l + n) cap2 a l c Z 5 xs Tryz.underlying27 hsz1 (heap_alloc_new w _) (by rw [hxl]; exact (Nat.min_eq_left (by omega)).symm) (hold Z) (by rw [hxl]; omega) h1
    rw [hxl] at hcopy
    generalize hY : (Z.toList.take 0 ++ xs ++ Z.toList.drop (0 + l)).toArray = Y at hcopy
    have hend := Tryz.grown_end (w := w) (n := n) hxl hZs (by omega) hcapge (by omega) hcaple hY
    clear hold hsrc hY
    go_enter_defers Tryz.func289, Tryz.ntmps289
    go_wp2_with (at_builtin; refine Lib.wpList_append_run _ rfl _ _ _ _ rfl _ _ rfl rfl _ _ happ ?_)
    refine leaves_cons (f := 311) (args := #[]) (by simp) (enters_of Tryz.func311 (by kernel_rfl) rfl _ _) ?_
    refine (Any.growSlice_catch_idle Tryz.lays324 _).mono ?_
    rintro e u' w'' ⟨rfl, rfl, rfl⟩
    refine ⟨_, results_tmp rfl _ _ _, ?_⟩
    obtain ⟨cells, e1, e2, e3, e4, e5, e6⟩ := hend
    exact ⟨cap2, cells, rfl, e1, e2, e3, e4, e5, e6⟩
end Go.Proofs
