import Derived.Test.YtfdbmpokhfjdoaaGreatDoorAmS25
import Derived.Test.YtfdbmpokhfjdoaaGreatDoorChecked
import Derived.WalkKit
import Derived.LoopTactic
import Derived.Deep.LoopGhost
import Derived.Test.YtfdbmpokhfjdoaaGreatDoorSmP
import Derived.Test.YtfdbmpokhfjdoaaGreatDoorSmJ
import Derived.RegionTactic
import Derived.Deep.RegionWith
import Derived.Deep.Draws
import Derived.Test.YtfdbmpokhfjdoaaGreatDoorSmV
import Derived.OpenShut
set_option linter.unusedVariables false
set_option linter.unusedSimpArgs false
namespace Go.Proofs
open Go Go.RowKit
/-- The hash of the first bytes. -/
def fnvN (f : Nat → Nat) : Nat → Nat
  | 0 => 14695981039346656037
  | i + 1 => (fnvN f i ^^^ f i) * 1099511628211 % 18446744073709551616
theorem fnvN_lt (f : Nat → Nat) : ∀ i, fnvN f i < 18446744073709551616
  | 0 => (by decide : 14695981039346656037 < 18446744073709551616)
  | i + 1 => Nat.mod_lt _ (by decide)
theorem xor64 {a b : Nat} (ha : a < 18446744073709551616) (hb : b < 256) : bits .xor .u64 (a : Int) (IntKind.u64.wrap (b : Int)) = ((a ^^^ b : Nat) : Int) := by
  have hw : IntKind.u64.wrap (b : Int) = (b : Int) := by
    simp [IntKind.wrap, IntKind.signed, IntKind.bits]; omega
  rw [hw]
  have h1 : a ≤ Am.kMax .u64 := by show a ≤ 18446744073709551615; omega
  have h2 : b ≤ Am.kMax .u64 := by show b ≤ 18446744073709551615; omega
  unfold bits
  simp only [BitVec.toNat_xor, Am.ofInt_toNat h1, Am.ofInt_toNat h2]
  have : a ^^^ b < 2 ^ 64 := Nat.xor_lt_two_pow (by omega) (by omega)
  simp [IntKind.wrap, IntKind.signed, IntKind.bits]
  omega
theorem fnv_step (f : Nat → Nat) (k : Nat) (hk : f k < 256) : IntKind.u64.wrap (bits .xor .u64 (fnvN f k : Int) (IntKind.u64.wrap (f k : Int)) * 1099511628211) = (fnvN f (k + 1) : Int) := by
  rw [xor64 (fnvN_lt f k) hk]
  show _ = (((fnvN f k ^^^ f k) * 1099511628211 % 18446744073709551616 : Nat) : Int)
  simp [IntKind.wrap, IntKind.signed, IntKind.bits]
set_option maxHeartbeats 1000000 in
set_option maxRecDepth 100000 in
theorem Tryz.head_walk (p : Option Addr) (n c : Nat) (f : Nat → Nat) (h : Int) (w : World) (hnc : n ≤ c) (hbig : n ≤ 9223372036854775807) (hf : ∀ i, f i < 256) (h1 : 0 < n → ∃ b o, p = some ⟨b, o, none⟩ ∧ ∀ i, i < n → w.cell? ⟨b, o + i, none⟩ = some (.int .u8 (f i))) (hh : 1 ≤ h) (hhb : h ≤ 9223372036854775807) :
    Calls Tryz.prog 45 #[.slice p n c, .int .i64 h] w fun e w' => e = .returned (.int .i64 ((fnvN f n : Int) % h)) ∧ w' = w := by
  have H1 : Aside _ := h1
  clear h1
  have HF : Aside _ := hf
  clear hf
  go_enter Tryz.func45, Tryz.ntmps45
  go_wp2
  go_loopg [5, 7, 12] n (fun kx s0 s1 s2 wr => ∃ k : Nat, k ≤ n ∧ n - k ≤ kx ∧ s0 = .int .u64 (fnvN f k : Int) ∧ s2 = .int .i64 (k : Int) ∧ wr = w)
  case atStart => exact ⟨0, Nat.zero_le _, Nat.le_refl _, rfl, rfl, rfl⟩
  case round =>
    obtain ⟨k, hkn, hkx, rfl, rfl, rfl⟩ := hrel
    have hx := fnvN_lt f k
    by_cases h0 : k < n
    · obtain ⟨blk, o, rfl, hc⟩ := H1.out (by omega)
      have hct := hc k h0
      have HX : Aside (f k < 256) := HF.out k
      clear hc
      have hkc : (k : Int) < n := by omega
      have hknat : ((k : Int)).toNat = k := by omega
      go_wp2
      go_roundg (n - (k + 1))
      case measure => omega
      case rel => exact ⟨k + 1, by omega, Nat.le_refl _, by rw [fnv_step f k HX.out], by simp, rfl⟩
    · obtain rfl : k = n := by omega
      go_wp2
      go_ret
      have h2 : (0 : Int) ≤ (fnvN f k : Int) % h := Int.emod_nonneg _ (by omega)
      have h3 : (fnvN f k : Int) % h < h := Int.emod_lt_of_pos _ (by omega)
      have h4 : ∀ y : Int, 0 ≤ y → y < h → wrap64 y = y := fun y _ _ => by unfold wrap64; omega
      exact ⟨by rw [h4 _ h2 h3]; first | rfl | simp, rfl⟩
set_option maxHeartbeats 1000000 in
set_option maxRecDepth 100000 in
theorem Tryz.rhead_walk (p : Option Addr) (n c : Nat) (f : Nat → Nat) (h : Int) (w : World) (hnc : n ≤ c) (hbig : n ≤ 9223372036854775807) (hf : ∀ i, f i < 256) (h1 : 0 < n → ∃ b o, p = some ⟨b, o, none⟩ ∧ ∀ i, i < n → w.cell? ⟨b, o + i, none⟩ = some (.int .u8 (f i))) (hh : 1 ≤ h) (hhb : h ≤ 9223372036854775807) :
    Calls Tryz.prog 46 #[.slice p n c, .int .i64 h] w fun e w' => e = .returned (.int .i64 ((fnvN f n : Int) % h)) ∧ w' = w := by
  have H1 : Aside _ := h1
  clear h1
  have HF : Aside _ := hf
  clear hf
  go_enter Tryz.func46, Tryz.ntmps46
  go_wp2
  go_loopg [5, 6] n (fun kx s0 s1 wr => ∃ k : Nat, k ≤ n ∧ n - k ≤ kx ∧ s0 = .int .u64 (fnvN f k : Int) ∧ s1 = .int .i64 (k : Int) ∧ wr = w)
  case atStart => exact ⟨0, Nat.zero_le _, Nat.le_refl _, rfl, rfl, rfl⟩
  case round =>
    obtain ⟨k, hkn, hkx, rfl, rfl, rfl⟩ := hrel
    have hx := fnvN_lt f k
    by_cases h0 : k < n
    · obtain ⟨blk, o, rfl, hc⟩ := H1.out (by omega)
      have hct := hc k h0
      have HX : Aside (f k < 256) := HF.out k
      clear hc
      have hkc : (k : Int) < n := by omega
      have hknat : ((k : Int)).toNat = k := by omega
      go_wp2
      go_roundg (n - (k + 1))
      case measure => omega
      case rel => exact ⟨k + 1, by omega, Nat.le_refl _, by rw [fnv_step f k HX.out], by simp, rfl⟩
    · obtain rfl : k = n := by omega
      go_wp2
      go_ret
      have h2 : (0 : Int) ≤ (fnvN f k : Int) % h := Int.emod_nonneg _ (by omega)
      have h3 : (fnvN f k : Int) % h < h := Int.emod_lt_of_pos _ (by omega)
      have h4 : ∀ y : Int, 0 ≤ y → y < h → wrap64 y = y := fun y _ _ => by unfold wrap64; omega
      exact ⟨by rw [h4 _ h2 h3]; first | rfl | simp, rfl⟩
set_option maxRecDepth 100000 in
theorem Tryz.head_walk0 (p : Option Addr) (n c : Nat) (h : Int) (w : World) (hh : h < 1) :
    Calls Tryz.prog 45 #[.slice p n c, .int .i64 h] w fun e w' => e = .returned (.int .i64 0) ∧ w' = w := by
  go_enter Tryz.func45, Tryz.ntmps45
  go_wp2
  go_ret
  exact ⟨by first | rfl | simp, rfl⟩
set_option maxRecDepth 100000 in
theorem Tryz.rhead_walk0 (p : Option Addr) (n c : Nat) (h : Int) (w : World) (hh : h < 1) :
    Calls Tryz.prog 46 #[.slice p n c, .int .i64 h] w fun e w' => e = .returned (.int .i64 0) ∧ w' = w := by
  go_enter Tryz.func46, Tryz.ntmps46
  go_wp2
  go_ret
  exact ⟨by first | rfl | simp, rfl⟩
end Go.Proofs
namespace Go.Proofs
open Go Go.RowKit
/-- The cells of a lent row: n bytes, k marks, noughts. -/
def rowC (n : Nat) (f : Nat → Nat) (k : Nat) : Array Value := (Array.range (n + 12)).map fun i => .int .u8 ((if i < n + k then (if i < n then f i else markV 1 (i - n)) else 0 : Nat) : Int)
def rowZ (n : Nat) : Array Value := (Array.range (n + 12)).map fun _ => .int .u8 0
theorem rowC_get (n : Nat) (f : Nat → Nat) (k i : Nat) (h : i < n + 12) : (rowC n f k)[i]? = some (.int .u8 ((if i < n + k then (if i < n then f i else markV 1 (i - n)) else 0 : Nat) : Int)) := by
  unfold rowC
  rw [Array.getElem?_map, Array.getElem?_range, if_pos h]; rfl
theorem rowC_size (n : Nat) (f : Nat → Nat) (k : Nat) : (rowC n f k).size = n + 12 := by simp [rowC]
theorem rowZ_size (n : Nat) : (rowZ n).size = n + 12 := by simp [rowZ]
theorem rowC_zero (n : Nat) (f : Nat → Nat) : ((rowZ n).toList.take (0 * 1) ++ ((List.range n).map fun i => (Value.int .u8 (f i : Int))) ++ (rowZ n).toList.drop (0 * 1 + ((List.range n).map fun i => (Value.int .u8 (f i : Int))).length)).toArray = rowC n f 0 := by
  apply Array.ext_getElem?
  intro i
  simp only [Nat.zero_mul, List.take_zero, List.nil_append, Nat.zero_add, List.length_map, List.length_range, List.getElem?_toArray]
  by_cases hi : i < n
  · rw [List.getElem?_append_left (by simpa using hi), List.getElem?_map, List.getElem?_range hi, rowC_get _ _ _ _ (by omega), if_pos (by omega), if_pos hi]; rfl
  · rw [List.getElem?_append_right (by simp; omega), List.getElem?_drop]
    simp only [List.length_map, List.length_range]
    by_cases h2 : i < n + 12
    · rw [rowC_get _ _ _ _ h2, if_neg (by omega), Array.getElem?_toList, rowZ, Array.getElem?_map, Array.getElem?_range, if_pos (by omega)]; rfl
    · rw [Array.getElem?_eq_none (by rw [rowC_size]; omega), Array.getElem?_toList, Array.getElem?_eq_none (by rw [rowZ_size]; omega)]
theorem rowC_succ (n : Nat) (f : Nat → Nat) (k : Nat) (hk : k < 12) : ((rowC n f k).toList.take ((n + k) * 1) ++ [Value.int .u8 (markV 1 k : Int)] ++ (rowC n f k).toList.drop ((n + k) * 1 + [Value.int .u8 (markV 1 k : Int)].length)).toArray = rowC n f (k + 1) := by
  apply Array.ext_getElem?
  intro i
  have hl : ((rowC n f k).toList.take (n + k)).length = n + k := by rw [List.length_take, Array.length_toList, rowC_size]; omega
  simp only [Nat.mul_one, List.length_singleton, List.getElem?_toArray, List.append_assoc]
  by_cases hi : i < n + k
  · rw [List.getElem?_append_left (by rw [hl]; exact hi), List.getElem?_take_of_lt hi, Array.getElem?_toList, rowC_get _ _ _ _ (by omega), rowC_get _ _ _ _ (by omega), if_pos hi, if_pos (show i < n + (k + 1) by omega)]
  · rw [List.getElem?_append_right (by rw [hl]; omega), hl]
    by_cases h2 : i = n + k
    · subst h2
      rw [rowC_get _ _ _ _ (by omega), if_pos (by omega), if_neg (by omega)]
      simp
    · rw [List.getElem?_append_right (by simp; omega), List.getElem?_drop, Array.getElem?_toList]
      rw [show n + k + 1 + (i - (n + k) - [Value.int .u8 (markV 1 k : Int)].length) = i by simp; omega]
      by_cases h3 : i < n + 12
      · rw [rowC_get _ _ _ _ h3, rowC_get _ _ _ _ h3, if_neg hi, if_neg (by omega)]
      · rw [Array.getElem?_eq_none (by rw [rowC_size]; omega), Array.getElem?_eq_none (by rw [rowC_size]; omega)]
end Go.Proofs
namespace Go.Proofs
open Go Go.RowKit
theorem rowZ_made (n : Nat) : madeCells #[Value.int .u8 0] (n + 12) = rowZ n := by
  apply Array.ext_getElem?
  intro i
  unfold madeCells rowZ
  rw [Array.getElem?_map, Array.getElem?_map]
  cases h : (Array.range (n + 12))[i]? with
  | none => rfl
  | some j => simp [Nat.mod_one]
/-- A world with another row at g. -/
structure RowAt (w W : World) (g : Nat) (cs : Array Value) : Prop where
  row : W.heap[g]? = some (.cells cs 5 (0, 0))
  old : ∀ b, b < w.heap.size → W.heap[b]? = w.heap[b]?
  size : w.heap.size ≤ W.heap.size
  os : W.os = w.os
  tape : W.tape = w.tape
  output : W.output = w.output
theorem Tryz.lent_append (i0 : TypeInfo) (hi : Tryz.prog.info? 5 = some i0) (hz1 : i0.size = 1) (w : World) (g : Nat) (p : Option Addr) (n c : Nat) (f : Nat → Nat) (hg : w.heap[g]? = some (.cells (rowZ n) 5 (0, 0))) (h1 : 0 < n → ∃ b o, p = some ⟨b, o, none⟩ ∧ ∀ i, i < n → w.cell? ⟨b, o + i, none⟩ = some (.int .u8 (f i))) :
    (Builtin.append_ #[27, 27] 27 #[.slice (some ⟨g, 0, none⟩) 0 (n + 12), .slice p n c]).run Tryz.prog w = .ok (.slice (some ⟨g, 0, none⟩) n (n + 12)) (w.setRow g (rowC n f 0)) := by
  have hf : (Builtin.firstCells 1 n (.slice p n c)).run Tryz.prog w = .ok (((List.range n).map fun i => (Value.int .u8 (f i : Int))).toArray) w := by
    rcases Nat.eq_zero_or_pos n with h0 | h0
    · subst h0
      cases p with
      | none => exact run_firstCells_none (P := Tryz.prog) (w := w) 1 0 0 c
      | some a => exact run_firstCells_some (P := Tryz.prog) w 1 0 a 0 c [] rfl (by simp)
    · obtain ⟨b, o, rfl, hc⟩ := h1 h0
      refine run_firstCells_some (P := Tryz.prog) w 1 n ⟨b, o, none⟩ n c _ (by simp) ?_
      intro j v hj
      have hjn : j < n := by
        have := List.getElem?_eq_some_iff.mp hj
        obtain ⟨h, _⟩ := this
        simpa using h
      rw [List.getElem?_map, List.getElem?_range hjn] at hj
      have hadd : (⟨b, o, none⟩ : Addr).add j = ⟨b, o + j, none⟩ := by unfold Addr.add; split <;> simp_all
      rw [hadd, hc j hjn]
      exact hj
  have hst := run_storeCells_at Tryz.prog g 0 5 ((List.range n).map fun i => (Value.int .u8 (f i : Int))) 0 (rowZ n) w hg (by rw [rowZ_size]; simp) (by intro v hv; obtain ⟨j, _, rfl⟩ := List.mem_map.mp hv; rfl)
  rw [show (0 : Nat) + 0 = 0 * 1 from rfl, rowC_zero] at hst
  have hroom : n ≤ n + 12 := Nat.le_add_right _ _
  simp [Builtin.append_, run_underlying Tryz.underlying27, sizeOf, typeInfo, hi, hz1, Builtin.lenOf, hf, hst, Addr.add_lit]
end Go.Proofs
namespace Go.Proofs
open Go Go.RowKit
theorem wpList_append_is {P : Program} (w : World) {ops : Array Oper} {rest : List Oper} {o : Oper} {a : Act} {Q : Exit → Act → World → Prop}
    (hg : o.guard = none) (s x : Operand) (t : TypeId) (hop : o.op = Op.call { callee := Callee.builtin Builtin.append, args := #[s, x], argTypes := #[t, t] })
    (vs vx : Value) (hs : a.eval s = vs) (hx : a.eval x = vx) {v : Value} {w' : World} (hrun : (Builtin.append_ #[t, t] o.type #[vs, vx]).run P w = .ok v w')
    (hK : wpList P ops Q rest (a.put o.dst v) w') :
    wpList P ops Q (o :: rest) a w := by
  refine wpList_plain hg fun K hK' => ?_
  unfold Oper.wp
  simp [execOp, hop, resolve, invoke, builtin, hs, hx, hrun, Result.andThen]
  exact hK' _ _ hK
theorem Tryz.lent_next (i0 : TypeInfo) (hi : Tryz.prog.info? 5 = some i0) (hz1 : i0.size = 1) (w wr : World) (g n k : Nat) (f : Nat → Nat) (hgg : w.heap.size = g) (hk : k < 12) (hrow : RowAt w wr g (rowC n f k)) :
    ∃ W2, (Builtin.append_ #[27, 27] 27 #[.slice (some ⟨g, 0, none⟩) (n + k) (n + 12), .slice (some ⟨wr.heap.size, 0, none⟩) 1 1]).run Tryz.prog (wr.alloc (.cells #[.int .u8 (markV 1 k : Int)] 5)) = .ok (.slice (some ⟨g, 0, none⟩) (n + (k + 1)) (n + 12)) W2 ∧ RowAt w W2 g (rowC n f (k + 1)) := by
  have hgs : g < wr.heap.size := by
    rcases Nat.lt_or_ge g wr.heap.size with h | h
    · exact h
    · have := hrow.row
      rw [Array.getElem?_eq_none h] at this
      cases this
  have hrg : (wr.alloc (.cells #[.int .u8 (markV 1 k : Int)] 5)).heap[g]? = some (.cells (rowC n f k) 5 (0, 0)) := by rw [Below.heap_alloc wr _ g hgs]; exact hrow.row
  have hr := run_append_room (P := Tryz.prog) (w := wr.alloc (.cells #[.int .u8 (markV 1 k : Int)] 5)) 27 27 5 i0 Tryz.underlying27 hi g (n + k) (n + 12) (rowC n f k) hrg ⟨wr.heap.size, 0, none⟩ 1 1 [.int .u8 (markV 1 k : Int)] (by rw [hz1]; rfl) (by
      intro j u hu
      cases j with
      | zero =>
        simp at hu
        subst hu
        rw [Addr.add_lit]
        have := heap_alloc_new wr (.cells #[.int .u8 (markV 1 k : Int)] 5)
        unfold World.cell?
        rw [this]
        rfl
      | succ j => simp at hu) (by intro u hu; simp at hu; subst hu; rfl) (by omega) (by rw [hz1, rowC_size]; simp; omega)
  rw [hz1, rowC_succ n f k hk] at hr
  refine ⟨_, hr, ⟨setRow_heap _ _ _ _ 5 (0, 0) hrg, fun b hb => ?_, ?_, ?_, ?_, ?_⟩⟩
  · rw [setRow_other _ _ _ _ (by omega), Below.heap_alloc wr _ b (Nat.lt_of_lt_of_le hb hrow.size)]; exact hrow.old b hb
  · have := hrow.size
    simp [World.setRow]; omega
  · exact hrow.os
  · exact hrow.tape
  · exact hrow.output
set_option maxHeartbeats 2000000 in
set_option maxRecDepth 100000 in
theorem Tryz.lent_walkg (p : Option Addr) (n c : Nat) (f : Nat → Nat) (w : World) (g : Nat) (hgg : w.heap.size = g) (hnc : n ≤ c) (hbig : n ≤ 3000) (h1 : 0 < n → ∃ b o, p = some ⟨b, o, none⟩ ∧ b < w.heap.size ∧ ∀ i, i < n → w.cell? ⟨b, o + i, none⟩ = some (.int .u8 (f i))) :
    Calls Tryz.prog 44 #[.slice p n c] w fun e w' => e = .returned (.slice (some ⟨g, 0, none⟩) n (n + 12)) ∧ RowAt w w' g (rowC n f 12) := by
  obtain ⟨i0, hi, hz0, hz1, hz2⟩ := info_parts (show (Tryz.prog.info? 5).map (fun i => (i.zero, i.size, i.bytes)) = some (some (.int .u8 0), 1, 1) by kernel_rfl)
  have hmk : (Instr.makeSlice 27 (.int .i64 0) (.int .i64 ((n : Int) + 12))).run Tryz.prog w = .ok (.slice (some ⟨g, 0, none⟩) 0 (n + 12)) (w.alloc (.cells (rowZ n) 5)) := by
    have := run_make (P := Tryz.prog) w 27 5 i0 (.int .u8 0) Tryz.underlying27 hi hz0 .i64 .i64 0 ((n : Int) + 12) (by omega) (by omega) (by rw [hz2]; omega) (by omega)
    rw [this, hz1, hgg, Nat.mul_one, show ((n : Int) + 12).toNat = n + 12 by omega]
    show Result.ok (Value.slice _ 0 (n + 12)) (w.alloc (.cells (madeCells #[Value.int .u8 0] (n + 12)) 5)) = _
    rw [rowZ_made]
  have happ := Tryz.lent_append i0 hi hz1 (w.alloc (.cells (rowZ n) 5)) g p n c f (by subst hgg; exact heap_alloc_new w _) (fun h0 => by
    obtain ⟨b, o, e, hb, hc⟩ := h1 h0
    exact ⟨b, o, e, fun i hi => by rw [← hc i hi]; unfold World.cell?; rw [Below.heap_alloc w _ b hb]⟩)
  have hat : RowAt w ((w.alloc (.cells (rowZ n) 5)).setRow g (rowC n f 0)) g (rowC n f 0) :=
    ⟨setRow_heap _ _ _ _ 5 (0, 0) (by subst hgg; exact heap_alloc_new w _), fun b hb => by rw [setRow_other _ _ _ _ (by omega)]; exact Below.heap_alloc w _ b hb, by simp [World.setRow], rfl, rfl, rfl⟩
  generalize (w.alloc (.cells (rowZ n) 5)).setRow g (rowC n f 0) = W0 at happ hat
  go_enter Tryz.func44, Tryz.ntmps44
  go_wp2_with (first | (at_builtin; refine wpList_append_is _ rfl _ _ 27 rfl _ _ rfl rfl happ ?_) | go_in)
  clear happ hmk
  go_loopg [3, 4] 12 (fun kx s0 s1 wr => ∃ k : Nat, k ≤ 12 ∧ 12 - k ≤ kx ∧ s0 = .slice (some ⟨g, 0, none⟩) (n + k) (n + 12) ∧ s1 = .int .i64 (k : Int) ∧ RowAt w wr g (rowC n f k))
  case atStart => exact ⟨0, Nat.zero_le _, Nat.le_refl _, rfl, rfl, hat⟩
  case round =>
    obtain ⟨k, hkn, hkx, rfl, rfl, hrow⟩ := hrel
    by_cases h0 : k < 12
    · have hkc : (k : Int) < 12 := by omega
      have hknat : ((k : Int)).toNat = k := by omega
      go_wp2_with (first | (at_builtin; refine wpList_append_is _ rfl _ _ 27 rfl _ _ rfl rfl happ2 ?_) | (go_at_call 112; refine (Tryz.markByte_walk 1 k _ (by omega)).mono ?_; rintro e w' ⟨rfl, rfl⟩; obtain ⟨W2, happ2, hrow2⟩ := Tryz.lent_next i0 hi hz1 w _ g n k f hgg h0 hrow) | go_in)
      go_roundg (12 - (k + 1))
      case measure => omega
      case rel => exact ⟨k + 1, by omega, Nat.le_refl _, by simp, by simp, hrow2⟩
    · obtain rfl : k = 12 := by omega
      go_wp2
      go_ret
      exact ⟨rfl, hrow⟩
theorem Tryz.lent_walk (p : Option Addr) (n c : Nat) (f : Nat → Nat) (w : World) (hnc : n ≤ c) (hbig : n ≤ 3000) (h1 : 0 < n → ∃ b o, p = some ⟨b, o, none⟩ ∧ b < w.heap.size ∧ ∀ i, i < n → w.cell? ⟨b, o + i, none⟩ = some (.int .u8 (f i))) :
    Calls Tryz.prog 44 #[.slice p n c] w fun e w' => e = .returned (.slice (some ⟨w.heap.size, 0, none⟩) n (n + 12)) ∧ RowAt w w' w.heap.size (rowC n f 12) := Tryz.lent_walkg p n c f w _ rfl hnc hbig h1
end Go.Proofs
namespace Go.Proofs
open Go Go.RowKit
/-- Alike but for what was drawn. -/
structure SameW (w W : World) : Prop where
  heap : W.heap = w.heap
  os : W.os = w.os
  tape : W.tape = w.tape
  output : W.output = w.output
theorem SameW.cell {w W : World} (h : SameW w W) (a : Addr) : W.cell? a = w.cell? a := by unfold World.cell?; rw [h.heap]
set_option maxHeartbeats 20000000 in
set_option maxRecDepth 100000 in
theorem Tryz.kept_walk (g : Nat) (p : Option Addr) (n c : Nat) (f : Nat → Nat) (w : World) (hnc : n ≤ c) (hbig : n ≤ 3000) (hf : ∀ i, f i < 256) (hg : ∀ i, i < n + 12 → w.cell? ⟨g, i, none⟩ = some (.int .u8 ((if i < n then f i else markV 1 (i - n) : Nat) : Int))) (h1 : 0 < n → ∃ b o, p = some ⟨b, o, none⟩ ∧ ∀ i, i < n → w.cell? ⟨b, o + i, none⟩ = some (.int .u8 (f i))) :
    Calls Tryz.prog 47 #[.slice (some ⟨g, 0, none⟩) n (n + 12), .slice p n c] w fun e w' => e = .returned (.bool true) ∧ SameW w w' := by
  have H1 : Aside _ := h1
  clear h1
  have HG : Aside _ := hg
  clear hg
  go_enter Tryz.func47, Tryz.ntmps47
  go_wp2
  go_loopg [6] (n + 12) (fun kx s0 wr => ∃ k : Nat, k ≤ n + 12 ∧ n + 12 - k ≤ kx ∧ s0 = .int .i64 (k : Int) ∧ SameW w wr)
  case atStart => exact ⟨0, Nat.zero_le _, Nat.le_refl _, rfl, rfl, rfl, rfl, rfl⟩
  case round =>
    obtain ⟨k, hkn, hkx, rfl, hsm⟩ := hrel
    have HS : Aside _ := hsm
    clear hsm
    by_cases h0 : k < n + 12
    · have hct := (HS.out.cell _).trans (HG.out k h0)
      have hct' : wr.cell? ⟨g, 0 + k, none⟩ = some (.int .u8 ((if k < n then f k else markV 1 (k - n) : Nat) : Int)) := by rw [Nat.zero_add]; exact hct
      have hkc : (k : Int) < n + 12 := by omega
      have hknat : ((k : Int)).toNat = k := by omega
      by_cases h2 : k < n
      · obtain ⟨b, o, rfl, hc⟩ := H1.out (by omega)
        have hcl := (HS.out.cell _).trans (hc k h2)
        clear hc
        rw [if_pos h2] at hct hct'
        have hkn2 : (k : Int) < n := by omega
        have hkn3 : ¬ n ≤ k := by omega
        go_wp2
        go_region
        go_wp2
        go_roundg (n + 12 - (k + 1))
        case measure => omega
        case rel => exact ⟨k + 1, by omega, Nat.le_refl _, by simp, HS.out.heap, HS.out.os, HS.out.tape, HS.out.output⟩
      · rw [if_neg h2] at hct hct'
        have hkn2 : ¬ (k : Int) < n := by omega
        have hkn3 : n ≤ k := by omega
        go_wp2
        refine wp_region_any (by kernel_rfl) ?_
        try (change wpAny _ _ _ _ _ _ _ (World.drew _))
        refine wpAny_take (i := 0) (v := .int .i64 (k : Int)) rfl (by kernel_rfl) (by kernel_rfl) (by kernel_rfl) (fun _ _ _ h => h) (Or.inl ⟨by kernel_rfl, ?_⟩) ?_
        · intro w
          go_simp
        refine wpAny_take (i := 1) (v := .slice p n c) rfl (by kernel_rfl) (by kernel_rfl) (by kernel_rfl) (fun _ _ _ h => h) (Or.inl ⟨by kernel_rfl, ?_⟩) ?_
        · intro w
          go_simp
        refine wpAny_take (i := 2) (v := .int .i64 (n : Int)) rfl (by kernel_rfl) (by kernel_rfl) (by kernel_rfl) (fun _ _ _ h => h) (Or.inl ⟨by kernel_rfl, ?_⟩) ?_
        · intro w
          go_simp
        refine wpAny_take (i := 3) (v := .bool false) rfl (by kernel_rfl) (by kernel_rfl) (by kernel_rfl) (fun _ _ _ h => h) (Or.inl ⟨by kernel_rfl, ?_⟩) ?_
        · intro w
          go_simp
        refine wpAny_take (i := 4) (v := .bool false) rfl (by kernel_rfl) (by kernel_rfl) (by kernel_rfl) (fun _ _ _ h => h) (Or.inl ⟨by kernel_rfl, ?_⟩) ?_
        · intro w
          go_simp
        refine wpAny_take (i := 5) (v := undef) rfl (by kernel_rfl) (by kernel_rfl) (by kernel_rfl) (fun _ _ _ h => h) (Or.inr ⟨by kernel_rfl, rfl⟩) ?_
        refine wpAny_take (i := 6) (v := undef) rfl (by kernel_rfl) (by kernel_rfl) (by kernel_rfl) (fun _ _ _ h => h) (Or.inr ⟨by kernel_rfl, rfl⟩) ?_
        refine wpAny_take (i := 7) (v := undef) rfl (by kernel_rfl) (by kernel_rfl) (by kernel_rfl) (fun _ _ _ h => h) (Or.inr ⟨by kernel_rfl, rfl⟩) ?_
        refine wpAny_take (i := 8) (v := undef) rfl (by kernel_rfl) (by kernel_rfl) (by kernel_rfl) (fun _ _ _ h => h) (Or.inr ⟨by kernel_rfl, rfl⟩) ?_
        refine wpAny_take (i := 9) (v := undef) rfl (by kernel_rfl) (by kernel_rfl) (by kernel_rfl) (fun _ _ _ h => h) (Or.inr ⟨by kernel_rfl, rfl⟩) ?_
        refine wpAny_take (i := 10) (v := undef) rfl (by kernel_rfl) (by kernel_rfl) (by kernel_rfl) (fun _ _ _ h => h) (Or.inr ⟨by kernel_rfl, rfl⟩) ?_
        refine wpAny_take (i := 11) (v := undef) rfl (by kernel_rfl) (by kernel_rfl) (by kernel_rfl) (fun _ _ _ h => h) (Or.inr ⟨by kernel_rfl, rfl⟩) ?_
        refine wpAny_take (i := 12) (v := undef) rfl (by kernel_rfl) (by kernel_rfl) (by kernel_rfl) (fun _ _ _ h => h) (Or.inr ⟨by kernel_rfl, rfl⟩) ?_
        refine wpAny_take (i := 13) (v := undef) rfl (by kernel_rfl) (by kernel_rfl) (by kernel_rfl) (fun _ _ _ h => h) (Or.inr ⟨by kernel_rfl, rfl⟩) ?_
        refine wpAny_take (i := 14) (v := undef) rfl (by kernel_rfl) (by kernel_rfl) (by kernel_rfl) (fun _ _ _ h => h) (Or.inr ⟨by kernel_rfl, rfl⟩) ?_
        refine wpAny_take (i := 15) (v := .bool false) rfl (by kernel_rfl) (by kernel_rfl) (by kernel_rfl) (fun _ _ _ h => h) (Or.inl ⟨by kernel_rfl, ?_⟩) ?_
        · intro w
          go_simp
        refine wpAny_take (i := 16) (v := .bool false) rfl (by kernel_rfl) (by kernel_rfl) (by kernel_rfl) (fun _ _ _ h => h) (Or.inl ⟨by kernel_rfl, ?_⟩) ?_
        · intro w
          go_simp
        refine wpAny_take (i := 17) (v := .int .i64 (k : Int)) rfl (by kernel_rfl) (by kernel_rfl) (by kernel_rfl) (fun _ _ _ h => h) (Or.inl ⟨by kernel_rfl, ?_⟩) ?_
        · intro w
          go_simp
        refine wpAny_take (i := 18) (v := .slice p n c) rfl (by kernel_rfl) (by kernel_rfl) (by kernel_rfl) (fun _ _ _ h => h) (Or.inl ⟨by kernel_rfl, ?_⟩) ?_
        · intro w
          go_simp
        refine wpAny_take (i := 19) (v := .int .i64 (n : Int)) rfl (by kernel_rfl) (by kernel_rfl) (by kernel_rfl) (fun _ _ _ h => h) (Or.inl ⟨by kernel_rfl, ?_⟩) ?_
        · intro w
          go_simp
        refine wpAny_take (i := 20) (v := .bool true) rfl (by kernel_rfl) (by kernel_rfl) (by kernel_rfl) (fun _ _ _ h => h) (Or.inl ⟨by kernel_rfl, ?_⟩) ?_
        · intro w
          go_simp
        refine wpAny_take (i := 21) (v := .bool true) rfl (by kernel_rfl) (by kernel_rfl) (by kernel_rfl) (fun _ _ _ h => h) (Or.inl ⟨by kernel_rfl, ?_⟩) ?_
        · intro w
          go_simp
        refine wpAny_take (i := 22) (v := .slice (some ⟨g, 0, none⟩) (n + 12) (n + 12)) rfl (by kernel_rfl) (by kernel_rfl) (by kernel_rfl) (fun _ _ _ h => h) (Or.inl ⟨by kernel_rfl, ?_⟩) ?_
        · intro w
          go_simp
        refine wpAny_take (i := 23) (v := .int .i64 (k : Int)) rfl (by kernel_rfl) (by kernel_rfl) (by kernel_rfl) (fun _ _ _ h => h) (Or.inl ⟨by kernel_rfl, ?_⟩) ?_
        · intro w
          go_simp
        refine wpAny_take (i := 24) (v := .pointer (some ⟨g, k, none⟩)) rfl (by kernel_rfl) (by kernel_rfl) (by kernel_rfl) (fun _ _ _ h => h) (Or.inl ⟨by kernel_rfl, ?_⟩) ?_
        · intro w
          go_simp
        refine wpAny_take (i := 26) (v := .int .i64 (k : Int)) rfl (by kernel_rfl) (by kernel_rfl) (by kernel_rfl) (fun _ _ _ h => h) (Or.inl ⟨by kernel_rfl, ?_⟩) ?_
        · intro w
          go_simp
        refine wpAny_take (i := 27) (v := .slice p n c) rfl (by kernel_rfl) (by kernel_rfl) (by kernel_rfl) (fun _ _ _ h => h) (Or.inl ⟨by kernel_rfl, ?_⟩) ?_
        · intro w
          go_simp
        refine wpAny_take (i := 28) (v := .int .i64 (n : Int)) rfl (by kernel_rfl) (by kernel_rfl) (by kernel_rfl) (fun _ _ _ h => h) (Or.inl ⟨by kernel_rfl, ?_⟩) ?_
        · intro w
          go_simp
        refine wpAny_take (i := 29) (v := .int .i64 ((k - n : Nat) : Int)) rfl (by kernel_rfl) (by kernel_rfl) (by kernel_rfl) (fun _ _ _ h => h) (Or.inl ⟨by kernel_rfl, ?_⟩) ?_
        · intro w
          go_simp
          rw [IntKind.wrap_i64]; omega
        refine wpAny_ready (rs := [25, 30]) (by kernel_rfl) (by simp) ?_
        refine AllReady.cons rfl (fun K hK => ?_) ?_
        · go_simp
          refine hK _ _ ?_
          clear hK K
          refine wpAny_ready (rs := [30]) (by kernel_rfl) (by simp) ?_
          refine AllReady.cons rfl (fun K hK => ?_) AllReady.nil
          go_simp
          go_wp2_with (go_at_call 112; refine (Tryz.markByte_walk 1 (k - n) _ (by omega)).mono ?_; rintro e w' ⟨rfl, rfl⟩)
          refine wpAny_take (i := 31) (v := .bool true) rfl (by kernel_rfl) (by kernel_rfl) (by kernel_rfl) (fun _ _ _ h => h) (Or.inl ⟨by kernel_rfl, ?_⟩) ?_
          · intro w
            go_simp
          refine wpAny_take (i := 32) (v := .bool false) rfl (by kernel_rfl) (by kernel_rfl) (by kernel_rfl) (fun _ _ _ h => h) (Or.inl ⟨by kernel_rfl, ?_⟩) ?_
          · intro w
            go_simp
          refine wpAny_take (i := 33) (v := .bool false) rfl (by kernel_rfl) (by kernel_rfl) (by kernel_rfl) (fun _ _ _ h => h) (Or.inl ⟨by kernel_rfl, ?_⟩) ?_
          · intro w
            go_simp
          refine wpAny_take (i := 34) (v := .bool false) rfl (by kernel_rfl) (by kernel_rfl) (by kernel_rfl) (fun _ _ _ h => h) (Or.inl ⟨by kernel_rfl, ?_⟩) ?_
          · intro w
            go_simp
          refine wpAny_done (by kernel_rfl) ?_ _
          go_wp2
          go_roundg (n + 12 - (k + 1))
          case measure => omega
          case rel => exact ⟨k + 1, by omega, Nat.le_refl _, by simp, HS.out.heap, HS.out.os, HS.out.tape, HS.out.output⟩
        · refine AllReady.cons rfl (fun K hK => ?_) AllReady.nil
          go_simp
          go_wp2_with (go_at_call 112; refine (Tryz.markByte_walk 1 (k - n) _ (by omega)).mono ?_; rintro e w' ⟨rfl, rfl⟩)
          refine wpAny_ready (rs := [25]) (by kernel_rfl) (by simp) ?_
          refine AllReady.cons rfl (fun K hK => ?_) AllReady.nil
          go_simp
          refine hK _ _ ?_
          clear hK K
          refine wpAny_take (i := 31) (v := .bool true) rfl (by kernel_rfl) (by kernel_rfl) (by kernel_rfl) (fun _ _ _ h => h) (Or.inl ⟨by kernel_rfl, ?_⟩) ?_
          · intro w
            go_simp
          refine wpAny_take (i := 32) (v := .bool false) rfl (by kernel_rfl) (by kernel_rfl) (by kernel_rfl) (fun _ _ _ h => h) (Or.inl ⟨by kernel_rfl, ?_⟩) ?_
          · intro w
            go_simp
          refine wpAny_take (i := 33) (v := .bool false) rfl (by kernel_rfl) (by kernel_rfl) (by kernel_rfl) (fun _ _ _ h => h) (Or.inl ⟨by kernel_rfl, ?_⟩) ?_
          · intro w
            go_simp
          refine wpAny_take (i := 34) (v := .bool false) rfl (by kernel_rfl) (by kernel_rfl) (by kernel_rfl) (fun _ _ _ h => h) (Or.inl ⟨by kernel_rfl, ?_⟩) ?_
          · intro w
            go_simp
          refine wpAny_done (by kernel_rfl) ?_ _
          go_wp2
          go_roundg (n + 12 - (k + 1))
          case measure => omega
          case rel => exact ⟨k + 1, by omega, Nat.le_refl _, by simp, HS.out.heap, HS.out.os, HS.out.tape, HS.out.output⟩
    · obtain rfl : k = n + 12 := by omega
      go_wp2
      go_ret
      exact ⟨rfl, HS.out⟩
end Go.Proofs
namespace Go.Proofs
open Go Go.RowKit
def headR (f : Nat → Nat) (n : Nat) (h : Int) : Int := if 1 ≤ h then (fnvN f n : Int) % h else 0
theorem Tryz.head_any (p : Option Addr) (n c : Nat) (f : Nat → Nat) (h : Int) (w : World) (hnc : n ≤ c) (hbig : n ≤ 9223372036854775807) (hf : ∀ i, f i < 256) (h1 : 0 < n → ∃ b o, p = some ⟨b, o, none⟩ ∧ ∀ i, i < n → w.cell? ⟨b, o + i, none⟩ = some (.int .u8 (f i))) (hhb : h ≤ 9223372036854775807) :
    Calls Tryz.prog 45 #[.slice p n c, .int .i64 h] w fun e w' => e = .returned (.int .i64 (headR f n h)) ∧ w' = w := by
  unfold headR
  by_cases hh : 1 ≤ h
  · rw [if_pos hh]; exact Tryz.head_walk p n c f h w hnc hbig hf h1 hh hhb
  · rw [if_neg hh]; exact Tryz.head_walk0 p n c h w (by omega)
theorem Tryz.rhead_any (p : Option Addr) (n c : Nat) (f : Nat → Nat) (h : Int) (w : World) (hnc : n ≤ c) (hbig : n ≤ 9223372036854775807) (hf : ∀ i, f i < 256) (h1 : 0 < n → ∃ b o, p = some ⟨b, o, none⟩ ∧ ∀ i, i < n → w.cell? ⟨b, o + i, none⟩ = some (.int .u8 (f i))) (hhb : h ≤ 9223372036854775807) :
    Calls Tryz.prog 46 #[.slice p n c, .int .i64 h] w fun e w' => e = .returned (.int .i64 (headR f n h)) ∧ w' = w := by
  unfold headR
  by_cases hh : 1 ≤ h
  · rw [if_pos hh]; exact Tryz.rhead_walk p n c f h w hnc hbig hf h1 hh hhb
  · rw [if_neg hh]; exact Tryz.rhead_walk0 p n c h w (by omega)
theorem awake23_calls (w : World) : Calls Tryz.prog 43 #[] w fun e w' => e = .returned (.bool true) ∧ Below w.heap.size w w' := by
  have h := Am.awake23
  generalize 100000 = N at h
  exact Am.calls_of_run Am.M0 Am.S23p_ok (σ := Am.σ0) h Am.LR.nil
theorem rowC_cell (w W : World) (g n k : Nat) (f : Nat → Nat) (h : RowAt w W g (rowC n f k)) (i : Nat) (hi : i < n + 12) : W.cell? ⟨g, i, none⟩ = some (.int .u8 ((if i < n + k then (if i < n then f i else markV 1 (i - n)) else 0 : Nat) : Int)) := by
  unfold World.cell?
  rw [h.row]
  exact rowC_get n f k i hi
theorem RowAt.cell {w W : World} {g : Nat} {cs : Array Value} (h : RowAt w W g cs) (b o : Nat) (hb : b < w.heap.size) : W.cell? ⟨b, o, none⟩ = w.cell? ⟨b, o, none⟩ := by
  unfold World.cell?
  rw [h.old b hb]
set_option maxHeartbeats 2000000 in
set_option maxRecDepth 100000 in
theorem Tryz.heads_walk (p : Option Addr) (n c : Nat) (f : Nat → Nat) (h : Int) (w : World) (hnc : n ≤ c) (hcm : c ≤ maxLen) (hf : ∀ i, f i < 256) (h1 : 0 < n → ∃ b o, p = some ⟨b, o, none⟩ ∧ b < w.heap.size ∧ ∀ i, i < n → w.cell? ⟨b, o + i, none⟩ = some (.int .u8 (f i))) (hlb : -9223372036854775808 ≤ h) (hhb : h ≤ 9223372036854775807) :
    Calls Tryz.prog 7 #[.slice p n c, .int .i64 h] w fun e w' => e = .returned (.bool true) ∧ Below w.heap.size w w' := by
  have hcm' := hcm
  unfold maxLen at hcm'
  by_cases hn : 3000 < n
  · have hni : (3000 : Int) < n := by omega
    clear h1
    go_enter Tryz.func7, Tryz.ntmps7
    go_wp2_with (go_at_call 43; refine (awake23_calls _).mono ?_; rintro e w' ⟨rfl, hb⟩)
    go_ret
    exact ⟨rfl, hb⟩
  · have hni : ¬ (3000 : Int) < n := by omega
    have H1 : Aside _ := h1
    clear h1
    have HF : Aside _ := hf
    clear hf
    go_enter Tryz.func7, Tryz.ntmps7
    go_wp2_with (first
      | (go_at_call 44; refine (Tryz.lent_walk p n c f w hnc (by omega) H1.out).mono ?_; rintro e w1 ⟨rfl, hrow⟩; have HR : Aside _ := hrow; clear hrow)
      | (go_at_call 45; refine (Tryz.head_any (some ⟨w.heap.size, 0, none⟩) n (n + 12) f h _ (Nat.le_add_right _ _) (by omega) HF.out (fun h0 => ⟨_, _, rfl, fun i hi => by rw [Nat.zero_add, rowC_cell w _ _ n 12 f HR.out i (by omega), if_pos (by omega), if_pos hi]⟩) hhb).mono ?_; rintro e w2 ⟨rfl, rfl⟩)
      | (go_at_call 46; refine (Tryz.rhead_any p n c f h _ hnc (by omega) HF.out (fun h0 => by
          obtain ⟨b, o, e, hb, hc⟩ := H1.out h0
          exact ⟨b, o, e, fun i hi => (HR.out.cell b _ hb).trans (hc i hi)⟩) hhb).mono ?_; rintro e w2 ⟨rfl, rfl⟩)
      | (go_at_call 47; refine (Tryz.kept_walk w.heap.size p n c f _ hnc (by omega) HF.out (fun i hi => by
          rw [rowC_cell w _ _ n 12 f HR.out i hi, if_pos hi]) (fun h0 => by
          obtain ⟨b, o, e, hb, hc⟩ := H1.out h0
          exact ⟨b, o, e, fun i hi => (HR.out.cell b _ hb).trans (hc i hi)⟩)).mono ?_; rintro e w3 ⟨rfl, hsm⟩; have HS : Aside _ := hsm; clear hsm)
      | (go_at_call 43; refine (awake23_calls _).mono ?_; rintro e w4 ⟨rfl, hb⟩; have HB : Aside _ := hb; clear hb))
    go_ret
    refine ⟨rfl, ?_⟩
    have hr := HR.out
    have hs := HS.out
    have hb := HB.out
    exact ⟨hb.os.trans (hs.os.trans hr.os), hb.tape.trans (hs.tape.trans hr.tape), hb.output.trans (hs.output.trans hr.output), Nat.le_trans hr.size (Nat.le_trans (Nat.le_of_eq (by rw [hs.heap])) hb.size), fun k hk => (hb.block k (by rw [hs.heap]; exact Nat.lt_of_lt_of_le hk hr.size)).trans (by rw [hs.heap]; exact hr.old k hk)⟩
end Go.Proofs
namespace Go.Proofs
open Go Go.RowKit Go.ChangeShapes Go.WideShapes
theorem bytes_shape {P : Program} {H : Type} {enc : TypeId × Value → H} {w : World} {r : Reach} {b0 base : Nat} {held : Bool} {t e : TypeId} {v : Value} {d : DataW H} {ps : List MemPlace} (ht : P.underlying t = some (.slice e)) (he : P.underlying e = some (.int .u8)) (hc : P.cellsOf e = 1)
    (hval : Value.okWide P w r b0 t v) (hd : DataW.Trod enc P w base (fun _ => true) held t v d ps) :
    ∃ (p : Option Addr) (n c : Nat) (f : Nat → Nat), v = .slice p n c ∧ n ≤ c ∧ c ≤ maxLen ∧ (∀ i, f i < 256) ∧ (0 < n → ∃ b o, p = some ⟨b, o, none⟩ ∧ b < w.heap.size ∧ ∀ i, i < n → w.cell? ⟨b, o + i, none⟩ = some (.int .u8 (f i))) := by
  obtain ⟨a0, n, c, rfl⟩ := okWide_slice ht hval
  obtain ⟨fuel, hf⟩ := hd
  rcases open_ints ht he hc hf with ⟨h, _⟩ | ⟨a, len, cap, zs, h, _, hlc, hcm, hzl, _, hcell, hwf⟩
  · simp [Value.cells] at h
    obtain ⟨rfl, rfl, rfl⟩ := h
    exact ⟨_, _, _, fun _ => 0, rfl, Nat.le_refl _, Nat.zero_le _, fun _ => by show 0 < 256; omega, fun h => by omega⟩
  · simp [Value.cells] at h
    obtain ⟨rfl, rfl, rfl⟩ := h
    simp at hzl
    have hb : ∀ i, 0 ≤ zs.getD i 0 ∧ zs.getD i 0 ≤ 255 := by
      intro i
      rcases Nat.lt_or_ge i zs.length with hi | hi
      · have := bounds_u8 (hwf (zs.getD i 0) (by rw [List.getD_eq_getElem?_getD, List.getElem?_eq_getElem hi]; exact List.getElem_mem hi))
        exact this
      · rw [List.getD_eq_getElem?_getD, List.getElem?_eq_none hi]; simp
    refine ⟨_, _, _, fun i => (zs.getD i 0).toNat, rfl, hlc, hcm, fun i => by have := hb i; show (zs.getD i 0).toNat < 256; omega, fun h0 => ?_⟩
    obtain ⟨b, o, rfl, hc2⟩ := ints_at hcell (by omega)
    refine ⟨b, o, rfl, ?_, fun i hi => ?_⟩
    · have := hc2 0 (by omega)
      rcases Nat.lt_or_ge b w.heap.size with h | h
      · exact h
      · unfold World.cell? at this
        rw [Array.getElem?_eq_none h] at this
        simp at this
    · rw [hc2 i (by omega)]
      have := hb i
      show some (Value.int .u8 (zs.getD i 0)) = some (Value.int .u8 ((zs.getD i 0).toNat : Int))
      rw [Int.toNat_of_nonneg this.1]
end Go.Proofs
namespace Go.Am
open Go Go.Proofs Go.RowKit Go.ChangeShapes Go.WideShapes
theorem cells27 : Tryz.prog.cellsOf 5 = 1 := by kernel_rfl
set_option maxRecDepth 100000 in
theorem walk_tableHeads {H : Type} {enc : TypeId × Value → H} {v0 v1 : Value} {w : World} {r : Reach} {base b0 : Nat} {held : Bool} {d0 d1 : DataW H} {p0 p1 : List MemPlace} (h0 : Value.okWide Tryz.prog w r base 27 v0) (h1 : Value.okWide Tryz.prog w r base 3 v1)
    (t0 : DataW.Trod enc Tryz.prog w b0 (fun _ => true) held 27 v0 d0 p0) (t1 : DataW.Trod enc Tryz.prog w b0 (fun _ => true) held 3 v1 d1 p1) :
    Calls Tryz.prog 7 #[v0, v1] w fun e w' => e = .returned (.bool true) ∧ Below w.heap.size w w' := by
  obtain ⟨p, n, c, f, rfl, hnc, hcm, hf, hc⟩ := bytes_shape Tryz.underlying27 Tryz.underlying5 cells27 h0 t0
  obtain ⟨h, rfl, _, _, hw⟩ := open_int Tryz.underlying3 h1 t1
  have hb := bounds_i64 hw
  exact Tryz.heads_walk p n c f h w hnc hcm hf hc (by omega) (by omega)
end Go.Am
