import Derived.Test.YtfdbmpokhfjdoaaGreatDoorAmS13
set_option linter.unusedVariables false
set_option linter.unusedSimpArgs false
/-! Soundness, 14: blocks that are made. -/
namespace Go.Am
open Go
/-- A block is made. -/
def AlS (P : Program) (φ : Emb) (w : World) (blk : Blk) (mk : Ad → AV) (s : Sem Value) : Prop :=
  ∃ r w' obj, s.run P w = .ok r w' ∧ w'.heap = w.heap.push obj ∧ w'.os = w.os ∧ w'.tape = w.tape ∧ w'.output = w.output ∧
    ∀ β, φ β = none → BR P (φ.put β (w.heap.size, 0)) (w.heap.push obj) blk w.heap.size 0 ∧ VR (φ.put β (w.heap.size, 0)) (csz (w.heap.push obj)) (mk β) r
theorem br_push {P : Program} {φ : Emb} {h : Array Obj} {c : AV} {xs : Array Value} {n : Nat} {e : TypeId} {fz : Nat × Nat} {pl : Bool} (hn : n ≤ xs.size) (hfz : FzOk fz xs.size pl) (hc : ∀ i, i < n → ∃ v x, c.rget i = some v ∧ xs[i]? = some x ∧ v.plain ∧ VR φ (csz h) v x) {β : Ad} (hβ : φ β = none) :
    BR P (φ.put β (h.size, 0)) (h.push (.cells xs e fz)) (.cells n c 0 pl 0 []) h.size 0 := by
  have hself : (h.push (.cells xs e fz))[h.size]? = some (.cells xs e fz) := by simp
  refine .cells _ _ _ _ _ _ _ _ _ e fz hself (by omega) hfz fun i hi => ?_
  obtain ⟨v, x, h1, h2, h3, h4⟩ := hc i hi
  exact ⟨v, x, h1, by rw [Nat.zero_add]; exact h2, h3, h4.mono (Emb.put_le hβ) (csz_push h _)⟩
theorem CR.at {φ : Emb} {κ : Nat → Nat} {c : AV} {xs : Array Value} {n : Nat} (h : CR φ κ c xs.toList) (hn : xs.size = n) : ∀ i, i < n → ∃ v x, c.rget i = some v ∧ xs[i]? = some x ∧ v.plain ∧ VR φ κ v x := fun i hi => by
  obtain ⟨v, h1, h2, h3⟩ := h i (by simpa [hn] using hi)
  rw [Array.getElem_toList] at h3
  exact ⟨v, _, h1, Array.getElem?_eq_getElem _, h2, h3⟩
theorem csz_push_self (h : Array Obj) (xs : Array Value) (e : TypeId) (fz : Nat × Nat) : csz (h.push (.cells xs e fz)) h.size = xs.size := csz_cells (cs := xs) (e := e) (fz := fz) (by simp)
section
variable {P : Program} {t : Regs} {ls : Ls} {k : Blk → (Ad → AV) → Bool}
theorem aAlloc_s {T : TypeId} {v : Value} {z : AV} (hk : aAlloc v.cells.size z t ls k = true) (hv : zeroOf P T = some v) (hz : zRope P T = some z) :
    ∃ blk mk, k blk mk = true ∧ blk.olds = [] ∧ ∀ {φ w}, AlS P φ w blk mk (Instr.alloc T true (.tuple #[])) := by
  refine ⟨_, _, hk, rfl, fun {φ w} => ?_⟩
  have hcr : ∀ φ κ, CR φ κ z v.cells.toList := fun φ κ => by
    unfold zRope at hz
    rw [hv] at hz
    exact ropeOf_s _ _ _ hz φ κ
  refine ⟨.pointer (some ⟨w.heap.size, 0, none⟩), w.alloc (.cells v.cells T), .cells v.cells T, ?_, rfl, rfl, rfl, rfl, fun β hβ => ⟨br_push (Nat.le_refl _) ⟨fun _ => rfl, .inl rfl⟩ ((hcr _ _).at rfl) hβ, .ptr β 0 _ 0 (Emb.put_self _ _ _)⟩⟩
  simp [Instr.alloc, zeroOf_run hv, newVar, newRow]
theorem aBox_s {T : TypeId} {x : OpdF} (hk : aBox x t ls k = true) :
    ∃ blk mk, k blk mk = true ∧ blk.olds = [] ∧ ∀ {φ w xv}, VR φ (csz w.heap) (x t ls) xv → AlS P φ w blk mk (Instr.box T xv) := by
  obtain ⟨n, c, hk, hc⟩ := cellsK_cr (k := fun n c => k (.cells n c 0 true 0 []) fun β => .ptr β 0) hk
  refine ⟨_, _, hk, rfl, fun {φ w xv} hx => ?_⟩
  obtain ⟨h1, h2⟩ := hc hx
  refine ⟨.pointer (some ⟨w.heap.size, 0, none⟩), w.alloc (.cells xv.cells T), .cells xv.cells T, ?_, rfl, rfl, rfl, rfl, fun β hβ => ⟨br_push (by omega) ⟨fun _ => rfl, .inl rfl⟩ (h2.at h1) hβ, .ptr β 0 _ 0 (Emb.put_self _ _ _)⟩⟩
  simp [Instr.box, newVar, newRow]
theorem aMap_s {T : TypeId} (hk : aMap t ls k = true) : ∃ blk mk, k blk mk = true ∧ blk.olds = [] ∧ ∀ {φ w}, AlS P φ w blk mk (Instr.makeMap T none) := by
  refine ⟨_, _, hk, rfl, fun {φ w} => ⟨.map (some w.heap.size), w.alloc (.map #[] 0), .map #[] 0, ?_, rfl, rfl, rfl, rfl, fun β hβ => ⟨?_, .map β _ (Emb.put_self _ _ _)⟩⟩⟩
  · simp [Instr.makeMap]
  · exact .mp _ _ #[] 0 (by simp) ⟨⟨[], List.Perm.refl _, rfl, fun i h => absurd h (Nat.not_lt_zero _)⟩, ⟨none, fun p hp => by cases hp⟩, List.nodup_nil, List.nodup_nil, fun e he => by cases he⟩
theorem range_map_get {zc : Array Value} {n i : Nat} (hi : i < n) : ((Array.range n).map (fun j => zc[j % zc.size]!))[i]? = some (zc[i % zc.size]!) := by
  simp [hi]
theorem aMake_s {T E : TypeId} {es lim : Nat} {z : AV} {l c : OpdF} (hes : 0 < es) (hk : aMake es lim z l c t ls k = true) (hT : P.underlying T = some (.slice E)) (hE : szz P E = some es) (hl : mkLim P E = some lim) (hz : zRope P E = some z) :
    ∃ blk mk, k blk mk = true ∧ blk.olds = [] ∧ ∀ {φ w lv cv}, VR φ (csz w.heap) (l t ls) lv → VR φ (csz w.heap) (c t ls) cv → AlS P φ w blk mk (Instr.makeSlice T lv cv) := by
  obtain ⟨q1, ln, h1, hk1⟩ := AV.asNat_true hk
  obtain ⟨q2, cn, h2, hk2⟩ := AV.asNat_true hk1
  obtain ⟨h3, hk3⟩ := sel_yes hk2
  obtain ⟨h4, hk4⟩ := sel_yes hk3
  obtain ⟨rr, hk5, hr⟩ := AV.repK_true hk4
  have hlc : ln ≤ cn := Nat.le_of_ble_eq_true h3
  have hcl : cn ≤ lim := Nat.le_of_ble_eq_true h4
  have hcM : cn ≤ 9223372036854775807 := by
    have h48 : lim ≤ 2 ^ 48 := by
      unfold mkLim at hl
      cases hin : P.info? E with
      | none => rw [hin] at hl; cases hl
      | some i =>
        rw [hin] at hl
        simp only [Option.map_some, Option.some.injEq] at hl
        rw [← hl]
        split
        · exact Nat.le_refl _
        · exact Nat.div_le_self _ _
    have : (2 : Nat) ^ 48 ≤ 9223372036854775807 := by decide
    omega
  refine ⟨_, _, hk5, rfl, fun {φ w lv cv} hlv hcv => ?_⟩
  rw [h1] at hlv; rw [h2] at hcv; cases hlv; cases hcv
  -- the element's noughts
  unfold szz at hE
  split at hE
  case h_2 => cases hE
  rename_i n zv hn hzv
  split at hE
  case isFalse => cases hE
  rename_i hzs
  cases hE
  obtain ⟨i, hi, his⟩ := szOf_info hn
  have hcr : ∀ φ κ, CR φ κ z zv.cells.toList := fun φ κ => by
    unfold zRope at hz
    rw [hzv] at hz
    exact ropeOf_s _ _ _ hz φ κ
  have hbytes : cn * i.bytes ≤ 2 ^ 48 ∧ cn ≤ 2 ^ 48 := by
    simp only [mkLim, hi, Option.map_some, Option.some.injEq] at hl
    split at hl
    · rename_i hb; rw [hb]; omega
    · rename_i hb
      have h5 : cn ≤ 2 ^ 48 / i.bytes := by omega
      exact ⟨Nat.le_trans (Nat.mul_le_mul_right _ h5) (Nat.div_mul_le_self _ _), Nat.le_trans h5 (Nat.div_le_self _ _)⟩
  generalize hcells : (Array.range (cn * es)).map (fun j => zv.cells[j % zv.cells.size]!) = cells
  have hsz : cells.size = cn * es := by rw [← hcells]; simp
  refine ⟨.slice (some ⟨w.heap.size, 0, none⟩) ln cn, w.alloc (.cells cells E), .cells cells E, ?_, rfl, rfl, rfl, rfl, fun β hβ => ⟨br_push (by rw [hsz]; exact Nat.le_refl _) ⟨fun _ => rfl, .inl rfl⟩ (fun j hj => ?_) hβ, ?_⟩⟩
  · have w1 : IntKind.i64.wrap (ln : Int) = ln := wrap_i64_nat (by omega)
    have w2 : IntKind.i64.wrap (cn : Int) = cn := wrap_i64_nat (by omega)
    have e1 : ¬ ((cn : Int) < 0) := by omega
    have e2 : ¬ ((ln : Int) < 0) := by omega
    have e3 : ¬ ((ln : Int) > (cn : Int)) := by omega
    have e4 : ¬ (281474976710656 < (i.bytes : Int) * (cn : Int)) := by
      have : (i.bytes : Int) * (cn : Int) = ((cn * i.bytes : Nat) : Int) := by simp [Int.mul_comm]
      omega
    have e5 : ¬ (cn < ln) := by omega
    have key : (Instr.makeSlice T (.int q1 (ln : Int)) (.int q2 (cn : Int))).run P w = .ok (.slice (some ⟨w.heap.size, 0, none⟩) ln cn) (w.alloc (.cells (if cn * es = 0 then (Array.range (cn * es)).map (fun j => (#[] : Array Value)[j % 0]!) else cells) E)) := by
      unfold Instr.makeSlice
      simp [underlying, hT, asInt, asIntOf, typeInfo, hi, w1, w2, e1, e2, e3, e4, e5, szOf_run hn, zeroOf_run hzv, newRow]
      split <;> simp_all
    have hcz : (if cn * es = 0 then (Array.range (cn * es)).map (fun j => (#[] : Array Value)[j % 0]!) else cells) = cells := by
      split
      · rename_i h0; rw [← hcells, h0]; simp
      · rfl
    rw [hcz] at key
    exact key
  · have hj' : j < cn * es := hj
    obtain ⟨v, p1, p2, p3⟩ := hcr φ (csz w.heap) (j % es) (by rw [Array.length_toList, hzs]; exact Nat.mod_lt _ hes)
    refine ⟨v, _, by rw [hr j hj', p1], by rw [← hcells]; exact range_map_get hj', p2, ?_⟩
    rw [Array.getElem_toList] at p3
    rw [hzs, getElem!_pos _ _ (by rw [hzs]; exact Nat.mod_lt _ hes)]
    exact p3
  · exact .slice β 0 ln true cn es _ 0 cn (Emb.put_self _ _ _) (fun _ => rfl) ⟨Nat.le_refl _, hcM⟩ hlc (by rw [csz_push_self, hsz]; simp)
theorem flat_get {l : List Value} {m : Nat} : ∀ {n i : Nat}, i < n * m → l.length = m → (List.replicate n l).flatten[i]? = l[i % m]? := by
  intro n
  induction n with
  | zero => intro i h; omega
  | succ n ih =>
    intro i h hl
    rw [List.replicate_succ, List.flatten_cons]
    by_cases hi : i < m
    · rw [List.getElem?_append_left (by omega), Nat.mod_eq_of_lt hi]
    · rw [List.getElem?_append_right (by omega), hl, ih (by rw [Nat.succ_mul] at h; omega) hl]
      congr 1
      rw [show i = i - m + m by omega, Nat.add_mod_right, show i - m + m - m = i - m by omega]
theorem aSlice_s {T E : TypeId} {es len : Nat} {z : AV} {ps : PartsW} (hes : 0 < es) (hk : aSlice es len (len * es) z ps t ls k = true) (hT : P.underlying T = some (.slice E)) (hE : szz P E = some es) (hz : zRow P E len = some z) (hlim : len * es ≤ 2 ^ 24) :
    ∃ blk mk, k blk mk = true ∧ blk.olds = [] ∧ ∀ {φ w vs}, PartsR φ (csz w.heap) t ls (fun i => some (i * es, es)) ps vs.toList → AlS P φ w blk mk (Instr.buildSlice T len vs) := by
  have hlM : len ≤ 9223372036854775807 := by
    have h1 : len * 1 ≤ len * es := Nat.mul_le_mul_left _ hes
    have : (2 : Nat) ^ 24 ≤ 9223372036854775807 := by decide
    omega
  obtain ⟨c', hk1, hf⟩ := fillK_true (k := fun c => k (.cells (len * es) c 0 true 0 []) fun β => .slice β 0 len true len es) hk
  refine ⟨_, _, hk1, rfl, fun {φ w vs} hp => ?_⟩
  unfold szz at hE
  split at hE
  case h_2 => cases hE
  rename_i n zv hn hzv
  split at hE
  case isFalse => cases hE
  rename_i hzs
  cases hE
  have hcr : ∀ φ κ, CR φ κ z ((List.replicate len zv.cells.toList).flatten) := fun φ κ => by
    unfold zRow at hz
    rw [hzv] at hz
    exact ropeOf_s _ _ _ hz φ κ
  generalize hcells : (Array.range (len * es)).map (fun j => zv.cells[j % zv.cells.size]!) = cells
  have hsz : cells.size = len * es := by rw [← hcells]; simp
  have hcl : cells.toList = (List.replicate len zv.cells.toList).flatten := by
    apply List.ext_getElem?
    intro i
    by_cases hi : i < len * es
    · rw [flat_get hi (by rw [Array.length_toList, hzs]), Array.getElem?_toList, ← hcells, range_map_get hi, hzs]
      have hlt : i % es < zv.cells.size := by rw [hzs]; exact Nat.mod_lt _ hes
      rw [getElem!_pos zv.cells _ hlt, Array.getElem?_toList, Array.getElem?_eq_getElem hlt]
    · rw [List.getElem?_eq_none (by rw [Array.length_toList]; omega), List.getElem?_eq_none]
      rw [List.length_flatten]; simp [hzs]; omega
  obtain ⟨cs', f1, f2, f3⟩ := hf hp cells hsz (by rw [hcl]; exact hcr _ _)
  refine ⟨.slice (some ⟨w.heap.size, 0, none⟩) len len, w.alloc (.cells cs' E), .cells cs' E, ?_, rfl, rfl, rfl, rfl, fun β hβ => ⟨br_push (by rw [f2]; exact Nat.le_refl _) ⟨fun _ => rfl, .inl rfl⟩ (f3.at f2) hβ, ?_⟩⟩
  · have hlim' : ¬ (len * es > 2 ^ 24) := by omega
    have hcz : (if len * es = 0 then (Array.range (len * es)).map (fun j => (#[] : Array Value)[j % 0]!) else cells) = cells := by
      split
      · rename_i h0; rw [← hcells, h0]; simp
      · rfl
    have hfill : Instr.fill (fun i => some (i * es, es)) (if len * es = 0 then (Array.range (len * es)).map (fun j => (#[] : Array Value)[j % 0]!) else cells) vs.toList = some cs' := by rw [hcz]; exact f1
    unfold Instr.buildSlice
    by_cases h0 : len * es = 0
    · have hcz2 : cells = (Array.range 0).map (fun j => (#[] : Array Value)[j % 0]!) := by rw [← hcz, if_pos h0, h0]
      rw [hcz2] at f1
      simp [underlying, hT, szOf_run hn, hlim', h0, newRow]
      simp at f1
      rw [f1]; simp
    · simp [underlying, hT, szOf_run hn, hlim', h0, newRow, zeroOf_run hzv, hcells, f1]
  · exact .slice β 0 len true len es _ 0 len (Emb.put_self _ _ _) (fun _ => rfl) ⟨Nat.le_refl _, hlM⟩ (Nat.le_refl _) (by rw [csz_push_self, f2]; simp)
theorem freeze_push {h : Array Obj} {xs : Array Value} {e : TypeId} {w : World} (hw : w.heap = h.push (.cells xs e)) : (w.freeze ⟨h.size, xs.size, none⟩ 1).heap = h.push (.cells xs e (xs.size, xs.size + 1)) := by
  simp only [World.freeze, hw]
  apply Array.ext_getElem?
  intro i
  simp only [Nat.one_ne_zero, if_false, Array.getElem?_modify, Array.getElem?_push]
  by_cases hi : i = h.size
  · subst hi; simp
  · simp [hi, Ne.symm hi]
theorem aCvSB_s {S D E : TypeId} {x : OpdF} (hk : aCvSB x t ls k = true) (hS : P.underlying S = some .string) (hD : P.underlying D = some (.slice E)) (hE : P.underlying E = some (.int .u8)) :
    ∃ blk mk, k blk mk = true ∧ blk.olds = [] ∧ ∀ {φ w xv}, VR φ (csz w.heap) (x t ls) xv → AlS P φ w blk mk (convert S D xv) := by
  obtain ⟨n, N, hx, hk0⟩ := AV.asStr_true hk
  obtain ⟨hnM, hk⟩ := sel_yes hk0
  refine ⟨_, _, hk, rfl, fun {φ w xv} hxv => ?_⟩
  rw [hx] at hxv
  obtain ⟨s, rfl, rfl, rfl⟩ := hxv.str_inv
  have hsM : s.size ≤ maxLen := Nat.le_of_ble_eq_true hnM
  obtain ⟨cap, hcap, hcut, hcM⟩ : ∃ cap, s.size ≤ cap ∧ Question.cut (.appendCap s.size 0 E) (w.tape w.drawn (.appendCap s.size 0 E)) = cap ∧ cap ≤ 9223372036854775807 := ⟨_, Nat.le_add_right _ _, rfl, grownCap_le_maxLen w _ 0 E hsM⟩
  generalize hcells : (s.data.map fun b => Value.int .u8 (b.toNat : Int)) ++ Array.replicate (cap - s.size) (.int .u8 0) = cells
  have hsz : cells.size = cap := by rw [← hcells]; simp [show s.data.size = s.size from rfl]; omega
  refine ⟨.slice (some ⟨w.heap.size, 0, none⟩) s.size cap, ((w.drew.alloc (.cells cells E)).freeze ⟨w.heap.size, cells.size, none⟩ 1), .cells cells E (cells.size, cells.size + 1), ?_, freeze_push rfl, ?_, ?_, ?_, fun β hβ => ⟨br_push ?_ ⟨(fun h => by cases h), .inr rfl⟩ (fun i hi => ?_) hβ, ?_⟩⟩
  · simp [convert, underlying, hS, hD, hE, Conv.stringToBytes, Question.forced, hcut, hcells, newRow, markStringish, World.shape?]
    have hself : ∀ h, (w.drew.alloc (Obj.cells cells E)).heap[w.heap.size]'h = .cells cells E := fun h => by
      have h1 : (w.drew.alloc (Obj.cells cells E)).heap[w.heap.size]? = some (.cells cells E) := by
        show (w.heap.push (Obj.cells cells E))[w.heap.size]? = _
        rw [Array.getElem?_push, if_pos rfl]
      rw [Array.getElem?_eq_getElem h] at h1
      exact Option.some.inj h1
    simp [hself]
  · rfl
  · rfl
  · rfl
  · rw [hsz, Array.length_toList]; exact hcap
  · refine ⟨_, .int .u8 (s.data.toList[i].toNat : Int), rget_rb hi, ?_, rfl, ?_⟩
    · rw [← hcells, Array.getElem?_append_left (by simpa using hi)]
      rw [Array.getElem?_map, ← Array.getElem?_toList, List.getElem?_eq_getElem hi]; rfl
    · rw [byteAt_packL _ _ hi]; exact .nat _ _
  · rw [Array.length_toList]
    exact .slice β 0 s.size false s.size 1 _ 0 cap (Emb.put_self _ _ _) (fun h => by cases h) ⟨hcap, hcM⟩ (Nat.le_refl _) (by rw [csz_push_self, hsz]; simp)
end
end Go.Am
