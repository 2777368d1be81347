import Derived.Test.YtfdbmpokhfjdoaaGreatDoorAmS5
import Derived.Laws.AppendOwn
import Derived.CallsIn
import Derived.RangeFuncIn
import Derived.OrdersIn
set_option linter.unusedVariables false
set_option linter.unusedSimpArgs false
/-! Soundness, 6: append and copy. -/
namespace Go.Am
open Go

/-- A slice's first cells. -/
def Reads (h : Array Obj) (base : Option Addr) (n : Nat) (xs : List Value) : Prop :=
  (n = 0 ∧ xs = []) ∨ ∃ b o cs e fz, base = some ⟨b, o, none⟩ ∧ h[b]? = some (.cells cs e fz) ∧ o + n ≤ cs.size ∧ xs = (cs.toList.drop o).take n
theorem Reads.length {h : Array Obj} {base : Option Addr} {n : Nat} {xs : List Value} (r : Reads h base n xs) : xs.length = n := by
  rcases r with ⟨rfl, rfl⟩ | ⟨b, o, cs, e, fz, _, _, h3, rfl⟩
  · rfl
  · simp; omega
theorem Reads.take {h : Array Obj} {base : Option Addr} {n m : Nat} {xs : List Value} (r : Reads h base n xs) (hm : m ≤ n) : Reads h base m (xs.take m) := by
  rcases r with ⟨rfl, rfl⟩ | ⟨b, o, cs, e, fz, h1, h2, h3, rfl⟩
  · exact .inl ⟨by omega, by simp⟩
  · exact .inr ⟨b, o, cs, e, fz, h1, h2, by omega, by rw [List.take_take, Nat.min_eq_left hm]⟩
theorem Reads.run {P : Program} {w : World} {base : Option Addr} {n : Nat} {xs : List Value} (r : Reads w.heap base n xs) {size k len cap : Nat} (hk : k * size = n) :
    (Builtin.firstCells size k (.slice base len cap)).run P w = .ok xs.toArray w := by
  cases base with
  | none =>
    rcases r with ⟨rfl, rfl⟩ | ⟨b, o, cs, e, fz, h1, _⟩
    · simp [Builtin.firstCells]
    · cases h1
  | some a =>
    rcases r with ⟨rfl, rfl⟩ | ⟨b, o, cs, e, fz, h1, h2, h3, rfl⟩
    · simp [Builtin.firstCells, hk, loadCells, loadCellsFrom]
    · cases h1
      simp only [Builtin.firstCells, hk]
      have hl : ((cs.toList.drop o).take n).length = n := by simp; omega
      have := run_loadCells_list (P := P) w ⟨b, o, none⟩ ((cs.toList.drop o).take n) (fun j v hj => by
        rw [Addr.add_none, cell?_of h2]
        obtain ⟨hlt, hv⟩ := List.getElem?_eq_some_iff.1 hj
        rw [hl] at hlt
        rw [List.getElem_take, List.getElem_drop] at hv
        rw [Array.getElem?_eq_getElem (by omega), ← hv, Array.getElem_toList])
      rw [hl] at this
      exact this

theorem isStrA_true {v : AV} (h : isStrA v = true) : ∃ n N, v = .str n N := by
  obtain ⟨n, N, rfl, _⟩ := AV.asStr_true h
  exact ⟨n, N, rfl⟩
theorem packL_lt (l : List UInt8) : packL l < 2 ^ (8 * l.length) := by
  induction l with
  | nil => simp [packL]
  | cons b r ih =>
    simp only [packL, List.length_cons, Nat.mul_add, Nat.mul_one, Nat.pow_add]
    have := b.toNat_lt
    omega
theorem byteAt_packL (l : List UInt8) (i : Nat) (h : i < l.length) : byteAt (packL l) i = l[i].toNat := by
  induction l generalizing i with
  | nil => simp at h
  | cons b r ih =>
    have hb := b.toNat_lt
    simp only [packL]
    cases i with
    | zero => simp only [byteAt, Nat.mul_zero, Nat.shiftRight_zero, List.getElem_cons_zero]; omega
    | succ i =>
      rw [List.getElem_cons_succ, ← ih i (by simpa using h)]
      simp only [byteAt, Nat.shiftRight_eq_div_pow]
      rw [show 8 * (i + 1) = 8 + 8 * i by omega, Nat.pow_add, ← Nat.div_div_eq_div_mul]
      congr 2
      omega
theorem rget_rb {n N i : Nat} (h : i < n) : (AV.rb n N).rget i = some (.nat .u8 (byteAt N i)) := by simp [AV.rget, h]
/-- What is appended. -/
def Src (φ : Emb) (h : Array Obj) (es n : Nat) (src : AV) (x : Value) : Prop :=
  ∃ xs : List Value, xs.length = n * es ∧ CR φ (csz h) src xs ∧ ∀ (P : Program) (w : World), w.heap = h → (Builtin.lenOf x).run P w = .ok n w ∧ ∀ n', n' ≤ n → (Builtin.firstCells es n' x).run P w = .ok (xs.take (n' * es)).toArray w
theorem CR.of_bytes {φ : Emb} {κ : Nat → Nat} (s : ByteArray) : CR φ κ (.rb s.data.toList.length (packL s.data.toList)) (s.data.toList.map fun b => .int .u8 b.toNat) := fun i hi => by
  simp only [List.length_map] at hi
  exact ⟨_, rget_rb hi, rfl, by rw [byteAt_packL _ _ hi, List.getElem_map]; exact .nat _ _⟩
theorem srcK_sound {σ : Hp} {es : Nat} {x : AV} {k : Nat → AV → Bool} (hk : srcK σ es x k = true) :
    ∃ n src, k n src = true ∧ ∀ {P B φ h}, Rel P B φ σ h → ∀ xv, VR φ (csz h) x xv → Src φ h es n src xv := by
  unfold srcK at hk
  rw [sel_true_iff] at hk
  rcases hk with ⟨hs, hk⟩ | ⟨_, hk⟩
  · obtain ⟨n, N, rfl, hk⟩ := AV.asStr_true hk
    obtain ⟨h1, hk⟩ := sel_yes hk
    have he : es = 1 := Nat.eq_of_beq_eq_true h1
    refine ⟨n, _, hk, fun {P B φ h} r xv hx => ?_⟩
    subst he
    cases hx with
    | str s _ _ hn hN =>
      subst hn hN
      refine ⟨_, by simp, CR.of_bytes s, fun P w _ => ⟨by show Result.ok s.size w = _; rw [Array.length_toList]; rfl, fun n' hn' => ?_⟩⟩
      simp only [Builtin.firstCells, Nat.mul_one, Sem.run_pure]
      congr 1
      apply Array.toList_inj.1
      rw [ByteArray.data_extract]
      simp [List.map_take]
  · rcases AV.asSl_true hk with ⟨rfl, hk⟩ | ⟨β, off, len, ex, c, es', rfl, hk⟩
    · refine ⟨0, _, hk, fun {P B φ h} r xv hx => ?_⟩
      cases hx
      exact ⟨[], by simp, fun i hi => absurd hi (Nat.not_lt_zero _), fun P w _ => ⟨rfl, fun n' hn' => by
        obtain rfl : n' = 0 := by omega
        simp [Builtin.firstCells]⟩⟩
    · obtain ⟨h1, hk⟩ := sel_yes hk
      have he : es = es' := Nat.eq_of_beq_eq_true h1
      rw [sel_true_iff] at hk
      rcases hk with ⟨h2, hk⟩ | ⟨h2, hk⟩
      · have hl : len = 0 := Nat.eq_of_beq_eq_true h2
        refine ⟨0, _, hk, fun {P B φ h} r xv hx => ?_⟩
        subst hl
        refine ⟨[], by simp, fun i hi => absurd hi (Nat.not_lt_zero _), fun P w hw => ?_⟩
        have : ∃ a c', xv = .slice (some a) 0 c' := by cases hx <;> exact ⟨_, _, rfl⟩
        obtain ⟨a, c', rfl⟩ := this
        exact ⟨rfl, fun n' hn' => Reads.run (.inl ⟨rfl, by simp⟩) (by obtain rfl : n' = 0 := by omega
                                                                      simp)⟩
      · obtain ⟨rr, hk, hr⟩ := loadBlkN_sound hk
        have hl : len ≠ 0 := fun h => by subst h; simp at h2
        refine ⟨len, rr, hk, fun {P B φ h} r xv hx => ?_⟩
        subst he
        cases hx with
        | slice _ _ _ _ _ _ b d c' hβ hx1 hc hlc hrm =>
          obtain ⟨cs, e, fz, hw, hs, hcr⟩ := hr r hβ
          simp only [Nat.mul_eq] at hs hcr
          refine ⟨_, by simp; omega, hcr, fun P w hh => ⟨rfl, fun n' hn' => ?_⟩⟩
          subst hh
          have hle : n' * es ≤ len * es := Nat.mul_le_mul_right _ hn'
          exact Reads.run (Reads.take (.inr ⟨b, d + off, cs, e, fz, rfl, hw, by omega, rfl⟩) hle) rfl
        | slice0 => exact absurd rfl hl
section
variable {P : Program} {w : World} {t u ty elem : TypeId} {i : TypeInfo} {x : Value} {n : Nat} {base : Option Addr} {len cap : Nat} {xs old : List Value} {z : Value}
theorem run_append_in {d : TypeDesc} (hu : P.underlying t = some (.slice elem)) (hu2 : P.underlying u = some d) (hd : ∀ k, d ≠ .int k) (hi : P.info? elem = some i)
    (hx : (Builtin.lenOf x).run P w = .ok n w) (hc : len + n ≤ cap) (hld : (Builtin.firstCells i.size n x).run P w = .ok xs.toArray w) (b o : Nat) (w' : World)
    (hst : (storeCells ⟨b, o + len * i.size, none⟩ xs).run P w = .ok () w') :
    (Builtin.append_ #[t, u] ty #[.slice (some ⟨b, o, none⟩) len cap, x]).run P w = .ok (.slice (some ⟨b, o, none⟩) (len + n) cap) w' := by
  unfold Builtin.append_
  simp [underlying, hu, hu2, sizeOf, typeInfo, hi, hx, hc, hld, Addr.add_none, hst]
theorem run_append_new {d : TypeDesc} (hu : P.underlying t = some (.slice elem)) (hu2 : P.underlying u = some d) (hd : ∀ k, d ≠ .int k) (hi : P.info? elem = some i) (hz : i.zero = some z)
    (hx : (Builtin.lenOf x).run P w = .ok n w) (hc : ¬ len + n ≤ cap) (hb : i.bytes ≠ 0) (hlim : Builtin.nextslicecap (len + n) cap * i.bytes ≤ 2 ^ 48)
    (hold : ∀ w' : World, w'.heap = w.heap → (Builtin.firstCells i.size len (.slice base len cap)).run P w' = .ok old.toArray w') (hld : ∀ w' : World, w'.heap = w.heap → (Builtin.firstCells i.size n x).run P w' = .ok xs.toArray w') (hM : len + n ≤ 9223372036854775807) :
    ∃ c', (len + n ≤ c' ∧ c' ≤ 9223372036854775807) ∧ (Builtin.append_ #[t, u] ty #[.slice base len cap, x]).run P w = .ok (.slice (some ⟨w.heap.size, 0, none⟩) (len + n) c')
      (w.drew.alloc (.cells (old ++ xs ++ (Builtin.zeroCells z.cells (c' - (len + n))).toList).toArray elem)) := by
  refine ⟨Question.cut (.appendCap (len + n) cap elem) (w.tape w.drawn (.appendCap (len + n) cap elem)), ⟨Nat.le_add_right _ _, grownCap_le_maxLen w _ cap elem (by unfold maxLen; omega)⟩, ?_⟩
  unfold Builtin.append_
  have hb' : ¬ (i.bytes = 0) := hb
  have hlim' : ¬ (Builtin.nextslicecap (len + n) cap * i.bytes > 2 ^ 48) := by omega
  have hld' := hld w.drew rfl
  have hold' := hold w.drew rfl
  simp [underlying, hu, hu2, sizeOf, typeInfo, hi, hx, hc, hz, hb', hlim', zeroValue, newRow, Question.forced, hold', hld']
  refine congrArg (fun c => w.drew.alloc (.cells c elem)) ?_
  apply Array.toList_inj.1
  simp
theorem wrap_i64_nat {n : Nat} (hn : n < 2 ^ 63) : IntKind.i64.wrap (n : Int) = (n : Int) := by
  rw [IntKind.wrap_i64]; omega
theorem run_appz_in {k k' : IntKind} (hu : P.underlying t = some (.slice elem)) (hu2 : P.underlying u = some (.int k)) (hi : P.info? elem = some i) (hz : i.zero = some z)
    (hx : x = .int k' (Int.ofNat n)) (hn : n < 2 ^ 63) (hnb : n * i.bytes ≤ 2 ^ 48) (hne : ¬ n * i.size = 0) (hc : len + n ≤ cap) (b o : Nat) (w' : World)
    (hst : (storeCells ⟨b, o + len * i.size, none⟩ (Builtin.zeroCells z.cells n).toList).run P w = .ok () w') :
    (Builtin.append_ #[t, u] ty #[.slice (some ⟨b, o, none⟩) len cap, x]).run P w = .ok (.slice (some ⟨b, o, none⟩) (len + n) cap) w' := by
  subst hx
  have hw : IntKind.i64.wrap (n : Int) = (n : Int) := wrap_i64_nat hn
  have h0 : ¬ ((n : Int) < 0) := by omega
  have h1 : ¬ (281474976710656 < (n : Int) * (i.bytes : Int)) := by
    have : (n : Int) * (i.bytes : Int) = ((n * i.bytes : Nat) : Int) := by simp
    omega
  have h2 : ¬ (n = 0 ∨ i.size = 0) := by intro h; apply hne; rcases h with h | h <;> simp [h]
  unfold Builtin.append_
  simp [underlying, sizeOf, typeInfo, asInt, asIntOf, hu, hu2, hi, hz, hc, h0, h1, h2, hw, hne, zeroValue, Addr.add_none, hst]
theorem run_appz_new {k k' : IntKind} (hu : P.underlying t = some (.slice elem)) (hu2 : P.underlying u = some (.int k)) (hi : P.info? elem = some i) (hz : i.zero = some z)
    (hx : x = .int k' (Int.ofNat n)) (hn : len + n < 2 ^ 63) (hnb : n * i.bytes ≤ 2 ^ 48) (hne : ¬ n * i.size = 0) (hc : ¬ len + n ≤ cap) (hb : i.bytes ≠ 0) (hlim : Builtin.nextslicecap (len + n) cap * i.bytes ≤ 2 ^ 48)
    (hold : ∀ w' : World, w'.heap = w.heap → (Builtin.firstCells i.size len (.slice base len cap)).run P w' = .ok old.toArray w') :
    ∃ c', (len + n ≤ c' ∧ c' ≤ 9223372036854775807) ∧ (Builtin.append_ #[t, u] ty #[.slice base len cap, x]).run P w = .ok (.slice (some ⟨w.heap.size, 0, none⟩) (len + n) c')
      (w.drew.alloc (.cells (old ++ (Builtin.zeroCells z.cells n).toList ++ (Builtin.zeroCells z.cells (c' - (len + n))).toList).toArray elem)) := by
  subst hx
  refine ⟨Question.cut (.appendCap (len + n) cap elem) (w.tape w.drawn (.appendCap (len + n) cap elem)), ⟨Nat.le_add_right _ _, grownCap_le_maxLen w _ cap elem (by unfold maxLen; omega)⟩, ?_⟩
  have hw : IntKind.i64.wrap (n : Int) = (n : Int) := wrap_i64_nat (by omega)
  have h0 : ¬ ((n : Int) < 0) := by omega
  have h1 : ¬ (281474976710656 < (n : Int) * (i.bytes : Int)) := by
    have : (n : Int) * (i.bytes : Int) = ((n * i.bytes : Nat) : Int) := by simp
    omega
  have h2 : ¬ (n = 0 ∨ i.size = 0) := by intro h; apply hne; rcases h with h | h <;> simp [h]
  have h3 : ¬ (9223372036854775807 < (len : Int) + (n : Int)) := by omega
  have hlim' : ¬ (281474976710656 < Builtin.nextslicecap (len + n) cap * i.bytes) := by omega
  have hold' := hold w.drew rfl
  unfold Builtin.append_
  simp [underlying, sizeOf, typeInfo, asInt, asIntOf, hu, hu2, hi, hz, hc, h0, h1, h2, h3, hw, hne, hb, hlim', zeroValue, newRow, Question.forced, hold', IntKind.max, IntKind.bits, IntKind.signed]
  refine congrArg (fun c => w.drew.alloc (.cells c elem)) ?_
  apply Array.toList_inj.1
  simp
end

theorem growBy_le (newLen : Nat) : ∀ (r c : Nat), Builtin.growBy newLen r c ≤ max c (newLen + (newLen + 768) / 4) := by
  intro r
  induction r with
  | zero => intro c; simp only [Builtin.growBy]; omega
  | succ r ih =>
    intro c
    simp only [Builtin.growBy]
    split
    · omega
    · have := ih (c + (c + 768) / 4); omega
theorem nextslicecap_le {need cap : Nat} (h : cap < need) : Builtin.nextslicecap need cap ≤ 2 * need + 600 := by
  unfold Builtin.nextslicecap
  split
  · omega
  · split
    · omega
    · have := growBy_le need 4 cap; omega
theorem lim_small {P : Program} {e : TypeId} {lim need : Nat} (hl : limOf P e = some lim) (hn : need ≤ lim) : need ≤ 9223372036854775807 := by
  unfold limOf at hl
  cases hi : P.info? e with
  | none => rw [hi] at hl; cases hl
  | some i =>
    simp only [hi, Option.bind_some] at hl
    split at hl
    · cases hl
    · cases hl
      have h1 : 2 ^ 48 / i.bytes ≤ 2 ^ 48 := Nat.div_le_self _ _
      have h2 : (2 : Nat) ^ 48 ≤ 9223372036854775807 := by decide
      omega
theorem lim_ok {P : Program} {e : TypeId} {lim : Nat} (hl : limOf P e = some lim) {i : TypeInfo} (hi : P.info? e = some i) {need cap : Nat} (h0 : 0 < need) (hn : need ≤ lim) (hc : cap < need) :
    i.bytes ≠ 0 ∧ Builtin.nextslicecap need cap * i.bytes ≤ 2 ^ 48 := by
  simp only [limOf, hi, Option.bind_some] at hl
  split at hl
  · cases hl
  · rename_i hb
    cases hl
    refine ⟨hb, ?_⟩
    have h1 := nextslicecap_le hc
    have h2 : Builtin.nextslicecap need cap ≤ 2 ^ 48 / i.bytes := by omega
    exact Nat.le_trans (Nat.mul_le_mul_right _ h2) (Nat.div_mul_le_self _ _)

/-- What a slice's growing may come to. -/
structure AppR (P : Program) (B : Fz) (φ : Emb) (σ : Hp) (h : Array Obj) (es lim m : Nat) (src : AV) (v : AV) (σ' : Hp) (base : Option Addr) (len cap : Nat) : Prop where
  fits : len + m ≤ cap → ∃ b o cs e fz, base = some ⟨b, o, none⟩ ∧ h[b]? = some (.cells cs e fz) ∧ o + len * es + m * es ≤ cs.size ∧ (∀ i, i < cs.size → ¬(fz.1 ≤ i ∧ i < fz.2)) ∧
    ∀ xs : List Value, xs.length = m * es → CR φ (csz h) src xs → ∃ φ', Rel P B φ' σ' (hset h b (.cells (putL cs (o + len * es) xs) e fz)) ∧ Ext B φ σ h φ' σ' (hset h b (.cells (putL cs (o + len * es) xs) e fz)) ∧
      VR φ' (csz (hset h b (.cells (putL cs (o + len * es) xs) e fz))) v (.slice base (len + m) cap)
  grows : cap < len + m → len + m ≤ lim ∧ ∃ old, Reads h base (len * es) old ∧ ∀ xs : List Value, xs.length = m * es → CR φ (csz h) src xs → ∀ c' el (ys : List Value), (len + m ≤ c' ∧ c' ≤ 9223372036854775807) → ys.length = (c' - (len + m)) * es →
    ∃ φ', Rel P B φ' σ' (h.push (.cells ((old ++ xs ++ ys).toArray) el)) ∧ Ext B φ σ h φ' σ' (h.push (.cells ((old ++ xs ++ ys).toArray) el)) ∧
      VR φ' (csz (h.push (.cells ((old ++ xs ++ ys).toArray) el))) v (.slice (some ⟨h.size, 0, none⟩) (len + m) c')
/-- A slice grows into a block that has nothing to do with the elder one. -/
theorem Rel.fresh_row {P : Program} {B : Fz} {φ : Emb} {σ σ' : Hp} {h : Array Obj} (r : Rel P B φ σ h) (hB : B.le h.size) {es need c' : Nat} {rr : AV} (m : σ.Made (.cells (need * es) rr 0 true 0 []) σ') {zs ys : List Value} {el : TypeId}
    (hz : zs.length = need * es) (hr : CR φ (csz h) rr zs) (hc : need ≤ c' ∧ c' ≤ 9223372036854775807) (hy : ys.length = (c' - need) * es) :
    ∃ φ', Rel P B φ' σ' (h.push (.cells ((zs ++ ys).toArray) el)) ∧ Ext B φ σ h φ' σ' (h.push (.cells ((zs ++ ys).toArray) el)) ∧
      VR φ' (csz (h.push (.cells ((zs ++ ys).toArray) el))) (.slice σ.nx 0 need false need es) (.slice (some ⟨h.size, 0, none⟩) need c') := by
  generalize hobj : Obj.cells ((zs ++ ys).toArray) el = obj
  have hself : (h.push obj)[h.size]? = some obj := by simp
  have hcs : csz (h.push obj) h.size = zs.length + ys.length := by rw [← hobj] at hself ⊢; rw [csz_cells hself]; simp
  obtain ⟨r1, x1⟩ := r.made m obj hB rfl (by
    rw [← hobj] at hself ⊢
    refine .cells _ _ _ _ _ _ _ _ _ el (0, 0) hself (by simp; omega) ⟨fun _ => rfl, .inl rfl⟩ fun i hi => ?_
    rw [hobj]
    obtain ⟨v, h2, h3, h4⟩ := hr i (by omega)
    refine ⟨v, _, h2, ?_, h3, h4.mono (Emb.put_le r.nx_none) (csz_push h obj)⟩
    simp only [Nat.zero_add, List.getElem?_toArray]
    rw [List.getElem?_append_left (by omega)]
    exact List.getElem?_eq_getElem _)
  refine ⟨_, r1, x1, .slice σ.nx 0 need false need es h.size 0 c' (Emb.put_self _ _ _) (fun h => by cases h) hc (Nat.le_refl _) ?_⟩
  rw [hcs, hz, hy, ← Nat.sub_add_cancel hc.1, Nat.add_sub_cancel, Nat.add_mul]
  omega
theorem CR.append {φ : Emb} {κ : Nat → Nat} {a b c : AV} {xs ys : List Value} {n : Nat} (hn : xs.length = n) (h1 : ∀ i, i < n → c.rget i = a.rget i) (h2 : ∀ i, c.rget (n + i) = b.rget i) (ha : CR φ κ a xs) (hb : CR φ κ b ys) : CR φ κ c (xs ++ ys) := fun i hi => by
  rw [List.length_append] at hi
  by_cases hl : i < n
  · obtain ⟨v, q1, q2, q3⟩ := ha i (by omega)
    exact ⟨v, by rw [h1 i hl, q1], q2, by rw [List.getElem_append_left]; exact q3⟩
  · obtain ⟨v, q1, q2, q3⟩ := hb (i - n) (by omega)
    refine ⟨v, by rw [show i = n + (i - n) by omega, h2, q1], q2, ?_⟩
    rw [List.getElem_append_right (by omega)]
    simp only [hn]
    exact q3
theorem hasK_eq (β : Ad) : ∀ l, hasK β l = true ↔ β ∈ l
  | [] => ⟨fun h => (by cases h), fun h => (by cases h)⟩
  | x :: r => by
    show Ad.beqK β x true (hasK β r) = true ↔ _
    rw [Ad.beqK_eq]
    by_cases h : β = x
    · simp [h]
    · simp [h, hasK_eq β r]
theorem at_map8 {α β : Type} (f : α → β) (t : R8 α) (d : D8) : (map8 f t).at d = f (t.at d) := by
  cases d <;> rfl
theorem unst_get (σ : Hp) (β γ : Ad) : (σ.unst β).get γ = unLeaf β (σ.get γ) := by
  simp only [Hp.get, Hp.unst, PT.get, at_map8]
theorem unLeaf_cells (β : Ad) (n : Nat) (c : AV) (st : Nat) (pl : Bool) (sh : Nat) (olds : List Ad) : unLeaf β (some (.cells n c st pl sh olds)) = if hasK β olds = true then some .dead else some (.cells n c st pl sh olds) := by
  show Bool.rec (motive := fun _ => Option Blk) _ _ (hasK β olds) = _
  cases hasK β olds <;> rfl
theorem unLeaf_cases (β : Ad) (o : Option Blk) : unLeaf β o = o ∨ ∃ k, o = some k ∧ β ∈ k.olds ∧ unLeaf β o = some .dead := by
  cases o with
  | none => exact .inl rfl
  | some b =>
    cases b with
    | cells n c st pl sh olds =>
      cases hb : hasK β olds with
      | true => exact .inr ⟨_, rfl, (hasK_eq β olds).1 hb, by rw [unLeaf_cells, if_pos hb]⟩
      | false => exact .inl (by rw [unLeaf_cells, if_neg (by rw [hb]; decide)])
    | _ => exact .inl rfl
theorem unLeaf_has {β : Ad} {k : Blk} (h : β ∈ k.olds) : unLeaf β (some k) = some .dead := by
  cases k with
  | cells n c st pl sh olds =>
    have hb : hasK β olds = true := (hasK_eq β olds).2 h
    rw [unLeaf_cells, if_pos hb]
  | _ => cases h
/-- A block of which others had grown is as new: they are let go. -/
theorem Rel.unst {P : Program} {B : Fz} {φ : Emb} {σ : Hp} {h : Array Obj} (r : Rel P B φ σ h) {β : Ad} {b d n st sh : Nat} {cc : AV} {pl : Bool} {olds : List Ad} (hβ : φ β = some (b, d)) (hg : σ.get β = some (.cells n cc st pl sh olds)) (hno : hasK β olds = false) :
    Rel P B φ ((σ.unst β).set β (.cells n cc 0 pl sh olds)) h ∧ Ext B φ σ h φ ((σ.unst β).set β (.cells n cc 0 pl sh olds)) h := by
  have hβo : β ∉ olds := fun h => by rw [(hasK_eq β olds).2 h] at hno; cases hno
  have get : ∀ γ, ((σ.unst β).set β (.cells n cc 0 pl sh olds)).get γ = if γ = β then some (.cells n cc 0 pl sh olds) else unLeaf β (σ.get γ) := fun γ => by rw [Hp.get_set, unst_get]
  have conv : ∀ ε ke, ((σ.unst β).set β (.cells n cc 0 pl sh olds)).get ε = some ke → ke.isDead ∨ ∃ k0, σ.get ε = some k0 ∧ ke.olds = k0.olds ∧ ke.sh = k0.sh ∧ (k0.isDead → ke.isDead) ∧ β ∉ k0.olds := fun ε ke hke => by
    rw [get] at hke
    by_cases he : ε = β
    · rw [if_pos he] at hke; cases hke
      subst he
      exact .inr ⟨_, hg, rfl, rfl, id, hβo⟩
    · rw [if_neg he] at hke
      rcases unLeaf_cases β (σ.get ε) with e | ⟨k, e1, e2, e3⟩
      · rw [e] at hke
        by_cases hin : β ∈ ke.olds
        · have := unLeaf_has hin
          rw [hke] at e
          rw [this] at e
          cases e
          exact .inl trivial
        · exact .inr ⟨ke, hke, rfl, rfl, id, hin⟩
      · rw [e3] at hke; cases hke; exact .inl trivial
  have hlow : ∀ γ b1 d1, φ γ = some (b1, d1) → B b1 → ∃ k, ((σ.unst β).set β (.cells n cc 0 pl sh olds)).get γ = some k ∧ k.isDead := fun γ b1 d1 hb1 hBb => by
    obtain ⟨k0, e0, dd⟩ := (r.low γ b1 d1 hb1).1 hBb
    rw [get]
    by_cases hγ : γ = β
    · subst hγ; rw [hg] at e0; cases e0; exact dd.elim
    · rw [if_neg hγ]
      rcases unLeaf_cases β (σ.get γ) with e | ⟨k', e1, e2, e3⟩
      · exact ⟨k0, e.trans e0, dd⟩
      · exact ⟨_, e3, trivial⟩
  refine ⟨⟨fun γ y hy => r.fresh γ y hy, fun γ b1 d1 hb1 => ⟨hlow γ b1 d1 hb1, (r.low γ b1 d1 hb1).2⟩, fun γ b1 d1 hb1 => ?_, fun γ δ b1 d1 d2 k1 k2 e1 e2 e3 e4 e5 => ?_, fun γ b1 d1 k1 δ e1 e2 e3 => ?_⟩,
    ⟨φ.le_refl, Nat.le_refl _, fun γ y e1 e2 => absurd (e2.symm.trans e1) (by simp), fun γ e1 e2 => ?_, Nat.le_refl _, fun _ => Nat.le_refl _, fun _ _ => rfl⟩⟩
  · rw [get]
    obtain ⟨k, hk, hbr⟩ := r.blk _ _ _ hb1
    by_cases hγ : γ = β
    · subst hγ
      rw [if_pos rfl]
      rw [hg] at hk; cases hk
      refine ⟨_, rfl, ?_⟩
      cases hbr with
      | cells _ _ _ _ _ _ _ _ cs e fz hw hn hf hc => exact .cells _ _ _ _ _ _ _ _ cs e fz hw hn hf hc
    · rw [if_neg hγ]
      rcases unLeaf_cases β (σ.get γ) with e | ⟨k', e1, e2, e3⟩
      · exact ⟨k, e.trans hk, hbr⟩
      · exact ⟨_, e3, .dead _ _⟩
  · rcases conv γ k1 e4 with h1 | ⟨k0, p1, p2, p3, p4, p5⟩
    · exact .inl h1
    · rcases conv δ k2 e5 with h1 | ⟨g0, q1, q2, q3, q4, q5⟩
      · exact .inr (.inl h1)
      · rcases r.inj _ _ _ _ _ _ _ e1 e2 e3 p1 q1 with h | h | h | h
        · exact .inl (p4 h)
        · exact .inr (.inl (q4 h))
        · exact .inr (.inr (.inl (by rw [p2]; exact h)))
        · exact .inr (.inr (.inr (by rw [q2]; exact h)))
  · rcases conv γ k1 e2 with h1 | ⟨k0, p1, p2, p3, p4, p5⟩
    · cases k1 <;> first | exact h1.elim | cases e3
    · rw [p2] at e3
      obtain ⟨b', d', g, q1, q2, q3⟩ := r.olds _ _ _ _ _ e1 p1 e3
      have hδ : δ ≠ β := by rintro rfl; exact p5 e3
      rcases unLeaf_cases β (σ.get δ) with e | ⟨k', u1, u2, u3⟩
      · exact ⟨b', d', g, q1, by rw [get, if_neg hδ, e]; exact q2, by rw [p3]; exact q3⟩
      · exact ⟨b', d', .dead, q1, by rw [get, if_neg hδ]; exact u3, .inl trivial⟩
  · have hγ : γ ≠ β := by rintro rfl; rw [hβ] at e1; cases e1
    rw [get, if_neg hγ]
    rcases unLeaf_cases β (σ.get γ) with e | ⟨k', u1, u2, u3⟩
    · exact .inl e
    · exact .inr ⟨k', u1, fun h => by rw [h] at u2; cases u2⟩
theorem appendK_sound {σ : Hp} {es lim m : Nat} {s src : AV} {k : KV} (hes : 0 < es) (hm : 0 < m) (hk : appendK σ es lim s m src k = true) :
    ∃ v σ', k v σ' = true ∧ ∀ {P B φ h}, Rel P B φ σ h → B.le h.size → ∀ sv, VR φ (csz h) s sv → ∃ base len cap, sv = .slice base len cap ∧ AppR P B φ σ h es lim m src v σ' base len cap := by
  unfold appendK at hk
  simp only [Nat.add_eq, Nat.mul_eq] at hk
  replace hk := AV.asSl_true hk
  rcases hk with ⟨rfl, hk⟩ | ⟨β, off, len, ex, c, es', rfl, hk⟩
  · obtain ⟨h1, hk⟩ := sel_yes hk
    obtain ⟨σ', hmd, hk⟩ := Hp.newK_true hk
    refine ⟨_, σ', hk, fun {P B φ h} r hB sv hv => ?_⟩
    cases hv
    refine ⟨none, 0, 0, rfl, ⟨fun h => by omega, fun _ => ⟨by rw [Nat.zero_add]; exact Nat.le_of_ble_eq_true h1, [], .inl ⟨by simp, rfl⟩, fun xs hx hr c' el ys hc' hy => ?_⟩⟩⟩
    simp only [Nat.zero_add, List.nil_append] at hc' hy ⊢
    exact r.fresh_row hB hmd hx hr hc' hy
  · replace hk := sel_yes hk
    obtain ⟨h1, hk⟩ := hk
    have he : es = es' := Nat.eq_of_beq_eq_true h1
    subst he
    rw [sel_true_iff] at hk
    rcases hk with ⟨h2, hk⟩ | ⟨h2, hk⟩
    · have hfit : len + m ≤ c := Nat.le_of_ble_eq_true h2
      obtain ⟨σ', hk, hw⟩ := writeK_sound hk
      refine ⟨_, σ', hk, fun {P B φ h} r hB sv hv => ?_⟩
      cases hv with
      | slice _ _ _ _ _ _ b d c' hβ hx hc hl hr =>
        refine ⟨_, len, c', rfl, ⟨fun _ => ?_, fun hc2 => by omega⟩⟩
        obtain ⟨cs, e, fz, q1, q2, q3, q4⟩ := hw r hβ
        refine ⟨b, d + off, cs, e, fz, rfl, q1, by omega, q3, fun xs hxs hcr => ?_⟩
        obtain ⟨r', x'⟩ := q4 xs hxs hcr
        rw [show d + (off + len * es) = d + off + len * es by omega] at r' x'
        refine ⟨φ, r', x', .slice _ _ _ _ _ _ b d c' hβ hx hc hfit (Nat.le_trans hr (x'.csz b))⟩
      | slice0 => omega
    · have hnf : c < len + m := by
        have := Nat.lt_of_not_le (fun h => by rw [Nat.ble_eq_true_of_le h] at h2; cases h2)
        exact this
      replace hk := sel_yes hk
      obtain ⟨h3, hk⟩ := hk
      have hlim : len + m ≤ lim := Nat.le_of_ble_eq_true h3
      replace hk := Hp.cellsK_true hk
      obtain ⟨n, cc, st, pl, sh, olds, hg, hk⟩ := hk
      rw [sel_true_iff] at hk
      rcases hk with ⟨h4, hk⟩ | ⟨h4, hk⟩
      · subst h4
        replace hk := sel_yes hk
        obtain ⟨h5, hk⟩ := hk
        have hle : off + len * es ≤ n := Nat.le_of_ble_eq_true h5
        obtain ⟨a, hk, ha⟩ := AV.rsubK_true hk
        obtain ⟨rr, hk, hr1, hr2⟩ := AV.rjoinK_true hk
        obtain ⟨σ', hmd, hk⟩ := Hp.newK_true hk
        refine ⟨_, σ', hk, fun {P B φ h} r hB sv hv => ?_⟩
        have main : ∀ b d base (cap : Nat), φ β = some (b, d) → (len = 0 ∨ base = some ⟨b, d + off, none⟩) → cap < len + m → AppR P B φ σ h es lim m src (.slice σ.nx 0 (len + m) false (len + m) es) σ' base len cap := fun b d base cap hβ hbase hcap => by
          refine ⟨fun h => by omega, fun _ => ⟨hlim, ?_⟩⟩
          obtain ⟨cs, e, fz, hw, hs, hf, hcc⟩ := r.cells hβ hg
          have hold : CR φ (csz h) a ((cs.toList.drop (d + off)).take (len * es)) := fun i hi => by
            simp only [List.length_take, List.length_drop, Array.length_toList] at hi
            obtain ⟨v, x, q1, q2, q3, q4⟩ := hcc (off + i) (by omega)
            refine ⟨v, by rw [(ha i (by omega)).1, q1], q3, ?_⟩
            rw [List.getElem_take, List.getElem_drop, Array.getElem_toList]
            obtain ⟨hlt, hx⟩ := Array.getElem?_eq_some_iff.1 q2
            simp only [show d + off + i = d + (off + i) by omega, hx]
            exact q4
          have hll : ((cs.toList.drop (d + off)).take (len * es)).length = len * es := by simp; omega
          refine ⟨_, ?_, fun xs hx hr c' el ys hc' hy => r.fresh_row hB hmd (by rw [List.length_append, hll, hx, Nat.add_mul]) (CR.append hll hr1 hr2 hold hr) hc' hy⟩
          rcases hbase with rfl | rfl
          · exact .inl ⟨by simp, by simp⟩
          · exact .inr ⟨b, d + off, cs, e, fz, rfl, hw, by omega, rfl⟩
        cases hv with
        | slice _ _ _ _ _ _ b d c' hβ hx hc hl hr => exact ⟨_, _, _, rfl, main b d _ _ hβ (.inr rfl) (by rw [hx rfl]; exact hnf)⟩
        | slice0 _ _ _ _ b d q hβ => exact ⟨_, _, _, rfl, main b d _ _ hβ (.inl rfl) hnf⟩
      · subst h4
        obtain ⟨v, σ', hk, hgr⟩ : ∃ v σ', k v σ' = true ∧ ∀ {P B φ h b d}, Rel P B φ σ h → φ β = some (b, d) → B.le h.size → ∃ cs e fz, h[b]? = some (.cells cs e fz) ∧ d + off + len * es ≤ cs.size ∧ FzOk fz cs.size pl ∧
            ∀ xs : List Value, xs.length = m * es → CR φ (csz h) src xs →
              (∀ c', (len + m ≤ c' ∧ c' ≤ 9223372036854775807) → d + off + c' * es ≤ cs.size → ∃ φ', Rel P B φ' σ' (hset h b (.cells (putL cs (d + off + len * es) xs) e fz)) ∧ Ext B φ σ h φ' σ' (hset h b (.cells (putL cs (d + off + len * es) xs) e fz)) ∧
                VR φ' (csz (hset h b (.cells (putL cs (d + off + len * es) xs) e fz))) v (.slice (some ⟨b, d + off, none⟩) (len + m) c')) ∧
              (∀ c' el (ys : List Value), (len + m ≤ c' ∧ c' ≤ 9223372036854775807) → ys.length = (c' - (len + m)) * es → ∃ φ', Rel P B φ' σ' (h.push (.cells (((cs.toList.drop (d + off)).take (len * es) ++ xs ++ ys).toArray) el)) ∧
                Ext B φ σ h φ' σ' (h.push (.cells (((cs.toList.drop (d + off)).take (len * es) ++ xs ++ ys).toArray) el)) ∧
                VR φ' (csz (h.push (.cells (((cs.toList.drop (d + off)).take (len * es) ++ xs ++ ys).toArray) el))) v (.slice (some ⟨h.size, 0, none⟩) (len + m) c')) := by
          rw [sel_true_iff] at hk
          rcases hk with ⟨h5, hk⟩ | ⟨h5, hk⟩
          · obtain rfl : st = 0 := Nat.eq_of_beq_eq_true h5
            exact growK_sound (m := m * es) (Nat.add_mul _ _ _) hg hk
          · rw [sel_true_iff] at hk
            rcases hk with ⟨_, hk⟩ | ⟨h6, hk⟩
            · cases hk
            · rw [Hp.setK_eq] at hk
              obtain ⟨v, σ', hk, hgr⟩ := growK_sound (m := m * es) (Nat.add_mul _ _ _) (show ((σ.unst β).set β (.cells n cc 0 pl sh olds)).get β = some (.cells n cc 0 pl sh olds) by rw [Hp.get_set, if_pos rfl]) hk
              refine ⟨v, σ', hk, fun {P B φ h b d} r hβ hB => ?_⟩
              obtain ⟨r1, x1⟩ := r.unst hβ hg h6
              obtain ⟨cs, e, fz, q1, q2, q3, q4⟩ := hgr r1 hβ hB
              refine ⟨cs, e, fz, q1, q2, q3, fun xs hxs hcr => ?_⟩
              obtain ⟨u1, u2⟩ := q4 xs hxs hcr
              exact ⟨fun c' hc' hr => let ⟨φ', y1, y2, y3⟩ := u1 c' hc' hr; ⟨φ', y1, x1.trans y2, y3⟩, fun c' el ys hc' hys => let ⟨φ', y1, y2, y3⟩ := u2 c' el ys hc' hys; ⟨φ', y1, x1.trans y2, y3⟩⟩
        refine ⟨v, σ', hk, fun {P B φ h} r hB sv hv => ?_⟩
        cases hv with
        | slice _ _ _ _ _ _ b d c' hβ hx hc hl hr =>
          obtain ⟨cs, e, fz, q1, q2, q3, q4⟩ := hgr r hβ hB
          refine ⟨_, _, _, rfl, ⟨fun hfit => ⟨b, d + off, cs, e, fz, rfl, q1, ?_, q3.free, fun xs hxs hcr => ?_⟩, fun hcap => ⟨hlim, _, .inr ⟨b, d + off, cs, e, fz, rfl, q1, q2, rfl⟩, fun xs hxs hcr => (q4 xs hxs hcr).2⟩⟩⟩
          · rw [csz_cells q1] at hr
            have := Nat.mul_le_mul_right es hfit
            rw [Nat.add_mul] at this
            omega
          · rw [csz_cells q1] at hr
            exact (q4 xs hxs hcr).1 c' ⟨hfit, hc.2⟩ hr
        | slice0 _ _ _ _ b d q hβ =>
          obtain ⟨cs, e, fz, q1, q2, q3, q4⟩ := hgr r hβ hB
          refine ⟨_, _, _, rfl, ⟨fun hfit => by omega, fun hcap => ⟨hlim, [], .inl ⟨by simp, rfl⟩, fun xs hxs hcr => ?_⟩⟩⟩
          have := (q4 xs hxs hcr).2
          simpa using this
end Go.Am
