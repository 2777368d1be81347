import Derived.Test.YtfdbmpokhfjdoaaGreatDoorAmS14
set_option linter.unusedVariables false
set_option linter.unusedSimpArgs false
/-! Soundness, 15: operations that write. -/
namespace Go.Am
open Go
/-- What an operation has done to both. -/
def Did (P : Program) (B : Fz) (φ : Emb) (σ : Hp) (w : World) (v : AV) (σ' : Hp) (r : Value) (w' : World) : Prop :=
  ∃ φ', Rel P B φ' σ' w'.heap ∧ Ext B φ σ w.heap φ' σ' w'.heap ∧ VR φ' (csz w'.heap) v r ∧ w'.os = w.os ∧ w'.tape = w.tape ∧ w'.output = w.output
def WrV (P : Program) (B : Fz) (φ : Emb) (σ : Hp) (w : World) (v : AV) (σ' : Hp) (s : Sem Value) : Prop := ∃ r w', s.run P w = .ok r w' ∧ Did P B φ σ w v σ' r w'
def WrU (P : Program) (B : Fz) (φ : Emb) (σ : Hp) (w : World) (σ' : Hp) (s : Sem Unit) : Prop := ∃ w', s.run P w = .ok () w' ∧ Did P B φ σ w .undef σ' (.tuple #[]) w'
section
variable {P : Program} {t : Regs} {ls : Ls} {σ : Hp} {k : KV} {ih : Lv}
theorem wStore1_s {T : TypeId} {a x : OpdF} (hk : wStore1 a x ih t ls σ k = true) (hn : szOf P T = some 1) :
    ∃ v σ', k v σ' = true ∧ v = .undef ∧ ∀ {B φ w av xv}, Rel P B φ σ w.heap → VR φ (csz w.heap) (a t ls) av → VR φ (csz w.heap) (x t ls) xv → WrU P B φ σ w σ' (Instr.storeAt T av xv) := by
  obtain ⟨β, off, ha, hk⟩ := AV.asPtr_true hk
  obtain ⟨σ', hk, hw⟩ := write1K_sound hk
  refine ⟨_, σ', hk, rfl, fun {B φ w av xv} r hav hxv => ?_⟩
  rw [ha] at hav
  cases hav with
  | ptr _ _ b d hβ =>
    obtain ⟨cs, e, fz, h1, h2, h3, h4⟩ := hw r hβ
    obtain ⟨h5, r', x'⟩ := h4 xv hxv
    refine ⟨{ w with heap := hset w.heap b (.cells (putL cs (d + off) [xv]) e fz) }, ?_, φ, r', x', .undef, rfl, rfl, rfl⟩
    have hc : xv.cells = #[xv] := by cases xv <;> first | rfl | cases h5
    have hst := run_storeCells_am (P := P) (o := d + off) h1 [xv] (by simpa using h2) h3 (fun v hv => by rw [List.mem_singleton.1 hv]; exact h5)
    simp [Instr.storeAt, Instr.sureAddr, storeVar, hc, szOf_run hn, hst]
theorem wStoreN_s {T : TypeId} {n : Nat} {a x : OpdF} (hk : wStoreN n a x ih t ls σ k = true) (hn : szOf P T = some n) :
    ∃ v σ', k v σ' = true ∧ v = .undef ∧ ∀ {B φ w av xv}, Rel P B φ σ w.heap → VR φ (csz w.heap) (a t ls) av → VR φ (csz w.heap) (x t ls) xv → WrU P B φ σ w σ' (Instr.storeAt T av xv) := by
  obtain ⟨β, off, ha, hk1⟩ := AV.asPtr_true hk
  obtain ⟨m, rr, hx, hk2⟩ := AV.asAgg_true hk1
  obtain ⟨h0, hk3⟩ := sel_yes hk2
  obtain ⟨_, hk4⟩ := sel_no hk3
  have hnm : n = m := Nat.eq_of_beq_eq_true h0
  obtain ⟨σ', hk5, hw⟩ := writeK_sound hk4
  refine ⟨_, σ', hk5, rfl, fun {B φ w av xv} r hav hxv => ?_⟩
  rw [ha] at hav
  rw [hx] at hxv
  obtain ⟨xs, rfl, hxs, hcr⟩ := hxv.agg_inv
  cases hav with
  | ptr _ _ b d hβ =>
    obtain ⟨cs, e, fz, h1, h2, h3, h4⟩ := hw r hβ
    obtain ⟨r', x'⟩ := h4 xs.toList (by simp; omega) hcr
    refine ⟨{ w with heap := hset w.heap b (.cells (putL cs (d + off) xs.toList) e fz) }, ?_, φ, r', x', .undef, rfl, rfl, rfl⟩
    have hst := run_storeCells_am (P := P) (o := d + off) h1 xs.toList (by rw [Array.length_toList]; omega) h3 hcr.one
    have hsz : xs.size = n := by omega
    simp [Instr.storeAt, Instr.sureAddr, storeVar, Value.cells, szOf_run hn, hst, hsz]
theorem und_some {d : TypeDesc} : True := trivial
theorem zeroCells_size (zc : Array Value) (n : Nat) : (Builtin.zeroCells zc n).size = n * zc.size := by simp [Builtin.zeroCells]
theorem szz_inv {E : TypeId} {es : Nat} (h : szz P E = some es) : ∃ i z, P.info? E = some i ∧ i.size = es ∧ i.zero = some z ∧ z.cells.size = es ∧ zeroOf P E = some z := by
  unfold szz at h
  split at h
  case h_2 => cases h
  rename_i n zv hn hzv
  split at h
  case isFalse => cases h
  rename_i hzs
  cases h
  obtain ⟨i, hi, his⟩ := szOf_info hn
  have hzz : i.zero = some zv := by
    unfold zeroOf at hzv
    rw [hi] at hzv; exact hzv
  exact ⟨i, zv, hi, his, hzz, hzs, hzv⟩
theorem wAppend_s {T U E ty : TypeId} {es lim : Nat} {s x : OpdF} {d : TypeDesc} (hes : 0 < es) (hk : wAppend es lim s x ih t ls σ k = true) (hT : P.underlying T = some (.slice E)) (hU : P.underlying U = some d) (hd : ∀ q, d ≠ .int q) (hE : szz P E = some es) (hl : limOf P E = some lim) :
    ∃ v σ', k v σ' = true ∧ ∀ {B φ w sv xv}, Rel P B φ σ w.heap → B.le w.heap.size → VR φ (csz w.heap) (s t ls) sv → VR φ (csz w.heap) (x t ls) xv → WrV P B φ σ w v σ' (Builtin.append_ #[T, U] ty #[sv, xv]) := by
  obtain ⟨i, z, hi, his, hz, hzs, hzo⟩ := szz_inv hE
  obtain ⟨m, src, hk1, hsrc⟩ := srcK_sound hk
  rw [sel_true_iff] at hk1
  rcases hk1 with ⟨h0, hk2⟩ | ⟨h0, hk2⟩
  · have hm : m = 0 := Nat.eq_of_beq_eq_true h0
    have hkk : k (s t ls) σ = true ∧ (s t ls = .snil ∨ ∃ β off len ex c es', s t ls = .slice β off len ex c es') := by
      rcases AV.asSl_true hk2 with ⟨h1, h2⟩ | ⟨β, off, len, ex, c, es', h1, h2⟩
      · exact ⟨h2, .inl h1⟩
      · exact ⟨h2, .inr ⟨_, _, _, _, _, _, h1⟩⟩
    refine ⟨_, σ, hkk.1, fun {B φ w sv xv} r hB hsv hxv => ?_⟩
    obtain ⟨xs, hxl, hcr, hrun⟩ := hsrc r xv hxv
    obtain ⟨hlen, hfc⟩ := hrun P w rfl
    subst hm
    have hxs : xs = [] := by apply List.length_eq_zero_iff.1; simpa using hxl
    subst hxs
    have hfc0 := hfc 0 (Nat.le_refl _)
    refine ⟨sv, w, ?_, φ, r, .refl _ _ _ _, hsv, rfl, rfl, rfl⟩
    have hsl : (sv = .slice none 0 0) ∨ ∃ b o len c, sv = .slice (some ⟨b, o, none⟩) len c ∧ len ≤ c := by
      rcases hkk.2 with h1 | ⟨β, off, len, ex, c, es', h1⟩ <;> rw [h1] at hsv
      · cases hsv; exact .inl rfl
      · cases hsv with
        | slice _ _ _ _ _ _ b d c' hβ hx hc hl hr => exact .inr ⟨_, _, _, _, rfl, by omega⟩
        | slice0 => exact .inr ⟨_, _, _, _, rfl, Nat.le_refl _⟩
    rcases hsl with rfl | ⟨b, o, len, c, rfl, hle⟩
    · unfold Builtin.append_
      rw [his.symm] at hfc0
      simp at hfc0
      simp [underlying, hT, hU, sizeOf, typeInfo, hi, hlen, hfc0]
    · have := run_append_in (P := P) (w := w) (ty := ty) (xs := []) (len := len) (cap := c) hT hU hd hi hlen (by omega) (by rw [his]; simpa using hfc0) b o w rfl
      simpa using this
  · have hm : 0 < m := by
      rcases Nat.eq_zero_or_pos m with h | h
      · subst h; simp at h0
      · exact h
    obtain ⟨v, σ', hk3, happ⟩ := appendK_sound hes hm hk2
    refine ⟨v, σ', hk3, fun {B φ w sv xv} r hB hsv hxv => ?_⟩
    obtain ⟨xs, hxl, hcr, hrun⟩ := hsrc r xv hxv
    obtain ⟨base, len, cap, rfl, ar⟩ := happ r hB sv hsv
    obtain ⟨hlen, hfc⟩ := hrun P w rfl
    by_cases hfit : len + m ≤ cap
    · obtain ⟨b, o, cs, e, fz, rfl, h1, h2, h3, h4⟩ := ar.fits hfit
      obtain ⟨φ', r', x', hv⟩ := h4 xs hxl hcr
      refine ⟨_, { w with heap := hset w.heap b (.cells (putL cs (o + len * es) xs) e fz) }, run_append_in (xs := xs) hT hU hd hi hlen hfit ?_ b o _ ?_, φ', r', x', hv, rfl, rfl, rfl⟩
      · have := hfc m (Nat.le_refl _)
        rw [his, this, List.take_of_length_le (by omega)]
      · rw [his]
        exact run_storeCells_am h1 xs (by omega) h3 hcr.one
    · obtain ⟨hlm, old, hread, hgr⟩ := ar.grows (by omega)
      obtain ⟨hb0, hnsc⟩ := lim_ok hl hi (need := len + m) (cap := cap) (by omega) hlm (by omega)
      obtain ⟨c', hc', hrun'⟩ := run_append_new (ty := ty) (x := xv) (base := base) (xs := xs) (old := old) hT hU hd hi hz hlen hfit hb0 hnsc
        (fun w' hw' => by rw [his]; exact (show Reads w'.heap base (len * es) old by rw [hw']; exact hread).run rfl)
        (fun w' hw' => by
          have := (hrun P w' hw').2 m (Nat.le_refl _)
          rw [his, this, List.take_of_length_le (by omega)]) (lim_small hl hlm)
      obtain ⟨φ', r', x', hv⟩ := hgr xs hxl hcr c' E (Builtin.zeroCells z.cells (c' - (len + m))).toList hc' (by rw [Array.length_toList, zeroCells_size, hzs])
      exact ⟨_, _, hrun', φ', r', x', hv, rfl, rfl, rfl⟩
theorem wCopy_s {T U E ty : TypeId} {es : Nat} {dd x : OpdF} (hk : wCopy es dd x ih t ls σ k = true) (hT : P.underlying T = some (.slice E)) (hE : szOf P E = some es) {ts : Array TypeId} (hts : ts[0]? = some T) :
    ∃ v σ', k v σ' = true ∧ ∀ {B φ w sv xv}, Rel P B φ σ w.heap → VR φ (csz w.heap) (dd t ls) sv → VR φ (csz w.heap) (x t ls) xv → WrV P B φ σ w v σ' (Builtin.copy_ ts ty #[sv, xv]) := by
  obtain ⟨m, src, hk1, hsrc⟩ := srcK_sound hk
  -- nothing is copied
  have none' : ∀ (n' : Nat), n' = 0 → k (.nat .i64 0) σ = true → (∀ {φ : Emb} {κ : Nat → Nat} {sv : Value}, VR φ κ (dd t ls) sv → ∃ a len c, sv = .slice a len c ∧ Nat.min m len = 0) →
      ∃ v σ', k v σ' = true ∧ ∀ {B φ w sv xv}, Rel P B φ σ w.heap → VR φ (csz w.heap) (dd t ls) sv → VR φ (csz w.heap) (x t ls) xv → WrV P B φ σ w v σ' (Builtin.copy_ ts ty #[sv, xv]) := fun n' _ hk0 hsl => by
    refine ⟨_, σ, hk0, fun {B φ w sv xv} r hsv hxv => ⟨goInt 0, w, ?_, φ, r, .refl _ _ _ _, .nat .i64 0, rfl, rfl, rfl⟩⟩
    obtain ⟨xs, hxl, hcr, hrun⟩ := hsrc r xv hxv
    obtain ⟨hlen, hfc⟩ := hrun P w rfl
    obtain ⟨a, len, c, rfl, hmin⟩ := hsl hsv
    have hfc0 := hfc 0 (Nat.zero_le _)
    simp only [Nat.zero_mul, List.take_zero] at hfc0
    unfold Builtin.copy_
    have hmin' : min m len = 0 := hmin
    cases a with
    | none => simp [hts, underlying, hT, hlen, hmin', szOf_run hE, hfc0]
    | some a => simp [hts, underlying, hT, hlen, hmin', szOf_run hE, hfc0, storeCells]
  rcases AV.asSl_true hk1 with ⟨hx, hk2⟩ | ⟨β, off, len, ex, c, es', hx, hk2⟩
  · refine none' 0 rfl hk2 fun {φ κ sv} hsv => ?_
    rw [hx] at hsv; cases hsv
    exact ⟨none, 0, 0, rfl, Nat.min_zero _⟩
  · obtain ⟨h1, hk3⟩ := sel_yes hk2
    have he : es = es' := Nat.eq_of_beq_eq_true h1
    have hshape : ∀ {φ : Emb} {κ : Nat → Nat} {sv : Value}, VR φ κ (dd t ls) sv → ∃ a c', sv = .slice (some a) len c' := fun {φ κ sv} hsv => by
      rw [hx] at hsv; cases hsv <;> exact ⟨_, _, rfl⟩
    rw [sel_true_iff] at hk3
    rcases hk3 with ⟨h2, hk4⟩ | ⟨h2, hk4⟩
    · have hm : m = 0 := Nat.eq_of_beq_eq_true h2
      refine none' 0 rfl hk4 fun {φ κ sv} hsv => ?_
      obtain ⟨a, c', rfl⟩ := hshape hsv
      exact ⟨_, _, _, rfl, by rw [hm]; exact Nat.zero_min _⟩
    · rw [sel_true_iff] at hk4
      rcases hk4 with ⟨h3, hk5⟩ | ⟨h3, hk5⟩
      · have hlz : len = 0 := Nat.eq_of_beq_eq_true h3
        refine none' 0 rfl hk5 fun {φ κ sv} hsv => ?_
        obtain ⟨a, c', rfl⟩ := hshape hsv
        exact ⟨_, _, _, rfl, by rw [hlz]; exact Nat.min_zero _⟩
      · -- something is
        have hlz : len ≠ 0 := fun h => by subst h; simp at h3
        have fin : ∀ (n' : Nat) (src' : AV) (σ' : Hp), Nat.min m len = n' → k (.nat .i64 n') σ' = true → (∀ {φ κ xs}, CR φ κ src xs → xs.length = m * es → CR φ κ src' (xs.take (n' * es))) →
            (∀ {P B φ h b d}, Rel P B φ σ h → φ β = some (b, d) → ∃ cs e fz, h[b]? = some (.cells cs e fz) ∧ d + off + n' * es ≤ cs.size ∧ (∀ i, i < cs.size → ¬(fz.1 ≤ i ∧ i < fz.2)) ∧
              ∀ xs : List Value, xs.length = n' * es → CR φ (csz h) src' xs → Rel P B φ σ' (hset h b (.cells (putL cs (d + off) xs) e fz)) ∧ Ext B φ σ h φ σ' (hset h b (.cells (putL cs (d + off) xs) e fz))) →
            ∃ v σ', k v σ' = true ∧ ∀ {B φ w sv xv}, Rel P B φ σ w.heap → VR φ (csz w.heap) (dd t ls) sv → VR φ (csz w.heap) (x t ls) xv → WrV P B φ σ w v σ' (Builtin.copy_ ts ty #[sv, xv]) := fun n' src' σ' hn' hk6 hcs hwr => by
          refine ⟨_, σ', hk6, fun {B φ w sv xv} r hsv hxv => ?_⟩
          obtain ⟨xs, hxl, hcr, hrun⟩ := hsrc r xv hxv
          obtain ⟨hlen, hfc⟩ := hrun P w rfl
          rw [hx] at hsv
          cases hsv with
          | slice _ _ _ _ _ _ b d c' hβ hx1 hc hll hr =>
            obtain ⟨cs, e, fz, q1, q2, q3, q4⟩ := hwr r hβ
            have hle : n' ≤ m := by rw [← hn']; exact Nat.min_le_left _ _
            have hle2 : n' * es ≤ m * es := Nat.mul_le_mul_right _ hle
            have hcr' := hcs hcr hxl
            have htl : (xs.take (n' * es)).length = n' * es := by rw [List.length_take]; omega
            obtain ⟨r', x'⟩ := q4 _ htl hcr'
            refine ⟨goInt n', { w with heap := hset w.heap b (.cells (putL cs (d + off) (xs.take (n' * es))) e fz) }, ?_, φ, r', x', .nat .i64 n', rfl, rfl, rfl⟩
            have hst := run_storeCells_am (P := P) (o := d + off) q1 (xs.take (n' * es)) (by omega) q3 hcr'.one
            have hfn := hfc n' hle
            have hmin' : min m len = n' := hn'
            unfold Builtin.copy_
            simp [hts, underlying, hT, hlen, hmin', szOf_run hE, hfn, hst]
          | slice0 => exact absurd rfl hlz
        rw [sel_true_iff] at hk5
        rcases hk5 with ⟨h4, hk6⟩ | ⟨h4, hk6⟩
        · have hml : m ≤ len := Nat.le_of_ble_eq_true h4
          obtain ⟨σ', hk7, hw⟩ := writeK_sound hk6
          refine fin m src σ' (Nat.min_eq_left hml) hk7 (fun {φ κ xs} hcr hxl => by rw [List.take_of_length_le (by omega)]; exact hcr) (fun r hβ => hw r hβ)
        · have hml : len < m := ble_false h4
          obtain ⟨src', hk7, hs'⟩ := AV.rsubK_true hk6
          obtain ⟨σ', hk8, hw⟩ := writeK_sound hk7
          refine fin len src' σ' (Nat.min_eq_right (Nat.le_of_lt hml)) hk8 (fun {φ κ xs} hcr hxl i hi => ?_) (fun r hβ => hw r hβ)
          simp only [List.length_take] at hi
          obtain ⟨v, p1, p2, p3⟩ := hcr i (by omega)
          refine ⟨v, by rw [(hs' i (by show i < len * es; omega)).1, Nat.zero_add]; exact p1, p2, ?_⟩
          rw [List.getElem_take]; exact p3
end
end Go.Am
