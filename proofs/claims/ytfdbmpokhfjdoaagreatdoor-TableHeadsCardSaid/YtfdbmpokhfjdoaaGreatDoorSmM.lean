import Derived.Test.YtfdbmpokhfjdoaaGreatDoorSmL
set_option linter.unusedVariables false
set_option linter.unusedSimpArgs false
namespace Go.Am
open Go Go.Proofs Go.RowKit
theorem Rel.apart {P : Program} {B : Fz} {φ : Emb} {σ : Hp} {h : Array Obj} (r : Rel P B φ σ h) {δ β : Ad} {b d g dg n sh n' sh' : Nat} {c c' : AV} {pl pl' : Bool} {olds olds' : List Ad} (hδ : φ δ = some (b, d)) (hβ : φ β = some (g, dg)) (hne : δ ≠ β)
    (h1 : σ.get δ = some (.cells n c 0 pl sh olds)) (h2 : σ.get β = some (.cells n' c' 0 pl' sh' olds')) : g ≠ b := by
  rintro rfl
  rcases r.inj _ _ _ _ _ _ _ hδ hβ hne h1 h2 with h | h | h | h
  · exact h
  · exact h
  · obtain ⟨_, _, y, q1, q2, q3⟩ := r.olds _ _ _ _ _ hδ h1 h
    rw [h2] at q2; cases q2
    rcases q3 with q3 | q3
    · exact q3
    · exact absurd q3.1 (by simp [Blk.stale])
  · obtain ⟨_, _, y, q1, q2, q3⟩ := r.olds _ _ _ _ _ hβ h2 h
    rw [h1] at q2; cases q2
    rcases q3 with q3 | q3
    · exact q3
    · exact absurd q3.1 (by simp [Blk.stale])
theorem putAt_eq {cur : Array Value} {o : Nat} {ps : List Value} (h : o + ps.length ≤ cur.size) : Tryz.putAt cur o ps = putL cur o ps := by
  apply Array.ext_getElem?
  intro i
  rw [putL_get _ _ _ _ h]
  unfold Tryz.putAt
  rw [List.getElem?_toArray, List.append_assoc]
  by_cases h1 : i < o
  · rw [if_neg (by omega), List.getElem?_append_left (by simp; omega), List.getElem?_take_of_lt h1]; simp
  · rw [List.getElem?_append_right (by simp; omega)]
    simp only [List.length_take, Array.length_toList, Nat.min_eq_left (show o ≤ cur.size by omega)]
    by_cases h2 : i < o + ps.length
    · rw [if_pos (by omega), List.getElem?_append_left (by omega)]
    · rw [if_neg (by omega), List.getElem?_append_right (by omega), List.getElem?_drop, show o + ps.length + (i - o - ps.length) = i by omega]; simp
/-- By the machine itself. -/
noncomputable def selfF (P : Program) (f n : Nat) : SumF := fun args σ k => Option.rec (motive := fun _ => Bool) false (fun w => enterK (lv P (fun _ => none) n) f w args σ k) (fnW P f)
theorem self_ok {P : Program} (hm : P.follows .mixedOrders = true) {f n : Nat} {args : AV} {σ : Hp} {k : KV} (hk : selfF P f n args σ k = true) : ∃ v σ', k v σ' = true ∧ CallOK P f σ args v σ' := by
  have hk' : Option.rec (motive := fun _ => Bool) false (fun w => enterK (lv P (fun _ => none) n) f w args σ k) (fnW P f) = true := hk
  cases hf : fnW P f with
  | none => rw [hf] at hk'; cases hk'
  | some fw =>
    rw [hf] at hk'
    exact enter_s (lv_ok hm (fun f F h => by cases h) n) hm hf hk'
/-- Write of nothing. -/
noncomputable def zeroK (σ : Hp) (δ : Ad) (off : Nat) (k : KV) : Bool :=
  σ.cellsK δ fun dn _ dst dpl _ _ => sel dpl (sel (Nat.ble (Nat.add off 3) dn) (σ.write1K δ (Nat.add off 2) (.nat .i8 0) fun σ => k (.tup (.cons (.nat .i64 0) (.cons .inil .nil))) σ) false) false
noncomputable def writeF : SumF := fun args σ k => args.asCons false fun p r => r.asCons false fun s rr => rr.asCons (p.asPtr fun δ off => loadBlk σ δ off fun v0 => v0.asSl (selfF Tryz.prog 148 12 args σ k) fun β o l ex c es =>
  s.asSl (zeroK σ δ off k) fun β2 o2 n _ _ es2 => sel (Nat.beq n 0) (zeroK σ δ off k)
    (sel (sel ex (Nat.ble (Nat.add l n) c) false) (selfF Tryz.prog 148 12 args σ k)
      (sel (Nat.beq es2 1) (Ad.beqK δ β2 false (σ.cellsK δ fun _ _ dst _ _ _ => sel (Nat.beq dst 0) (σ.cellsK β2 fun _ _ st2 _ _ _ => sel (Nat.beq st2 0) (loadBlkN σ β2 o2 n fun pp => bufK σ δ off β o l es n pp fun σ => k (.tup (.cons (.nat .i64 n) (.cons .inil .nil))) σ) false) false)) false))) fun _ _ => false
noncomputable def writeByteF : SumF := fun args σ k => args.asCons false fun p r => r.asCons false fun s rr => rr.asCons (p.asPtr fun δ off => loadBlk σ δ off fun v0 => v0.asSl (selfF Tryz.prog 215 12 args σ k) fun β o l ex c es =>
  AV.of_u8 s (fun m => sel (sel ex (Nat.ble (Nat.add l 1) c) false) (selfF Tryz.prog 215 12 args σ k) (sel (Nat.ble m 255) (bufK σ δ off β o l es 1 (.rb 1 m) fun σ => k .inil σ) false)) (fun _ => false)) fun _ _ => false
theorem call148 : ∀ xs w, (callFunc 148 xs).run Tryz.prog w = .ok (.enter 148 xs) w := fun xs w => by
  unfold callFunc
  simp [Tryz.func148]
  rfl
theorem call215 : ∀ xs w, (callFunc 215 xs).run Tryz.prog w = .ok (.enter 215 xs) w := fun xs w => by
  unfold callFunc
  simp [Tryz.func215]
  rfl
theorem copy_zero (W : World) (o' ao2 : Option Addr) (d' c2 : Nat) : (Builtin.copy_ #[27, 27] 3 #[.slice o' 0 d', .slice ao2 0 c2]).run Tryz.prog W = .ok (.int .i64 0) W := by
  obtain ⟨i0, hi, hz0, hz1, hz2⟩ := info_parts (show (Tryz.prog.info? 5).map (fun i => (i.zero, i.size, i.bytes)) = some (some (.int .u8 0), 1, 1) by kernel_rfl)
  cases o' <;> cases ao2 <;> simp [Builtin.copy_, run_underlying Tryz.underlying27, Builtin.lenOf, Builtin.firstCells, sizeOf, typeInfo, hi, hz1, storeCells, loadCells, loadCellsFrom, goInt]
theorem zeroK_sound {σ : Hp} {δ : Ad} {off : Nat} {k : KV} (hk : zeroK σ δ off k = true) : ∃ σ', k (.tup (.cons (.nat .i64 0) (.cons .inil .nil))) σ' = true ∧ ∀ {B : Fz} {φ : Emb} {w : World} {b d : Nat} {x : Value} {ao2 : Option Addr} {c2 : Nat}, Rel Tryz.prog B φ σ w.heap → φ δ = some (b, d) → w.cell? ⟨b, d + off, none⟩ = some x → (∃ ao l c, x = .slice ao l c ∧ l ≤ c ∧ c ≤ maxLen) →
    Calls Tryz.prog 148 #[.pointer (some ⟨b, d + off, none⟩), .slice ao2 0 c2] w fun e w' => ∃ r, e = .returned r ∧ Did Tryz.prog B φ σ w (.tup (.cons (.nat .i64 0) (.cons .inil .nil))) σ' r w' := by
  obtain ⟨dn, dc, dst, dpl, dsh, dolds, hgδ, hk4⟩ := Hp.cellsK_true hk
  obtain ⟨rfl, hk5⟩ := sel_yes hk4
  obtain ⟨p4, hk6⟩ := sel_yes hk5
  obtain ⟨σ2, hk7, hw1⟩ := write1K_sound hk6
  have hdn : off + 3 ≤ dn := Nat.le_of_ble_eq_true p4
  refine ⟨σ2, hk7, fun {B φ w b d x ao2 c2} r hδ hx hsl => ?_⟩
  obtain ⟨ao, l, c, rfl, hlc, hcm⟩ := hsl
  obtain ⟨cs, T, fz, hb, hbs, hbf, _⟩ := r.cells hδ hgδ
  obtain rfl : fz = (0, 0) := hbf.1 rfl
  rw [Tryz.cell_of hb] at hx
  have hq2 : d + off + 2 < cs.size := by omega
  obtain ⟨cs1, e1, fz1, q1, _, _, q4⟩ := hw1 r hδ
  rw [hb] at q1
  cases q1
  obtain ⟨_, r2, x2⟩ := q4 (.int .i8 0) (.nat .i8 0)
  refine (Tryz.write_zero b (d + off) l c c2 ao ao2 T cs _ w hb hx (Array.getElem?_eq_getElem hq2) hlc hcm (fun W o' d' => copy_zero W o' ao2 d' c2)).mono ?_
  rintro e w' ⟨rfl, rfl⟩
  have heq : (w.setCell ⟨b, d + off + 2, none⟩ (.int .i8 0)).heap = hset w.heap b (.cells (putL cs (d + Nat.add off 2) [.int .i8 0]) T (0, 0)) := by
    apply Array.ext_getElem?
    intro kk
    by_cases hkb : kk = b
    · subst hkb
      rw [Lib.heap_setCell_same (i := d + off + 2) hb, hset_self hb]
      rfl
    · rw [hset_ne hkb]; exact Tryz.set_other hkb
  exact ⟨_, rfl, φ, heq ▸ r2, heq ▸ x2, LR.tup (LR.cons (.nat _ _) (LR.cons .inil LR.nil)), rfl, rfl, rfl⟩
set_option maxHeartbeats 1000000 in
theorem write_ok {args : AV} {σ : Hp} {k : KV} (hk : writeF args σ k = true) : ∃ v σ', k v σ' = true ∧ CallOK Tryz.prog 148 σ args v σ' := by
  rcases AV.asCons_true hk with ⟨_, h⟩ | ⟨p, q0, rfl, hk1⟩
  · cases h
  rcases AV.asCons_true hk1 with ⟨_, h⟩ | ⟨s, rr, rfl, hk2⟩
  · cases h
  rcases AV.asCons_true hk2 with ⟨rfl, hk3⟩ | ⟨_, _, _, h⟩
  case inr => cases h
  obtain ⟨δ, off, rfl, hk4⟩ := AV.asPtr_true hk3
  obtain ⟨v0, hk5, hv0⟩ := loadBlk_sound hk4
  have two : ∀ {φ : Emb} {κ : Nat → Nat} {xs : Array Value}, LR φ κ (.cons (.ptr δ off) (.cons s .nil)) xs.toList → ∃ b d sv, φ δ = some (b, d) ∧ xs = #[.pointer (some ⟨b, d + off, none⟩), sv] ∧ VR φ κ s sv := fun {φ κ xs} hl => by
    obtain ⟨y, ys, e, hy, h1⟩ := hl.cons_inv
    obtain ⟨z, zs, rfl, hz, h2⟩ := h1.cons_inv
    have := h2.nil_inv
    subst this
    cases hy with
    | ptr _ _ b d hφ => exact ⟨b, d, z, hφ, Array.toList_inj.1 (by simpa using e), hz⟩
  rcases AV.asSl_true hk5 with ⟨rfl, hk6⟩ | ⟨β, o, l, ex, c, es, rfl, hk6⟩
  · exact self_ok M0 hk6
  -- what the buffer's slice is
  have bufs : ∀ {B : Fz} {φ : Emb} {w : World} {b d : Nat}, Rel Tryz.prog B φ σ w.heap → φ δ = some (b, d) → ∃ x, w.cell? ⟨b, d + off, none⟩ = some x ∧ VR φ (csz w.heap) (.slice β o l ex c es) x := fun {B φ w b d} r hδ => by
    obtain ⟨cs, e, fz, x, h1, h2, _, h3⟩ := hv0 r hδ
    exact ⟨x, by simp [World.cell?, h1, h2], h3⟩
  have isSl : ∀ {φ : Emb} {κ : Nat → Nat} {x : Value}, VR φ κ (.slice β o l ex c es) x → ∃ ao l' c', x = .slice ao l' c' ∧ l' ≤ c' ∧ c' ≤ maxLen := fun {φ κ x} h => by
    cases h with
    | slice _ _ _ _ _ _ b d c' hβ hx hc hl hr => exact ⟨_, _, _, rfl, by omega, hc.2⟩
    | slice0 => exact ⟨_, _, _, rfl, Nat.le_refl _, by unfold maxLen; omega⟩
  have zero : zeroK σ δ off k = true → (∀ {φ : Emb} {κ : Nat → Nat} {sv : Value}, VR φ κ s sv → ∃ ao2 c2, sv = .slice ao2 0 c2) → ∃ v σ', k v σ' = true ∧ CallOK Tryz.prog 148 σ (.cons (.ptr δ off) (.cons s .nil)) v σ' := fun hz hs => by
    obtain ⟨σ', h1, h2⟩ := zeroK_sound hz
    refine ⟨_, σ', h1, call148, fun {B φ w xs} r hB hl => ?_⟩
    obtain ⟨b, d, sv, hδ, rfl, hsv⟩ := two hl
    obtain ⟨ao2, c2, rfl⟩ := hs hsv
    obtain ⟨x, q1, q2⟩ := bufs r hδ
    exact callsIn_wide.2 (h2 r hδ q1 (isSl q2))
  rcases AV.asSl_true hk6 with ⟨rfl, hk7⟩ | ⟨β2, o2, n, ex2, c2, es2, rfl, hk7⟩
  · exact zero hk7 fun {φ κ sv} h => by cases h; exact ⟨_, _, rfl⟩
  · rw [sel_true_iff] at hk7
    rcases hk7 with ⟨hn0, hk8⟩ | ⟨hn0, hk8⟩
    · obtain rfl : n = 0 := Nat.eq_of_beq_eq_true hn0
      exact zero hk8 fun {φ κ sv} h => by cases h <;> exact ⟨_, _, rfl⟩
    · rw [sel_true_iff] at hk8
      rcases hk8 with ⟨_, hk9⟩ | ⟨_, hk9⟩
      · exact self_ok M0 hk9
      · obtain ⟨he2, hk10⟩ := sel_yes hk9
        obtain rfl : es2 = 1 := Nat.eq_of_beq_eq_true he2
        rw [Ad.beqK_eq] at hk10
        split at hk10
        · cases hk10
        rename_i hne2
        obtain ⟨dn, dc, dst, dpl, dsh, dolds, hgδ, hk11⟩ := Hp.cellsK_true hk10
        obtain ⟨p4, hk12⟩ := sel_yes hk11
        obtain rfl : dst = 0 := Nat.eq_of_beq_eq_true p4
        obtain ⟨sn, sc, st2, spl, ssh, solds, hgs, hk13⟩ := Hp.cellsK_true hk12
        obtain ⟨p5, hk14⟩ := sel_yes hk13
        obtain rfl : st2 = 0 := Nat.eq_of_beq_eq_true p5
        obtain ⟨pp, hk15, hpp⟩ := loadBlkN_sound hk14
        obtain ⟨σ', hk16, he, hl1, hlim, hbuf⟩ := bufK_sound (P := Tryz.prog) hk15
        refine ⟨_, σ', hk16, call148, fun {B φ w xs} r hB hl => ?_⟩
        obtain ⟨b, d, sv, hδ, rfl, hsv⟩ := two hl
        obtain ⟨x, q1, q2⟩ := bufs r hδ
        have hn1 : 1 ≤ n := by
          rcases Nat.eq_zero_or_pos n with h | h
          · subst h; simp at hn0
          · exact h
        cases hsv with
        | slice0 => omega
        | slice _ _ _ _ _ _ g2 d2 c2' hβ2 hx2 hc2 hl2 hr2 =>
        cases q2 with
        | slice0 => omega
        | slice _ _ _ _ _ _ g dg c' hβ hx hc hll hr =>
        subst he
        rw [Nat.mul_one] at hr
        obtain ⟨cs, cur, T, tg, hat, hend⟩ := hbuf r hB hδ hβ hc.2 hr
        have hab2 := r.apart hδ hβ2 hne2 hgδ hgs
        obtain ⟨cs2, e2, fz2, t1, t2, t3⟩ := hpp r hβ2
        have hpl : ((cs2.toList.drop (d2 + o2)).take n).length = n := by simp; omega
        have hsrc2 : ∀ j v, ((cs2.toList.drop (d2 + o2)).take n)[j]? = some v → w.cell? ((⟨g2, d2 + o2, none⟩ : Addr).add j) = some v := fun j v h => by
          rw [Addr.add_none, Tryz.cell_of t1]
          have hj : j < n := by
            rcases Nat.lt_or_ge j n with h' | h'
            · exact h'
            · rw [List.getElem?_eq_none (by omega)] at h; cases h
          rw [List.getElem?_take_of_lt hj, List.getElem?_drop] at h
          simpa using h
        obtain ⟨hroom, hnone⟩ := hend _ hpl t3
        obtain ⟨v2, hv2⟩ := hat.h2
        have h0 : cs[d + off]? = some (.slice (some ⟨g, dg + o, none⟩) l c') := by rw [Tryz.cell_of hat.hb] at q1; exact q1
        have hgl : g < w.heap.size := (r.low _ _ _ hβ).2
        have hcs : csz w.heap g = cur.size := csz_cells hat.hg
        by_cases hfit : l + n ≤ c'
        · refine callsIn_wide.2 ((Tryz.write_room b (d + off) l c' n c2' g (dg + o) ⟨g2, d2 + o2, none⟩ T tg cs cur _ v2 w hat.hb h0 hv2 hpl hat.hg hat.ne (by omega) hsrc2 hab2 (by omega) hc.2 hn1 (by omega) t3.one).mono ?_)
          rintro e w' ⟨rfl, h1, h2, h3, h4, h5, h6, h7⟩
          rw [putAt_eq (by rw [hpl]; omega)] at h1
          obtain ⟨φ', r', x'⟩ := hroom hfit w' h1 h2 h3 h4
          exact ⟨_, rfl, φ', r', x', LR.tup (LR.cons (.nat _ _) (LR.cons .inil LR.nil)), h5, h6, h7⟩
        · have hxl : ((cur.toList.drop (dg + o)).take l).length = l := by have := hat.fit; simp; omega
          have hsrc : ∀ j v, ((cur.toList.drop (dg + o)).take l)[j]? = some v → w.cell? ((⟨g, dg + o, none⟩ : Addr).add j) = some v := fun j v h => by
            rw [Addr.add_none, Tryz.cell_of hat.hg]
            have hj : j < l := by
              rcases Nat.lt_or_ge j l with h' | h'
              · exact h'
              · rw [List.getElem?_eq_none (by omega)] at h; cases h
            rw [List.getElem?_take_of_lt hj, List.getElem?_drop] at h
            simpa using h
          refine callsIn_wide.2 ((Tryz.write_none b (d + off) l c' n c2' ⟨g, dg + o, none⟩ ⟨g2, d2 + o2, none⟩ T cs _ _ v2 w hat.hb h0 hat.h1 hv2 hxl hpl hsrc hgl hat.ne hsrc2 (r.low _ _ _ hβ2).2 hab2 hl1 (by omega) hc.2 hn1 (by omega) hlim hat.one t3.one).mono ?_)
          rintro e w' ⟨rfl, cap2, cells, h1, h2, h3, h4, h5, h6, h7, h8, h9, h10, h11⟩
          obtain ⟨φ', r', x'⟩ := hnone w' cap2 cells h4 h5 h1 h2 h3 h6 h7 h8
          exact ⟨_, rfl, φ', r', x', LR.tup (LR.cons (.nat _ _) (LR.cons .inil LR.nil)), h9, h10, h11⟩
end Go.Am
