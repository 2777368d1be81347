import Derived.Test.YtfdbmpokhfjdoaaGreatDoorSmM
set_option linter.unusedVariables false
set_option linter.unusedSimpArgs false
namespace Go.Am
open Go Go.Proofs Go.RowKit
set_option maxHeartbeats 1000000 in
theorem writeByte_ok {args : AV} {σ : Hp} {k : KV} (hk : writeByteF args σ k = true) : ∃ v σ', k v σ' = true ∧ CallOK Tryz.prog 215 σ args v σ' := by
  rcases AV.asCons_true hk with ⟨_, h⟩ | ⟨p, q0, rfl, hk1⟩
  · cases h
  rcases AV.asCons_true hk1 with ⟨_, h⟩ | ⟨s, rr, rfl, hk2⟩
  · cases h
  rcases AV.asCons_true hk2 with ⟨rfl, hk3⟩ | ⟨_, _, _, h⟩
  case inr => cases h
  obtain ⟨δ, off, rfl, hk4⟩ := AV.asPtr_true hk3
  obtain ⟨v0, hk5, hv0⟩ := loadBlk_sound hk4
  have two : ∀ {φ : Emb} {κ : Nat → Nat} {xs : Array Value}, LR φ κ (.cons (.ptr δ off) (.cons s .nil)) xs.toList → ∃ b d sv, φ δ = some (b, d) ∧ xs = #[.pointer (some ⟨b, d + off, none⟩), sv] ∧ VR φ κ s sv := fun {φ κ xs} hl => by
    obtain ⟨y, ys, e, hy, h1⟩ := hl.cons_inv
    obtain ⟨z, zs, rfl, hz, h2⟩ := h1.cons_inv
    have := h2.nil_inv
    subst this
    cases hy with
    | ptr _ _ b d hφ => exact ⟨b, d, z, hφ, Array.toList_inj.1 (by simpa using e), hz⟩
  rcases AV.asSl_true hk5 with ⟨rfl, hk6⟩ | ⟨β, o, l, ex, c, es, rfl, hk6⟩
  · exact self_ok M0 hk6
  rcases acc_true (q := .u8) rfl hk6 with ⟨m, rfl, hk7⟩ | ⟨_, _, h⟩
  case inr => cases h
  rw [sel_true_iff] at hk7
  rcases hk7 with ⟨_, hk8⟩ | ⟨_, hk8⟩
  · exact self_ok M0 hk8
  obtain ⟨hm, hk9⟩ := sel_yes hk8
  have hm' : m ≤ 255 := Nat.le_of_ble_eq_true hm
  obtain ⟨σ', hk16, he, hl1, hlim, hbuf⟩ := bufK_sound (P := Tryz.prog) hk9
  refine ⟨_, σ', hk16, call215, fun {B φ w xs} r hB hl => ?_⟩
  obtain ⟨b, d, sv, hδ, rfl, hsv⟩ := two hl
  cases hsv with
  | nat _ _ =>
  obtain ⟨cs0, e0, fz0, x, t1, t2, _, t3⟩ := hv0 r hδ
  cases t3 with
  | slice0 => omega
  | slice _ _ _ _ _ _ g dg c' hβ hx hc hll hr =>
  subst he
  rw [Nat.mul_one] at hr
  obtain ⟨cs, cur, T, tg, hat, hend⟩ := hbuf r hB hδ hβ hc.2 hr
  have hcr : CR φ (csz w.heap) (.rb 1 m) [.int .u8 (Int.ofNat m)] := fun i hi => by
    have hi0 : i = 0 := by simpa using hi
    subst hi0
    refine ⟨_, rget_rb (by omega), rfl, ?_⟩
    have : byteAt m 0 = m := by unfold byteAt; simp; omega
    rw [this]
    exact .nat _ _
  obtain ⟨hroom, hnone⟩ := hend [.int .u8 (Int.ofNat m)] rfl hcr
  obtain ⟨v2, hv2⟩ := hat.h2
  have h0 : cs[d + off]? = some (.slice (some ⟨g, dg + o, none⟩) l c') := by
    have := hat.hb
    rw [t1] at this
    cases this
    exact t2
  have hgl : g < w.heap.size := (r.low _ _ _ hβ).2
  have hcs : csz w.heap g = cur.size := csz_cells hat.hg
  by_cases hfit : l + 1 ≤ c'
  · refine callsIn_wide.2 ((Tryz.writeByte_room b (d + off) l c' g (dg + o) (Int.ofNat m) T tg cs cur v2 w hat.hb h0 hv2 hat.hg hat.ne (by omega) (by omega) hc.2 (by omega)).mono ?_)
    rintro e w' ⟨rfl, h1, h2, h3, h4, h5, h6, h7⟩
    obtain ⟨φ', r', x'⟩ := hroom hfit w' h1 h2 h3 h4
    exact ⟨_, rfl, φ', r', x', .inil, h5, h6, h7⟩
  · have hxl : ((cur.toList.drop (dg + o)).take l).length = l := by have := hat.fit; simp; omega
    have hsrc : ∀ j v, ((cur.toList.drop (dg + o)).take l)[j]? = some v → w.cell? ((⟨g, dg + o, none⟩ : Addr).add j) = some v := fun j v h => by
      rw [Addr.add_none, Tryz.cell_of hat.hg]
      have hj : j < l := by
        rcases Nat.lt_or_ge j l with h' | h'
        · exact h'
        · rw [List.getElem?_eq_none (by omega)] at h; cases h
      rw [List.getElem?_take_of_lt hj, List.getElem?_drop] at h
      simpa using h
    refine callsIn_wide.2 ((Tryz.writeByte_none b (d + off) l c' (Int.ofNat m) ⟨g, dg + o, none⟩ T cs _ v2 w hat.hb h0 hat.h1 hv2 hxl hsrc hgl hat.ne hl1 (by omega) hc.2 (by omega) hlim hat.one).mono ?_)
    rintro e w' ⟨rfl, cap2, cells, h1, h2, h3, h4, h5, h6, h7, h8, h9, h10, h11⟩
    obtain ⟨φ', r', x'⟩ := hnone w' cap2 cells h4 h5 h1 h2 h3 h6 h7 h8
    exact ⟨_, rfl, φ', r', x', .inil, h9, h10, h11⟩
/-- The summaries, with the buffer's. -/
noncomputable def SB : Nat → Option SumF := withF 148 writeF (withF 215 writeByteF S)
theorem SB_ok : SumOK Tryz.prog SB := with_ok (with_ok S_ok writeByte_ok) write_ok
end Go.Am
