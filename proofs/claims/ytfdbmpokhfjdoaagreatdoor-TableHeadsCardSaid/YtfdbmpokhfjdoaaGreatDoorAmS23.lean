import Derived.Test.YtfdbmpokhfjdoaaGreatDoorAmS22
set_option linter.unusedVariables false
set_option linter.unusedSimpArgs false
/-! Soundness, 23: regions that draw their order, whole. -/
namespace Go.Am
open Go
def Lf (listed : Array Bool) (i : Nat) : Bool := listed.getD i false
def freeN (tr : List Ent) (listed : Array Bool) : Nat := (tr.filter fun e => !Lf listed e.i).length
structure Inv (P : Program) (C : Cx) (ops : List Oper) (tr : List Ent) (t0 : Regs) (σ0 σN : Hp) (B : Fz) (φ0 : Emb) (a0 : Act) (w0 : World) (listed : Array Bool) (a : Act) (w : World) : Prop where
  size : listed.size = ops.length
  closed : ∀ i o, Lf listed i = true → ops[i]? = some o → ∀ e ∈ edgesOf o, Lf listed e = true
  st : ∃ φ pre rest, tr = pre ++ rest ∧ (∀ e ∈ pre, e.k = .wr → Lf listed e.i = true) ∧ (∀ e ∈ rest, Lf listed e.i = false) ∧ (∀ e r, rest = e :: r → e.k = .wr) ∧
    Rel P B φ (hAt rest σN) w.heap ∧ Ext B φ0 σ0 w0.heap φ (hAt rest σN) w.heap ∧
    (∀ e ∈ pre, ∀ blk β, e.k = .al blk β → Lf listed e.i = false → φ β = none ∧ σ0.nx.toNat ≤ β.toNat ∧ β.toNat < (hAt rest σN).nx.toNat ∧ (hAt rest σN).get β = some blk) ∧
    (∀ x ∈ pre, ∀ y ∈ pre, ∀ b β b' γ, x.k = .al b β → y.k = .al b' γ → Lf listed x.i = false → Lf listed y.i = false → x.i ≠ y.i → β ≠ γ) ∧
    (∀ u, C.glob u = true → ∃ x, a.tmps[u]? = some x ∧ VR φ (csz w.heap) (valL ops (Lf listed) u tr (t0.get u)) x)
  tsz : C.n ≤ a.tmps.size
  dfr : a.defers = a0.defers
  same : Same w0 w
section
variable {P : Program} {C : Cx} {ops : List Oper} {A : List Nat} {tr : List Ent} {t0 tN : Regs} {σ0 σN : Hp} {B : Fz} {φ0 : Emb} {a0 : Act} {w0 : World} {listed : Array Bool} {a : Act} {w : World}
theorem Lf_lt {i : Nat} (h : Lf listed i = true) : i < listed.size := by
  unfold Lf at h
  apply Classical.byContradiction
  intro hn
  rw [Array.getD_eq_getD_getElem?, Array.getElem?_eq_none (by omega)] at h
  cases h
theorem Lf_set {i j : Nat} (hi : i < listed.size) : Lf (listed.setIfInBounds i true) j = if j = i then true else Lf listed j := by
  unfold Lf
  simp only [Array.getD_eq_getD_getElem?, Array.getElem?_setIfInBounds]
  by_cases h : i = j
  · subst h; simp [hi]
  · rw [if_neg h, if_neg (Ne.symm h)]
theorem mem_edges {o : Oper} {x : Nat} : x ∈ edgesOf o ↔ ∃ e ∈ o.after, Region.binds .any e = true ∧ e.on = x := by
  simp [edgesOf, List.mem_map, List.mem_filter, and_assoc]
theorem Plan.down (pl : Plan P C ops A tr t0 σ0 tN σN) (hs : listed.size = ops.length) (hc : ∀ i o, Lf listed i = true → ops[i]? = some o → ∀ e ∈ edgesOf o, Lf listed e = true) : ∀ i, Lf listed i = true → ∀ x, (A.getD i 0).testBit x = true → Lf listed x = true := by
  intro i
  induction i using Nat.strongRecOn with
  | _ i ih =>
    intro hi x hx
    have hlt := Lf_lt hi
    have ho : ops[i]? = some ops[i] := List.getElem?_eq_getElem (by omega)
    obtain ⟨e, he, h⟩ := (pl.anc i _ x ho).1 hx
    have hle := hc i _ hi ho e he
    rcases h with rfl | h
    · exact hle
    · exact ih e (pl.edge i _ ho e he) hle x h
theorem Plan.up (pl : Plan P C ops A tr t0 σ0 tN σN) (hs : listed.size = ops.length) (hc : ∀ i o, Lf listed i = true → ops[i]? = some o → ∀ e ∈ edgesOf o, Lf listed e = true) {i : Nat} {o : Oper} (ho : ops[i]? = some o) (he : ∀ e ∈ edgesOf o, Lf listed e = true) : ∀ x, (A.getD i 0).testBit x = true → Lf listed x = true := fun x hx => by
  obtain ⟨e, hm, h⟩ := (pl.anc i o x ho).1 hx
  rcases h with rfl | h
  · exact he _ hm
  · exact pl.down hs hc e (he e hm) x h
theorem first_free : ∀ (l : List Ent), (∃ e ∈ l, Lf listed e.i = false) → ∃ p e q, l = p ++ e :: q ∧ Lf listed e.i = false ∧ ∀ x ∈ p, Lf listed x.i = true
  | [], ⟨e, he, _⟩ => by cases he
  | y :: l, ⟨e, he, h⟩ => by
    cases hy : Lf listed y.i with
    | false => exact ⟨[], y, l, rfl, hy, fun x hx => by cases hx⟩
    | true =>
      have : e ∈ l := by
        rcases List.mem_cons.1 he with rfl | he
        · rw [h] at hy; cases hy
        · exact he
      obtain ⟨p, e', q, rfl, h1, h2⟩ := first_free l ⟨e, this, h⟩
      refine ⟨y :: p, e', q, rfl, h1, fun x hx => ?_⟩
      rcases List.mem_cons.1 hx with rfl | hx
      · exact hy
      · exact h2 x hx
theorem Plan.lt (pl : Plan P C ops A tr t0 σ0 tN σN) {e : Ent} (he : e ∈ tr) : e.i < ops.length := by
  obtain ⟨o, ho, _⟩ := pl.ent e he
  exact (List.getElem?_eq_some_iff.1 ho).1
theorem Inv.done (pl : Plan P C ops A tr t0 σ0 tN σN) (v : Inv P C ops tr t0 σ0 σN B φ0 a0 w0 listed a w) (hall : ∀ i, i < ops.length → Lf listed i = true) : RegionOK P B φ0 σ0 w0 C tN σN a0 a w := by
  obtain ⟨φ, pre, rest, htr, h1, h2, h3, h4, h5, h6, _, h7⟩ := v.st
  have hr : rest = [] := by
    cases rest with
    | nil => rfl
    | cons e r =>
      have := h2 e (by simp)
      rw [hall e.i (pl.lt (by rw [htr]; simp))] at this
      cases this
  subst hr
  refine ⟨⟨φ, h4, h5, v.tsz, fun u hu => ?_⟩, v.dfr, v.same⟩
  obtain ⟨x, q1, q2⟩ := h7 u hu
  refine ⟨x, q1, ?_⟩
  rw [chain_val hu tr _ _ _ _ pl.chain pl.ent, valL_same (L' := Lf listed) tr _ fun e he _ => (hall e.i (pl.lt he)).symm]
  exact q2
theorem filter_congr' {l : List Ent} {p q : Ent → Bool} (h : ∀ x ∈ l, p x = q x) : l.filter p = l.filter q := List.filter_congr h
theorem freeN_set (pl : Plan P C ops A tr t0 σ0 tN σN) {p : List Ent} {e : Ent} {q : List Ent} (htr : tr = p ++ e :: q) (hi : e.i < listed.size) (hf : Lf listed e.i = false) : freeN tr (listed.setIfInBounds e.i true) + 1 = freeN tr listed := by
  obtain ⟨u1, u2⟩ := pl.uniq p e q htr
  unfold freeN
  subst htr
  rw [List.filter_append, List.filter_append, List.filter_cons, List.filter_cons]
  have e1 : p.filter (fun x => !Lf (listed.setIfInBounds e.i true) x.i) = p.filter (fun x => !Lf listed x.i) := List.filter_congr fun x hx => by rw [Lf_set hi, if_neg (u1 x hx)]
  have e2 : q.filter (fun x => !Lf (listed.setIfInBounds e.i true) x.i) = q.filter (fun x => !Lf listed x.i) := List.filter_congr fun x hx => by rw [Lf_set hi, if_neg (u2 x hx)]
  rw [e1, e2, Lf_set hi, if_pos rfl, hf]
  simp
  omega
theorem sim (pl : Plan P C ops A tr t0 σ0 tN σN) (hB : B.le w0.heap.size) {Q : Exit → Act → World → Prop} {ro : Option Nat} (hq : ∀ a' w', RegionOK P B φ0 σ0 w0 C tN σN a0 a' w' → Q .normal a' w') :
    ∀ (fuel : Nat) (listed : Array Bool) (a : Act) (w : World), Inv P C ops tr t0 σ0 σN B φ0 a0 w0 listed a w → freeN tr listed ≤ fuel → wpAnyIn (FW ro) 0 P .any ops.toArray Q fuel listed a w := by
  intro fuel
  induction fuel with
  | zero =>
    intro listed a w v hfr
    have hall : ∀ i, i < ops.length → Lf listed i = true := fun i hi => by
      obtain ⟨p, e, q, htr, rfl⟩ := pl.all i hi
      apply Classical.byContradiction
      intro hn
      have : e ∈ tr.filter fun e => !Lf listed e.i := List.mem_filter.2 ⟨by rw [htr]; simp, by simpa using hn⟩
      have := List.length_pos_of_mem this
      unfold freeN at hfr
      omega
    refine ⟨?_, hq _ _ (v.done pl hall)⟩
    apply List.eq_nil_iff_forall_not_mem.2
    intro i hi
    obtain ⟨h1, o, ho, _⟩ := mem_ready.1 hi
    have hlt : i < ops.length := by
      rw [List.getElem?_toArray] at ho
      exact (List.getElem?_eq_some_iff.1 ho).1
    have := hall i hlt
    have hlt' : i < listed.size := by rw [v.size]; exact hlt
    simp only [Lf, Array.getD_eq_getD_getElem?, Array.getElem?_eq_getElem hlt', Option.getD_some] at this h1
    rw [this] at h1; cases h1
  | succ fuel ih =>
    intro listed a w v hfr
    refine ⟨fun hre => hq _ _ (v.done pl fun i hi => ?_), fun i hi => ?_⟩
    · apply Classical.byContradiction
      intro hn
      obtain ⟨p0, e0, q0, htr0, rfl⟩ := pl.all i hi
      obtain ⟨p, e, q, htr, h1, h2⟩ := first_free (listed := listed) tr ⟨e0, by rw [htr0]; simp, by simpa using hn⟩
      have hm : e ∈ tr := by rw [htr]; simp
      have hlt := pl.lt hm
      obtain ⟨o, ho, _⟩ := pl.ent e hm
      have : e.i ∈ Region.ready .any ops.toArray listed := by
        refine mem_ready.2 ⟨?_, o, by rw [List.getElem?_toArray]; exact ho, fun ed hed hb => ?_⟩
        · have hlt' : e.i < listed.size := by rw [v.size]; exact hlt
          simpa only [Lf, Array.getD_eq_getD_getElem?, Array.getElem?_eq_getElem hlt', Option.getD_some] using h1
        · obtain ⟨y, hy, hyi⟩ := pl.before p e q htr ed.on ((pl.anc e.i o ed.on ho).2 ⟨ed.on, mem_edges.2 ⟨ed, hed, hb, rfl⟩, .inl rfl⟩)
          rw [← hyi]; exact h2 y hy
      rw [hre] at this; cases this
    · obtain ⟨hun, o, ho, hedge⟩ := mem_ready.1 hi
      rw [List.getElem?_toArray] at ho
      have hlt : i < ops.length := (List.getElem?_eq_some_iff.1 ho).1
      have hlt' : i < listed.size := by rw [v.size]; exact hlt
      have hun' : Lf listed i = false := by simpa only [Lf, Array.getD_eq_getD_getElem?, Array.getElem?_eq_getElem hlt', Option.getD_some] using hun
      have hup := pl.up v.size v.closed ho fun x hx => by obtain ⟨ed, h1, h2, rfl⟩ := mem_edges.1 hx; exact hedge ed h1 h2
      have hdown := pl.down v.size v.closed
      obtain ⟨p, e, q, htr, rfl⟩ := pl.all i hlt
      obtain ⟨u1, u2⟩ := pl.uniq p e q htr
      have hm : e ∈ tr := by rw [htr]; simp
      obtain ⟨o', ho', hglob, ht', hk⟩ := pl.ent e hm
      rw [ho] at ho'; cases ho'
      obtain ⟨φ, pre, rest, hpr, s1, s2, s3, s4, s5, s6, s8, s7⟩ := v.st
      -- the order's sides
      have hq' : ∀ x ∈ q, dstOf ops x.i ≠ none → ∀ u, dstOf ops x.i = some u → u ∈ namesOf ops o → Lf listed x.i = false := fun x hx _ u hu hn => by
        obtain ⟨ox, hox, hdx⟩ : ∃ ox, ops[x.i]? = some ox ∧ ox.dst = some u := by
          unfold dstOf at hu
          cases hox : ops[x.i]? with
          | none => rw [hox] at hu; cases hu
          | some ox => rw [hox] at hu; exact ⟨ox, rfl, hu⟩
        rcases pl.tmps e.i o ho u hn x.i ox hox hdx with h | h | h
        · exact absurd h (u2 x hx)
        · obtain ⟨y, hy, hyx⟩ := pl.before p e q htr x.i h
          obtain ⟨x1, x2, rfl⟩ := List.append_of_mem hx
          have hux := (pl.uniq (p ++ e :: x1) x x2 (by rw [htr]; simp)).1 y (by simp [hy])
          exact absurd hyx hux
        · apply Classical.byContradiction
          intro hl
          have := hdown x.i (by simpa using hl) e.i h
          rw [hun'] at this; cases this
      have hp' : ∀ x ∈ p, ∀ u, dstOf ops x.i = some u → u ∈ namesOf ops o → Lf listed x.i = true := fun x hx u hu hn => by
        obtain ⟨ox, hox, hdx⟩ : ∃ ox, ops[x.i]? = some ox ∧ ox.dst = some u := by
          unfold dstOf at hu
          cases hox : ops[x.i]? with
          | none => rw [hox] at hu; cases hu
          | some ox => rw [hox] at hu; exact ⟨ox, rfl, hu⟩
        rcases pl.tmps e.i o ho u hn x.i ox hox hdx with h | h | h
        · exact absurd h (u1 x hx)
        · exact hup x.i h
        · exfalso
          obtain ⟨x1, x2, rfl⟩ := List.append_of_mem hx
          obtain ⟨y, hy, hyx⟩ := pl.before x1 x (x2 ++ e :: q) (by rw [htr]; simp) e.i h
          exact u1 y (by simp [hy]) hyx
      have hsplit := Chain.split (p := p) (rest := e :: q) (by rw [← htr]; exact pl.chain)
      have hreg : ∀ u, u ∈ namesOf ops o → C.glob u = true → ∃ x, a.tmps[u]? = some x ∧ VR φ (csz w.heap) (e.t.get u) x := fun u hn hg => by
        obtain ⟨x, q1, q2⟩ := s7 u hg
        refine ⟨x, q1, ?_⟩
        have e1 : e.t.get u = valL ops (fun _ => true) u p (t0.get u) := chain_val hg p _ _ _ _ hsplit.1 fun y hy => pl.ent y (by rw [htr]; simp [hy])
        have e2 : valL ops (Lf listed) u tr (t0.get u) = e.t.get u := by
          rw [htr, valL_app, e1, valL_none (e :: q), valL_same (L' := fun _ => true) p _ fun y hy hd => hp' y hy u hd hn]
          intro y hy hd
          rcases List.mem_cons.1 hy with rfl | hy
          · exact hun'
          · exact hq' y hy (by rw [hd]; simp) u hd hn
        rw [e2] at q2
        exact q2
      have htmp : ∀ u, u ∈ namesOf ops o → ∀ f, tmpW C u = some (.mk f) → ∃ x, a.tmps[u]? = some x ∧ VR φ (csz w.heap) (f e.t .nil) x := fun u hn f hf => by
        unfold tmpW at hf
        split at hf
        · rename_i hg
          rw [evR_eq] at hf
          cases hf
          exact hreg u hn hg
        · have : C.find u = none := by simp [Cx.find, pl.binds]
          rw [this] at hf; cases hf
      have hevo : EVO C φ (csz w.heap) e.t .nil a.eval o.op := fun X hX f hf => opd_r hf fun u hu f' hf' => htmp u (by
        subst hu
        unfold namesOf
        refine List.mem_append_left _ (List.mem_append_right _ (List.mem_filterMap.2 ⟨_, hX, rfl⟩))) f' hf'
      have hgrd : ∀ {j : Nat} {w1 : Bool} {g : OpdF}, o.guard = some (j, w1) → guardW C ops j = some g → _ := fun {j w1 g} hgd hg =>
        wanted_r (C := C) (t := e.t) (ls := .nil) (φ := φ) (κ := csz w.heap) (tmps := a.tmps) hgd hg fun u hu f hf => htmp u (by
          unfold namesOf
          refine List.mem_append_right _ ?_
          rw [hgd]
          simp [hu]) f hf
      -- what is so behind it
      have step : ∀ {φ' : Emb} {w' : World} {r : Value} {pre' rest' : List Ent}, tr = pre' ++ rest' → (∀ x ∈ pre', x.k = .wr → x.i ≠ e.i → Lf listed x.i = true) → (∀ x ∈ rest', x.i ≠ e.i ∧ Lf listed x.i = false) → (∀ x r, rest' = x :: r → x.k = .wr) → Rel P B φ' (hAt rest' σN) w'.heap →
          Ext B φ0 σ0 w0.heap φ' (hAt rest' σN) w'.heap → (∀ x ∈ pre', ∀ blk β, x.k = .al blk β → x.i ≠ e.i → Lf listed x.i = false → φ' β = none ∧ σ0.nx.toNat ≤ β.toNat ∧ β.toNat < (hAt rest' σN).nx.toNat ∧ (hAt rest' σN).get β = some blk) → (∀ x ∈ pre', ∀ y ∈ pre', ∀ b β b' γ, x.k = .al b β → y.k = .al b' γ → x.i ≠ e.i → y.i ≠ e.i → Lf listed x.i = false → Lf listed y.i = false → x.i ≠ y.i → β ≠ γ) → φ.le φ' → (∀ b, csz w.heap b ≤ csz w'.heap b) → VR φ' (csz w'.heap) e.v r → Same w w' →
          wpAnyIn (FW ro) 0 P .any ops.toArray Q fuel (listed.setIfInBounds e.i true) (a.put o.dst r) w' := fun {φ' w' r pre' rest'} k1 k2 k3 k4 k5 k6 k7 k12 k8 k9 k10 k11 => by
        refine ih _ _ _ ⟨by simpa using v.size, fun j oj hj hoj x hx => ?_, ⟨φ', pre', rest', k1, fun x hx hxk => ?_, fun x hx => ?_, k4, k5, k6, fun x hx blk β hxk hl => ?_, fun x hx y hy b β b' γ hxk hyk hxl hyl hne => ?_, fun u hu => ?_⟩, ?_, ?_, v.same.trans k11⟩ ?_
        · rw [Lf_set hlt'] at hj ⊢
          split
          · rfl
          · by_cases hje : j = e.i
            · subst hje
              rw [ho] at hoj; cases hoj
              obtain ⟨ed, h1, h2, rfl⟩ := mem_edges.1 hx
              exact hedge ed h1 h2
            · rw [if_neg hje] at hj
              exact v.closed j oj hj hoj x hx
        · rw [Lf_set hlt']
          split
          · rfl
          · rename_i hne; exact k2 x hx hxk hne
        · rw [Lf_set hlt', if_neg (k3 x hx).1]; exact (k3 x hx).2
        · rw [Lf_set hlt'] at hl
          split at hl
          · cases hl
          · rename_i hne; exact k7 x hx blk β hxk hne hl
        · rw [Lf_set hlt'] at hxl hyl
          split at hxl
          · cases hxl
          · rename_i h1
            split at hyl
            · cases hyl
            · rename_i h2
              exact k12 x hx y hy b β b' γ hxk hyk h1 h2 hxl hyl hne
        · -- temporaries
          have hdi : dstOf ops e.i = o.dst := by simp [dstOf, ho]
          by_cases hdu : o.dst = some u
          · have hn : u ∈ namesOf ops o := by unfold namesOf; rw [hdu]; simp
            have hsz := v.tsz
            have := (Cx.glob_lt hu).2
            refine ⟨r, ?_, ?_⟩
            · rw [hdu]; simp only [Act.put]; rw [Array.getElem?_setIfInBounds, if_pos rfl, if_pos (by omega)]
            · have : valL ops (Lf (listed.setIfInBounds e.i true)) u tr (t0.get u) = e.v := by
                rw [htr, valL_app]
                simp only [valL]
                rw [if_pos (by rw [Lf_set hlt', if_pos rfl, hdi, hdu]; simp)]
                refine valL_none q _ fun x hx hd => ?_
                rw [Lf_set hlt', if_neg (u2 x hx)]
                exact hq' x hx (by rw [hd]; simp) u hd hn
              rw [this]; exact k10
          · obtain ⟨x, q1, q2⟩ := s7 u hu
            refine ⟨x, ?_, ?_⟩
            · cases hd : o.dst with
              | none => exact q1
              | some u' =>
                have : u' ≠ u := fun e => hdu (by rw [hd, e])
                simp only [Act.put]; rw [Array.getElem?_setIfInBounds, if_neg this]; exact q1
            · rw [valL_same (L' := Lf listed) tr _ fun y hy hd => ?_]
              · exact q2.mono k8 k9
              · rw [Lf_set hlt', if_neg]
                intro hye
                rw [hye, hdi] at hd
                exact hdu hd
        · cases hd : o.dst with
          | none => exact v.tsz
          | some u => simpa [Act.put] using v.tsz
        · rw [put_eta]; exact v.dfr
        · have := freeN_set pl htr hlt' hun'
          omega
      -- where it stands
      have hpre : e.k ≠ .wr → ∃ q2, pre = p ++ e :: q2 ∧ q = q2 ++ rest := fun hne => by
        have hin : e ∈ pre := by
          have : e ∈ pre ++ rest := by rw [← hpr]; exact hm
          rcases List.mem_append.1 this with h | h
          · exact h
          · exfalso
            obtain ⟨r1, r2, hrest⟩ := List.append_of_mem h
            cases r1 with
            | nil => exact hne (s3 e r2 (by simpa using hrest))
            | cons y r1 =>
              have hyk := s3 y (r1 ++ e :: r2) (by simpa using hrest)
              have hyl := s2 y (by rw [hrest]; simp)
              have := pl.wrb (pre ++ y :: r1) e r2 (by rw [hpr, hrest]; simp) y (by simp) hyk
              rw [hup y.i this] at hyl; cases hyl
        obtain ⟨p2, q2, hpq⟩ := List.append_of_mem hin
        have heq : p2 ++ e :: (q2 ++ rest) = p ++ e :: q := by rw [← htr, hpr, hpq]; simp
        have huq := pl.uniq p2 e (q2 ++ rest) (by rw [heq]; exact htr)
        obtain ⟨h1, h2⟩ := split_uniq _ _ e _ _ rfl heq huq.1 u1
        exact ⟨q2, by rw [hpq, h1], h2.symm⟩
      have stay : ∀ {r : Value}, e.k ≠ .wr → (∀ blk β, e.k ≠ .al blk β) → VR φ (csz w.heap) e.v r → wpAnyIn (FW ro) 0 P .any ops.toArray Q fuel (listed.setIfInBounds e.i true) (a.put o.dst r) w := fun {r} hne hna hv => by
        obtain ⟨q2, hpp, hqq⟩ := hpre hne
        refine step hpr (fun x hx hxk _ => s1 x hx hxk) (fun x hx => ⟨u2 x (by rw [hqq]; simp [hx]), s2 x hx⟩) s3 s4 s5 (fun x hx blk β hxk hxe hl => s6 x hx blk β hxk hl) (fun x hx y hy b β b' γ h1 h2 _ _ h3 h4 h5 => s8 x hx y hy b β b' γ h1 h2 h3 h4 h5) φ.le_refl (fun _ => Nat.le_refl _) hv (.refl _)
      unfold wpOpIn
      have hoa : ops.toArray[e.i]? = some o := by rw [List.getElem?_toArray]; exact ho
      simp only [hoa]
      have hwant : Runs C ops o e.t → Region.wanted o (yielded ops.toArray a.tmps) = true := fun hr => by
        rcases hr with h | ⟨j, w1, g, h1, h2, h3⟩
        · unfold Region.wanted; rw [h]
        · exact (hgrd h1 h2).1 h3
      cases hkk : e.k with
      | skip =>
        rw [hkk] at hk
        obtain ⟨⟨j, w1, g, h1, h2, h3⟩, hv, _⟩ := hk
        have hw : Region.wanted o (yielded ops.toArray a.tmps) = false := by
          obtain ⟨_, g2, g3⟩ := hgrd h1 h2
          rcases h3 with h3 | ⟨b, hb, h3⟩
          · exact g2 h3
          · exact g3 b hb h3
        rw [hw, if_neg (by simp)]
        exact ⟨fun _ _ => trivial, stay (by rw [hkk]; simp) (by rw [hkk]; simp) (by rw [hv]; exact .undef)⟩
      | rd =>
        rw [hkk] at hk
        obtain ⟨hruns, hsσ, hdf, hrd⟩ := hk
        rw [if_pos (hwant hruns)]
        obtain ⟨q2, hpp, hqq⟩ := hpre (by rw [hkk]; simp)
        have hch : Chain e.t' e.σ' (q2 ++ rest) tN σN := by rw [← hqq]; exact hsplit.2.2.2
        have hlat := TailOK.at (p := p) (by rw [← htr]; exact pl.tail) hkk
        rw [hqq] at hlat
        have hrd' : RdOK P C e.t .nil (hAt rest σN) o true e.v := later_at ho q2 rest _ _ tN σN hch hlat (by rw [hsσ]; exact hrd) fun x hx hxk => by
          apply Classical.byContradiction
          intro hb
          have := hdown x.i (s1 x (by rw [hpp]; simp [hx]) hxk) e.i (by simpa using hb)
          rw [hun'] at this; cases this
        obtain ⟨r, h1, h2⟩ := hrd' (fun _ => rfl) (fun _ => s4) hevo
        refine ⟨fun _ _ => trivial, ?_⟩
        rw [Oper.semAt_eq _ _ _ hdf, h1, Oper.uponIn_value]
        exact stay (by rw [hkk]; simp) (by rw [hkk]; simp) h2
      | al blk β =>
        rw [hkk] at hk
        obtain ⟨hruns, hβ, hmade, holds, hdf, mk, hv, hal⟩ := hk
        rw [if_pos (hwant hruns)]
        obtain ⟨q2, hpp, hqq⟩ := hpre (by rw [hkk]; simp)
        obtain ⟨b1, b2, b3, b4⟩ := s6 e (by rw [hpp]; simp) blk β hkk hun'
        obtain ⟨r, w', obj, c1, c2, c3, c4, c5, c6⟩ := hal hevo
        obtain ⟨d1, d2⟩ := c6 β b1
        have hBh : B.le w.heap.size := Fz.le_trans hB s5.size
        have hrel := s4.push obj hBh b1 b3 b4 holds d1
        refine ⟨fun _ _ => trivial, ?_⟩
        rw [Oper.semAt_eq _ _ _ hdf, c1, Oper.uponIn_value]
        have hcs : ∀ b, csz w.heap b ≤ csz w'.heap b := fun b => by rw [c2]; exact csz_push _ _ _
        refine step (φ' := φ.put β (w.heap.size, 0)) hpr (fun x hx hxk _ => s1 x hx hxk) (fun x hx => ⟨u2 x (by rw [hqq]; simp [hx]), s2 x hx⟩) s3 (by rw [c2]; exact hrel) ?_ ?_ (fun x hx y hy b β b' γ h1 h2 _ _ h3 h4 h5 => s8 x hx y hy b β b' γ h1 h2 h3 h4 h5) (Emb.put_le b1) hcs (by rw [hv, c2]; exact d2) ⟨c3, c4, c5⟩
        · refine ⟨Emb.le_trans s5.le (Emb.put_le b1), s5.nx, fun γ y h1 h2 => ?_, s5.frame, by rw [c2]; simp; exact Nat.le_succ_of_le s5.size, fun b => Nat.le_trans (s5.csz b) (hcs b), fun b hb => ?_⟩
          · rcases Emb.put_inv h1 with ⟨rfl, _⟩ | ⟨_, h1⟩
            · exact b2
            · exact s5.new γ y h1 h2
          · rw [c2, push_old _ (hBh b hb)]; exact s5.low b hb
        · intro x hx blk' β' hxk hxe hl
          obtain ⟨g1, g2, g3, g4⟩ := s6 x hx blk' β' hxk hl
          refine ⟨?_, g2, g3, g4⟩
          cases hphi : φ.put β (w.heap.size, 0) β' with
          | none => rfl
          | some y =>
            exfalso
            rcases Emb.put_inv hphi with ⟨e1, _⟩ | ⟨_, e1⟩
            · exact s8 x hx e (by rw [hpp]; simp) blk' β' blk β hxk hkk hl hun' hxe e1
            · rw [g1] at e1; cases e1
      | wr =>
        rw [hkk] at hk
        obtain ⟨hruns, hisw, hdf, hop⟩ := hk
        rw [if_pos (hwant hruns)]
        -- it is the first one that has not come
        have hrest : rest = e :: q ∧ pre = p := by
          have hin : e ∈ rest := by
            have : e ∈ pre ++ rest := by rw [← hpr]; exact hm
            rcases List.mem_append.1 this with h | h
            · rw [s1 e h hkk] at hun'; cases hun'
            · exact h
          obtain ⟨r1, r2, hre⟩ := List.append_of_mem hin
          cases r1 with
          | nil =>
            have heq : pre ++ e :: r2 = p ++ e :: q := by rw [← htr, hpr, hre]; rfl
            have huq := pl.uniq pre e r2 (by rw [heq]; exact htr)
            obtain ⟨h1, h2⟩ := split_uniq _ _ e _ _ rfl heq huq.1 u1
            exact ⟨by rw [hre, h2]; rfl, h1⟩
          | cons y r1 =>
            exfalso
            have hyk := s3 y (r1 ++ e :: r2) (by simpa using hre)
            have hyl := s2 y (by rw [hre]; simp)
            have := pl.wrb (pre ++ y :: r1) e r2 (by rw [hpr, hre]; simp) y (by simp) hyk
            rw [hup y.i this] at hyl; cases hyl
        obtain ⟨hr1, hp1⟩ := hrest
        have hσ : hAt rest σN = e.σ := by rw [hr1]; rfl
        rw [hσ] at s4 s5 s6
        have hBh : B.le w.heap.size := Fz.le_trans hB s5.size
        refine NextOK.wp hdf (hop (fun _ => rfl) (fun _ => rfl) s4 hBh hevo) fun r w' hdid => ?_
        obtain ⟨φ', r1, x1, v1, o1, o2, o3⟩ := hdid
        obtain ⟨p2, r2, hqs, hnw, hr2⟩ := first_wr q
        have hch2 : Chain e.t' e.σ' (p2 ++ r2) tN σN := by rw [← hqs]; exact hsplit.2.2.2
        obtain ⟨f1, f2, f3, f4⟩ := chain_frame p2 _ _ _ _ (Chain.split hch2).1 (fun x hx => pl.ent x (by rw [htr, hqs]; simp [hx])) hnw
        have hrel : Rel P B φ' (hAt r2 σN) w'.heap := r1.frame (fun β y hy => f2 β (r1.fresh β y hy)) f1
        have hext : Ext B φ σ0 w0.heap φ σ0 w0.heap := .refl _ _ _ _
        have hx2 : Ext B φ' e.σ' w'.heap φ' (hAt r2 σN) w'.heap := ⟨φ'.le_refl, f1, fun β y h1 h2 => absurd (h2.symm.trans h1) (by simp), fun β h1 h2 => .inl (f2 β h2), Nat.le_refl _, fun _ => Nat.le_refl _, fun _ _ => rfl⟩
        have hxall := s5.trans (x1.trans hx2)
        refine step (pre' := p ++ e :: p2) (rest' := r2) (by rw [htr, hqs]; simp) ?_ ?_ hr2 hrel hxall ?_ ?_ x1.le x1.csz v1 ⟨o1, o2, o3⟩
        · intro x hx hxk hxe
          rcases List.mem_append.1 hx with h | h
          · exact s1 x (by rw [hp1]; exact h) hxk
          · rcases List.mem_cons.1 h with rfl | h
            · exact absurd rfl hxe
            · exact absurd hxk (hnw x h)
        · intro x hx
          exact ⟨u2 x (by rw [hqs]; simp [hx]), s2 x (by rw [hr1, hqs]; simp [hx])⟩
        · intro x hx blk β hxk hxe hl
          rcases List.mem_append.1 hx with h | h
          · obtain ⟨g1, g2, g3, g4⟩ := s6 x (by rw [hp1]; exact h) blk β hxk hl
            have hn : φ' β = none := by
              cases hφ : φ' β with
              | none => rfl
              | some y => have := x1.new β y hφ g1; omega
            have hnx := x1.nx
            refine ⟨hn, g2, by omega, ?_⟩
            rw [f2 β (by omega)]
            have hold : blk.olds = [] := by
              obtain ⟨_, _, _, _, hk0⟩ := pl.ent x (by rw [hpr, hp1]; simp [h])
              rw [hxk] at hk0
              exact hk0.2.2.2.1
            rcases x1.frame β g1 g3 with e0 | ⟨k0, e1, e2⟩
            · rw [e0]; exact g4
            · rw [g4] at e1; cases e1; exact absurd hold e2
          · rcases List.mem_cons.1 h with rfl | h
            · exact absurd rfl hxe
            · obtain ⟨g1, g2, g3⟩ := f3 x h blk β hxk
              have hn : φ' β = none := by
                cases hφ : φ' β with
                | none => rfl
                | some y => have := r1.fresh β y hφ; omega
              have h1 := s5.nx
              have h2 := x1.nx
              exact ⟨hn, by omega, g2, g3⟩
        · intro x hx y hy b β b' γ hxk hyk hxe hye hxl hyl hne
          have old : ∀ z ∈ p, ∀ bb ββ, z.k = .al bb ββ → Lf listed z.i = false → ββ.toNat < e.σ.nx.toNat := fun z hz bb ββ hzk hzl => (s6 z (by rw [hp1]; exact hz) bb ββ hzk hzl).2.2.1
          have h2 := x1.nx
          rcases List.mem_append.1 hx with h | h
          · rcases List.mem_append.1 hy with g | g
            · exact s8 x (by rw [hp1]; exact h) y (by rw [hp1]; exact g) b β b' γ hxk hyk hxl hyl hne
            · rcases List.mem_cons.1 g with rfl | g
              · exact absurd rfl hye
              · have := old x h b β hxk hxl
                have := (f3 y g b' γ hyk).1
                rintro rfl; omega
          · rcases List.mem_cons.1 h with rfl | h
            · exact absurd rfl hxe
            · rcases List.mem_append.1 hy with g | g
              · have := old y g b' γ hyk hyl
                have := (f3 x h b β hxk).1
                rintro rfl; omega
              · rcases List.mem_cons.1 g with rfl | g
                · exact absurd rfl hye
                · exact f4 x h y g b β b' γ hxk hyk hne
end
end Go.Am
