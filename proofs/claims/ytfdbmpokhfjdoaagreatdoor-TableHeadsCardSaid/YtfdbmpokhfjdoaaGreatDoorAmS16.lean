import Derived.Test.YtfdbmpokhfjdoaaGreatDoorAmS15
set_option linter.unusedVariables false
set_option linter.unusedSimpArgs false
/-! Soundness, 16: maps that are written; append of noughts. -/
namespace Go.Am
open Go
theorem perm_eraseIdx {α : Type} : ∀ {l : List α} {i : Nat} (hi : i < l.length), (l[i] :: l.eraseIdx i).Perm l
  | a :: l, 0, _ => List.Perm.refl _
  | a :: l, i + 1, hi => by
    have h := perm_eraseIdx (l := l) (i := i) (by simpa using hi)
    rw [List.getElem_cons_succ, List.eraseIdx_cons_succ]
    exact (List.Perm.swap _ _ _).trans (h.cons a)
theorem perm_set {l : List (AV × AV)} {i : Nat} (hi : i < l.length) {a u v : AV} {p1 p2 : List (AV × AV)} (hp : l.Perm (p1 ++ (a, u) :: p2)) (hnd : ((p1 ++ (a, u) :: p2).map (·.1)).Nodup) (ha : l[i].1 = a) :
    (l.eraseIdx i).Perm (p1 ++ p2) ∧ (l.set i (a, v)).Perm (p1 ++ (a, v) :: p2) := by
  have e0 : l[i] = (a, u) := by
    have m1 : l[i] ∈ p1 ++ (a, u) :: p2 := hp.mem_iff.1 (List.getElem_mem hi)
    simp only [List.map_append, List.map_cons, List.nodup_append, List.nodup_cons, List.mem_append, List.mem_cons] at hnd m1
    rcases m1 with m1 | m1 | m1
    · exact absurd rfl (hnd.2.2 _ (List.mem_map.2 ⟨_, m1, ha⟩) _ (.inl rfl))
    · exact m1
    · exact absurd (List.mem_map.2 ⟨_, m1, ha⟩) hnd.2.1.1
  have h1 : (l[i] :: l.eraseIdx i).Perm l := perm_eraseIdx hi
  have h2 : (l.eraseIdx i).Perm (p1 ++ p2) := by
    rw [e0] at h1
    exact ((h1.trans hp).trans List.perm_middle).cons_inv
  refine ⟨h2, ?_⟩
  have hi' : i < (l.set i (a, v)).length := by simpa using hi
  have h3 := perm_eraseIdx hi'
  rw [List.getElem_set_self, List.eraseIdx_set_eq] at h3
  exact (h3.symm.trans (h2.cons _)).trans List.perm_middle.symm
theorem sameBits_s {φ : Emb} {κ : Nat → Nat} {a : AV} {x y : Value} (ha : keySort a ≠ none) (hx : VR φ κ a x) (hy : VR φ κ a y) : Instr.sameBits 10000 x y = true := by
  cases a <;> simp only [keySort, ne_eq, not_true_eq_false] at ha
  · cases hx; cases hy; simp [Instr.sameBits]
  · cases hx; cases hy; simp [Instr.sameBits]
  · obtain ⟨s, rfl, h1, h2⟩ := hx.str_inv
    obtain ⟨r, rfl, h3, h4⟩ := hy.str_inv
    have : s = r := ba_ext (packL_inj (h1.trans h3.symm) (h2.trans h4.symm))
    subst this
    show (s == s) = true
    rw [ba_beq]
theorem csz_map {h : Array Obj} {b : Nat} {es : Array MapEntry} {cl : Nat} (hb : h[b]? = some (.map es cl)) {es' : Array MapEntry} {cl' : Nat} (b' : Nat) : csz h b' ≤ csz (hset h b (.map es' cl')) b' := by
  by_cases hbb : b' = b
  · subst hbb; simp only [csz, hset_self hb, hb]; exact Nat.le_refl _
  · simp only [csz, hset_ne hbb]; exact Nat.le_refl _
theorem Rel.setMap {P : Program} {B : Fz} {φ : Emb} {σ : Hp} {h : Array Obj} (r : Rel P B φ σ h) {β : Ad} {b : Nat} {m m' : AMap} {es es' : Array MapEntry} {cl cl' : Nat} (hβ : φ β = some (b, 0)) (hk : σ.get β = some (.mp m)) (hw : h[b]? = some (.map es cl)) (hm : MR φ (Am.csz h) m' es' cl') :
    Rel P B φ (σ.set β (.mp m')) (hset h b (.map es' cl')) ∧ Ext B φ σ h φ (σ.set β (.mp m')) (hset h b (.map es' cl')) := by
  refine r.change hβ hk (fun h => h) (fun h => h) false (k' := .mp m') (fun γ => ?_) rfl rfl (fun _ => rfl) (by simp) (csz_map hw) (fun b' hb' => hset_ne hb') ?_ ?_
  · rw [Hp.get_set]; simp
  · exact .mp _ _ es' cl' (hset_self hw) (hm.mono φ.le_refl (csz_map hw))
  · intro _ γ d' g hm; cases hm
theorem run_setObj_map {P : Program} {w : World} {b : Nat} {es es' : Array MapEntry} {cl cl' : Nat} (h : w.heap[b]? = some (.map es cl)) : (setObj b (.map es' cl')).run P w = .ok () { w with heap := hset w.heap b (.map es' cl') } := by
  simp only [setObj, Sem.run, h]; rfl
theorem MR.upd {φ : Emb} {κ : Nat → Nat} {m m' : AMap} {es : Array MapEntry} {cl : Nat} (h : MR φ κ m es cl) {a u v : AV} {p1 p2 : List (AV × AV)} (h1 : m.toL = p1 ++ (a, u) :: p2) (h2 : m'.toL = p1 ++ (a, v) :: p2)
    {i : Nat} {l : List (AV × AV)} (hl : i < l.length) (hp : l.Perm m.toL) (hls : l.length = es.size) (hr : ∀ i (h : i < l.length) (h' : i < es.size), VR φ κ l[i].1 es[i].key ∧ VR φ κ l[i].2 es[i].val) (ha : l[i].1 = a)
    {kv vv : Value} (hkv : VR φ κ a kv) (hvv : VR φ κ v vv) : MR φ κ m' (es.modify i fun e => { e with key := kv, val := vv }) cl := by
  have hnd := h.nodup
  rw [h1] at hnd hp
  obtain ⟨_, q2⟩ := perm_set (v := v) hl hp hnd ha
  refine ⟨⟨l.set i (a, v), by rw [h2]; exact q2, by simp [hls], fun j hj hj' => ?_⟩, ?_, by rw [h2]; simpa using hnd, ?_⟩
  · simp only [List.length_set] at hj
    have hj2 : j < es.size := by omega
    rw [Array.getElem_modify]
    by_cases hij : i = j
    · subst hij; simp; exact ⟨hkv, hvv⟩
    · rw [if_neg hij, List.getElem_set_ne hij]; exact hr j hj hj2
  · obtain ⟨s, hs⟩ := h.sort
    refine ⟨s, fun p hp => ?_⟩
    rw [h2] at hp
    rw [h1] at hs
    simp only [List.mem_append, List.mem_cons] at hp hs
    rcases hp with hp | rfl | hp
    · exact hs _ (.inl hp)
    · exact hs (a, u) (.inr (.inl rfl))
    · exact hs _ (.inr (.inr hp))
  · have hb : (es.modify i fun e => { e with key := kv, val := vv }).toList.map (·.born) = es.toList.map (·.born) := by
      apply List.ext_getElem?
      intro j
      simp only [List.getElem?_map, Array.getElem?_toList, Array.getElem?_modify]
      by_cases hij : i = j
      · subst hij; cases es[i]? <;> simp
      · simp [hij]
    refine ⟨by rw [hb]; exact h.born.1, fun e he => ?_⟩
    have : e.born ∈ es.toList.map (·.born) := by rw [← hb]; exact List.mem_map_of_mem he
    obtain ⟨e', h3, h4⟩ := List.mem_map.1 this
    rw [← h4]; exact h.born.2 e' h3
theorem MR.push {φ : Emb} {κ : Nat → Nat} {m m' : AMap} {es : Array MapEntry} {cl : Nat} (h : MR φ κ m es cl) {a v : AV} {o : Option IntKind} (ha : keySort a = some o) (h1 : ∀ p ∈ m.toL, p.1 ≠ a ∧ keySort p.1 = keySort a) (h2 : m'.toL = m.toL ++ [(a, v)])
    {kv vv : Value} (hkv : VR φ κ a kv) (hvv : VR φ κ v vv) : MR φ κ m' (es.push { key := kv, val := vv, born := cl }) (cl + 1) := by
  obtain ⟨l, hp, hls, hr⟩ := h.ent
  refine ⟨⟨l ++ [(a, v)], by rw [h2]; exact hp.append_right _, by simp [hls], fun j hj hj' => ?_⟩, ⟨o, fun p hp => ?_⟩, ?_, ?_⟩
  · simp only [List.length_append, List.length_singleton] at hj
    by_cases hjl : j < l.length
    · rw [List.getElem_append_left hjl, Array.getElem_push_lt (by omega)]; exact hr j hjl (by omega)
    · obtain rfl : j = es.size := by omega
      rw [List.getElem_append_right (by omega), Array.getElem_push_eq]
      simp [hls]; exact ⟨hkv, hvv⟩
  · rw [h2] at hp
    rcases List.mem_append.1 hp with hp | hp
    · rw [(h1 p hp).2]; exact ha
    · rw [List.mem_singleton.1 hp]; exact ha
  · rw [h2, List.map_append, List.nodup_append]
    refine ⟨h.nodup, by simp, fun x hx y hy => ?_⟩
    obtain ⟨p, hp, rfl⟩ := List.mem_map.1 hx
    simp only [List.map_cons, List.map_nil, List.mem_singleton] at hy
    subst hy
    exact (h1 p hp).1
  · rw [Array.toList_push, List.map_append, List.nodup_append]
    refine ⟨⟨h.born.1, by simp, fun x hx y hy => ?_⟩, fun e he => ?_⟩
    · obtain ⟨e, he, rfl⟩ := List.mem_map.1 hx
      simp only [List.map_cons, List.map_nil, List.mem_singleton] at hy
      subst hy
      have := h.born.2 e he
      omega
    · rcases List.mem_append.1 he with he | he
      · have := h.born.2 e he; omega
      · rw [List.mem_singleton.1 he]; exact Nat.lt_succ_self _
theorem MR.del {φ : Emb} {κ : Nat → Nat} {m m' : AMap} {es : Array MapEntry} {cl : Nat} (h : MR φ κ m es cl) {a u : AV} {p1 p2 : List (AV × AV)} (h1 : m.toL = p1 ++ (a, u) :: p2) (h2 : m'.toL = p1 ++ p2)
    {i : Nat} {l : List (AV × AV)} (hl : i < l.length) (hp : l.Perm m.toL) (hls : l.length = es.size) (hr : ∀ i (h : i < l.length) (h' : i < es.size), VR φ κ l[i].1 es[i].key ∧ VR φ κ l[i].2 es[i].val) (ha : l[i].1 = a) :
    MR φ κ m' (es.eraseIdxIfInBounds i) cl := by
  have hnd := h.nodup
  have hie : i < es.size := by omega
  rw [h1] at hnd hp
  obtain ⟨q1, _⟩ := perm_set (v := a) hl hp hnd ha
  have he : es.eraseIdxIfInBounds i = es.eraseIdx i hie := by simp [Array.eraseIdxIfInBounds, hie]
  rw [he]
  have htl : (es.eraseIdx i hie).toList = es.toList.eraseIdx i := by simp
  have hsz : (es.eraseIdx i hie).size = es.size - 1 := by simp
  refine ⟨⟨l.eraseIdx i, by rw [h2]; exact q1, by rw [List.length_eraseIdx_of_lt hl, hsz, hls], fun j hj hj' => ?_⟩, ?_, ?_, ?_⟩
  · rw [List.length_eraseIdx_of_lt hl] at hj
    rw [← Array.getElem_toList]
    simp only [htl, List.getElem_eraseIdx]
    by_cases hji : j < i
    · simp only [hji, dif_pos, Array.getElem_toList]; exact hr j (by omega) (by omega)
    · simp only [hji, dif_neg, not_false_eq_true, Array.getElem_toList]; exact hr (j + 1) (by omega) (by omega)
  · obtain ⟨s, hs⟩ := h.sort
    refine ⟨s, fun p hp => hs p ?_⟩
    rw [h2] at hp; rw [h1]
    simp only [List.mem_append, List.mem_cons] at hp ⊢
    rcases hp with hp | hp
    · exact .inl hp
    · exact .inr (.inr hp)
  · rw [h2]
    refine List.Nodup.sublist ?_ hnd
    exact List.Sublist.map _ (List.Sublist.append (List.Sublist.refl _) (List.sublist_cons_self _ _))
  · rw [htl]
    exact ⟨List.Nodup.sublist (List.Sublist.map _ (List.eraseIdx_sublist _ _)) h.born.1, fun e he => h.born.2 e ((List.eraseIdx_sublist _ _).mem he)⟩
section
variable {P : Program} {t : Regs} {ls : Ls} {σ : Hp} {k : KV} {ih : Lv}
theorem wMapup_s {s : Bool} {M K E : TypeId} {m key v : OpdF} (hk : wMapup s m key v ih t ls σ k = true) (hM : P.underlying M = some (.map K E)) (hK : keyOk P K = some s) :
    ∃ u σ', k u σ' = true ∧ u = .undef ∧ ∀ {B φ w mv kv vv}, Rel P B φ σ w.heap → VR φ (csz w.heap) (m t ls) mv → VR φ (csz w.heap) (key t ls) kv → VR φ (csz w.heap) (v t ls) vv → WrU P B φ σ w σ' (Instr.mapUpdate M mv kv vv) := by
  obtain ⟨hk1, o, ho, hs⟩ := keyK_true hk
  obtain ⟨d, hd, hso⟩ := keyOk_sort hK hs
  rcases AV.asMp_true hk1 with ⟨_, h⟩ | ⟨β, hm, hk2⟩
  · cases h
  obtain ⟨mm, hg, hk3⟩ := Hp.mpK_true hk2
  obtain ⟨m', hk4, hm'⟩ := putK_true hk3
  rw [Hp.setK_eq] at hk4
  refine ⟨_, _, hk4, rfl, fun {B φ w mv kv vv} r hmv hkv hvv => ?_⟩
  rw [hm] at hmv
  cases hmv with
  | map _ b hβ =>
    obtain ⟨_, es, cl, hw, hmr⟩ := r.map hβ hg
    have hck : (Instr.checkKey false 10000 K kv).run P w = .ok () w := checkKey_run hd hso
    have hsort : ∀ p ∈ mm.toL, keySort p.1 = some o := by
      rcases hm' with ⟨p1, u, p2, h1, h2⟩ | ⟨h1, h2⟩
      · obtain ⟨s', hs'⟩ := hmr.sort
        have e1 := hs' (key t ls, u) (by rw [h1]; simp)
        rw [ho] at e1; cases e1
        exact hs'
      · exact fun p hp => by rw [(h1 p hp).2]; exact ho
    rcases hmr.find hkv ho hso hsort with ⟨i, hi, l, hl, hp, hls, hr, ha, hf⟩ | ⟨hno, hf⟩
    · rcases hm' with ⟨p1, u, p2, h1, h2⟩ | ⟨h1, h2⟩
      · have hmr' := hmr.upd h1 h2 hl hp hls hr ha hkv hvv
        obtain ⟨r', x'⟩ := r.setMap hβ hg hw hmr'
        refine ⟨{ w with heap := hset w.heap b (.map (es.modify i fun e => { e with key := kv, val := vv }) cl) }, ?_, φ, r', x', .undef, rfl, rfl, rfl⟩
        have hsame : Instr.sameBits 10000 es[i].key kv = true := sameBits_s (a := key t ls) (by rw [ho]; simp) (by have := (hr i hl hi).1; rwa [ha] at this) hkv
        have hset' := run_setObj_map (P := P) (es' := es.modify i fun e => { e with key := kv, val := vv }) (cl' := cl) hw
        simp [Instr.mapUpdate, underlying, hM, run_getObj_map hw, hck, Instr.findKey, hd, hf, Instr.keyThatStays, hi, hsame, hset']
      · exact absurd ha (h1 _ (hp.mem_iff.1 (List.getElem_mem hl))).1
    · rcases hm' with ⟨p1, u, p2, h1, h2⟩ | ⟨h1, h2⟩
      · exact absurd rfl (hno (key t ls, u) (by rw [h1]; simp))
      · have hmr' := hmr.push ho h1 h2 hkv hvv
        obtain ⟨r', x'⟩ := r.setMap hβ hg hw hmr'
        refine ⟨{ w with heap := hset w.heap b (.map (es.push { key := kv, val := vv, born := cl }) (cl + 1)) }, ?_, φ, r', x', .undef, rfl, rfl, rfl⟩
        have hset' := run_setObj_map (P := P) (es' := es.push { key := kv, val := vv, born := cl }) (cl' := cl + 1) hw
        simp [Instr.mapUpdate, underlying, hM, run_getObj_map hw, hck, Instr.findKey, hd, hf, hset']
theorem MR.same {φ : Emb} {κ : Nat → Nat} {m m' : AMap} {es : Array MapEntry} {cl : Nat} (h : MR φ κ m es cl) (he : m'.toL = m.toL) : MR φ κ m' es cl :=
  ⟨by rw [he]; exact h.ent, by rw [he]; exact h.sort, by rw [he]; exact h.nodup, h.born⟩
theorem wDelete_s {s : Bool} {M K E ty : TypeId} {m key : OpdF} (hk : wDelete s m key ih t ls σ k = true) (hM : P.underlying M = some (.map K E)) (hK : keyOk P K = some s) {ts : Array TypeId} (hts : ts[0]? = some M) :
    ∃ u σ', k u σ' = true ∧ u = .undef ∧ ∀ {B φ w mv kv}, Rel P B φ σ w.heap → VR φ (csz w.heap) (m t ls) mv → VR φ (csz w.heap) (key t ls) kv → WrV P B φ σ w .undef σ' (Builtin.delete_ ts ty #[mv, kv]) := by
  obtain ⟨hk1, o, ho, hs⟩ := keyK_true hk
  obtain ⟨d, hd, hso⟩ := keyOk_sort hK hs
  rcases AV.asMp_true hk1 with ⟨hm, hk2⟩ | ⟨β, hm, hk2⟩
  · refine ⟨_, σ, hk2, rfl, fun {B φ w mv kv} r hmv hkv => ⟨.tuple #[], w, ?_, φ, r, .refl _ _ _ _, .undef, rfl, rfl, rfl⟩⟩
    rw [hm] at hmv
    cases hmv
    have hck : (Instr.checkKey true 10000 K kv).run P w = .ok () w := checkKey_run hd hso
    simp [Builtin.delete_, hts, underlying, hM, hck]
  obtain ⟨mm, hg, hk3⟩ := Hp.mpK_true hk2
  obtain ⟨m', hk4, hm'⟩ := delK_true hk3
  rw [Hp.setK_eq] at hk4
  refine ⟨_, _, hk4, rfl, fun {B φ w mv kv} r hmv hkv => ?_⟩
  rw [hm] at hmv
  cases hmv with
  | map _ b hβ =>
    obtain ⟨_, es, cl, hw, hmr⟩ := r.map hβ hg
    have hck : (Instr.checkKey es.isEmpty 10000 K kv).run P w = .ok () w := checkKey_run hd hso
    have hsort : ∀ p ∈ mm.toL, keySort p.1 = some o := by
      rcases hm' with ⟨p1, u, p2, h1, h2⟩ | ⟨h1, h2⟩
      · obtain ⟨s', hs'⟩ := hmr.sort
        have e1 := hs' (key t ls, u) (by rw [h1]; simp)
        rw [ho] at e1; cases e1
        exact hs'
      · exact fun p hp => by rw [(h1 p hp).2]; exact ho
    rcases hmr.find hkv ho hso hsort with ⟨i, hi, l, hl, hp, hls, hr, ha, hf⟩ | ⟨hno, hf⟩
    · rcases hm' with ⟨p1, u, p2, h1, h2⟩ | ⟨h1, h2⟩
      · have hmr' := hmr.del h1 h2 hl hp hls hr ha
        obtain ⟨r', x'⟩ := r.setMap hβ hg hw hmr'
        refine ⟨.tuple #[], { w with heap := hset w.heap b (.map (es.eraseIdxIfInBounds i) cl) }, ?_, φ, r', x', .undef, rfl, rfl, rfl⟩
        have hset' := run_setObj_map (P := P) (es' := es.eraseIdxIfInBounds i) (cl' := cl) hw
        have hfk : (Instr.findKey K kv es.toList).run P w = .ok (some (i, es[i].val)) w := by simp [Instr.findKey, underlying, hd, hf]
        simp only [Builtin.delete_, hts, underlying, hM, run_getObj_map hw, hck, hfk, hset', Sem.run_bind, run_program, Result.andThen_ok, Sem.run_pure, List.getElem?_toArray, List.getElem?_cons_zero, List.getElem?_cons_succ]
      · exact absurd ha (h1 _ (hp.mem_iff.1 (List.getElem_mem hl))).1
    · rcases hm' with ⟨p1, u, p2, h1, h2⟩ | ⟨h1, h2⟩
      · exact absurd rfl (hno (key t ls, u) (by rw [h1]; simp))
      · have hmr' := hmr.same h2
        obtain ⟨r', x'⟩ := r.setMap hβ hg hw hmr'
        refine ⟨.tuple #[], { w with heap := hset w.heap b (.map es cl) }, ?_, φ, r', x', .undef, rfl, rfl, rfl⟩
        have hset' := run_setObj_map (P := P) (es' := es) (cl' := cl) hw
        have hfk : (Instr.findKey K kv es.toList).run P w = .ok none w := by simp [Instr.findKey, underlying, hd, hf]
        simp only [Builtin.delete_, hts, underlying, hM, run_getObj_map hw, hck, hfk, hset', Sem.run_bind, run_program, Result.andThen_ok, Sem.run_pure, List.getElem?_toArray, List.getElem?_cons_zero, List.getElem?_cons_succ]
theorem zeroCells_get {zc : Array Value} {n j : Nat} (hj : j < n * zc.size) : (Builtin.zeroCells zc n)[j]? = some (zc[j % zc.size]!) := by
  simp only [Builtin.zeroCells]; exact range_map_get hj
theorem wAppZ_s {T U E ty : TypeId} {es lim : Nat} {z : AV} {s x : OpdF} {q : IntKind} (hes : 0 < es) (hk : wAppZ es lim z s x ih t ls σ k = true) (hT : P.underlying T = some (.slice E)) (hU : P.underlying U = some (.int q)) (hE : szz P E = some es) (hl : limOf P E = some lim) (hzr : zRope P E = some z) :
    ∃ v σ', k v σ' = true ∧ ∀ {B φ w sv xv}, Rel P B φ σ w.heap → B.le w.heap.size → VR φ (csz w.heap) (s t ls) sv → VR φ (csz w.heap) (x t ls) xv → WrV P B φ σ w v σ' (Builtin.append_ #[T, U] ty #[sv, xv]) := by
  obtain ⟨i, zv, hi, his, hz, hzs, hzo⟩ := szz_inv hE
  have hcz : ∀ φ κ, CR φ κ z zv.cells.toList := fun φ κ => by
    unfold zRope at hzr
    rw [hzo] at hzr
    exact ropeOf_s _ _ _ hzr φ κ
  obtain ⟨q', m, hx, hk1⟩ := AV.asNat_true hk
  rw [sel_true_iff] at hk1
  rcases hk1 with ⟨h0, hk2⟩ | ⟨h0, hk2⟩
  · have hm : m = 0 := Nat.eq_of_beq_eq_true h0
    have hkk : k (s t ls) σ = true ∧ (s t ls = .snil ∨ ∃ β off len ex c es', s t ls = .slice β off len ex c es') := by
      rcases AV.asSl_true hk2 with ⟨h1, h2⟩ | ⟨β, off, len, ex, c, es', h1, h2⟩
      · exact ⟨h2, .inl h1⟩
      · exact ⟨h2, .inr ⟨_, _, _, _, _, _, h1⟩⟩
    refine ⟨_, σ, hkk.1, fun {B φ w sv xv} r hB hsv hxv => ?_⟩
    subst hm
    rw [hx] at hxv; cases hxv
    refine ⟨sv, w, ?_, φ, r, .refl _ _ _ _, hsv, rfl, rfl, rfl⟩
    have hsl : ∃ a len c, sv = .slice a len c ∧ len ≤ c := by
      rcases hkk.2 with h1 | ⟨β, off, len, ex, c, es', h1⟩ <;> rw [h1] at hsv
      · cases hsv; exact ⟨_, _, _, rfl, Nat.le_refl _⟩
      · cases hsv with
        | slice _ _ _ _ _ _ b d c' hβ hx hc hl hr => exact ⟨_, _, _, rfl, by omega⟩
        | slice0 => exact ⟨_, _, _, rfl, Nat.le_refl _⟩
    obtain ⟨a, len, c, rfl, hle⟩ := hsl
    have hw0 : IntKind.i64.wrap (0 : Int) = 0 := by decide
    unfold Builtin.append_
    cases a <;> simp [underlying, sizeOf, typeInfo, asInt, asIntOf, hT, hU, hi, hw0, hle, storeCells]
  · have hm : 0 < m := by
      rcases Nat.eq_zero_or_pos m with h | h
      · subst h; simp at h0
      · exact h
    obtain ⟨h1, hk3⟩ := sel_yes hk2
    have hml : m ≤ lim := Nat.le_of_ble_eq_true h1
    obtain ⟨src, hk4, hsrc⟩ := AV.repK_true hk3
    obtain ⟨v, σ', hk5, happ⟩ := appendK_sound hes hm hk4
    refine ⟨v, σ', hk5, fun {B φ w sv xv} r hB hsv hxv => ?_⟩
    rw [hx] at hxv; cases hxv
    obtain ⟨base, len, cap, rfl, ar⟩ := happ r hB sv hsv
    have hxl : (Builtin.zeroCells zv.cells m).toList.length = m * es := by rw [Array.length_toList, zeroCells_size, hzs]
    have hcr : CR φ (csz w.heap) src (Builtin.zeroCells zv.cells m).toList := fun j hj => by
      have hj' : j < m * es := by omega
      have hlt : j % es < zv.cells.toList.length := by rw [Array.length_toList, hzs]; exact Nat.mod_lt _ hes
      obtain ⟨u, p1, p2, p3⟩ := hcz φ (csz w.heap) (j % es) hlt
      refine ⟨u, by rw [hsrc j hj', p1], p2, ?_⟩
      have hg := zeroCells_get (zc := zv.cells) (n := m) (j := j) (by rw [hzs]; exact hj')
      rw [Array.getElem?_eq_getElem (by rw [Array.length_toList] at hj; exact hj)] at hg
      rw [Array.getElem_toList, Option.some.inj hg, hzs, getElem!_pos zv.cells _ (by rw [hzs]; exact Nat.mod_lt _ hes)]
      rw [Array.getElem_toList] at p3
      exact p3
    obtain ⟨hb0, hlimb⟩ := lim_ok hl hi (need := m) (cap := 0) hm hml hm
    have hmb : m * i.bytes ≤ 2 ^ 48 := by
      simp only [limOf, hi, Option.bind_some] at hl
      split at hl
      · cases hl
      · cases hl
        have : m ≤ 2 ^ 48 / i.bytes := by omega
        exact Nat.le_trans (Nat.mul_le_mul_right _ this) (Nat.div_mul_le_self _ _)
    have hlim48 : lim ≤ 2 ^ 48 := by
      simp only [limOf, hi, Option.bind_some] at hl
      split at hl
      · cases hl
      · cases hl
        have := Nat.div_le_self (2 ^ 48) i.bytes
        omega
    have hne : ¬ m * i.size = 0 := by
      rw [his]; exact Nat.pos_iff_ne_zero.1 (Nat.mul_pos hm hes)
    by_cases hfit : len + m ≤ cap
    · obtain ⟨b, o, cs, e, fz, rfl, g1, g2, g3, g4⟩ := ar.fits hfit
      obtain ⟨φ', r', x', hv⟩ := g4 _ hxl hcr
      refine ⟨_, { w with heap := hset w.heap b (.cells (putL cs (o + len * es) (Builtin.zeroCells zv.cells m).toList) e fz) }, run_appz_in (z := zv) hT hU hi hz rfl (by omega) hmb hne hfit b o _ ?_, φ', r', x', hv, rfl, rfl, rfl⟩
      rw [his]
      exact run_storeCells_am g1 _ (by omega) g3 hcr.one
    · obtain ⟨hlm, old, hread, hgr⟩ := ar.grows (by omega)
      obtain ⟨_, hnsc⟩ := lim_ok hl hi (need := len + m) (cap := cap) (by omega) hlm (by omega)
      obtain ⟨c', hc', hrun'⟩ := run_appz_new (P := P) (w := w) (ty := ty) (k' := q') (base := base) (old := old) (z := zv) (n := m) hT hU hi hz rfl (by omega) hmb hne hfit hb0 hnsc
        (fun w' hw' => by rw [his]; exact (show Reads w'.heap base (len * es) old by rw [hw']; exact hread).run rfl)
      obtain ⟨φ', r', x', hv⟩ := hgr _ hxl hcr c' E (Builtin.zeroCells zv.cells (c' - (len + m))).toList hc' (by rw [Array.length_toList, zeroCells_size, hzs])
      exact ⟨_, _, hrun', φ', r', x', hv, rfl, rfl, rfl⟩
theorem wClearM_s {T K E ty : TypeId} {x : OpdF} (hk : wClearM x ih t ls σ k = true) (hT : P.underlying T = some (.map K E)) {ts : Array TypeId} (hts : ts[0]? = some T) :
    ∃ u σ', k u σ' = true ∧ u = .undef ∧ ∀ {B φ w xv}, Rel P B φ σ w.heap → VR φ (csz w.heap) (x t ls) xv → WrV P B φ σ w .undef σ' (Builtin.clear_ ts ty #[xv]) := by
  rcases AV.asMp_true hk with ⟨hx, hk1⟩ | ⟨β, hx, hk1⟩
  · refine ⟨_, _, hk1, rfl, fun {B φ w xv} r hxv => ?_⟩
    rw [hx] at hxv; cases hxv
    exact ⟨.tuple #[], w, by simp [Builtin.clear_, hts, underlying, hT], φ, r, .refl _ _ _ _, .undef, rfl, rfl, rfl⟩
  · obtain ⟨m, hg, hk2⟩ := Hp.mpK_true hk1
    rw [Hp.setK_eq] at hk2
    refine ⟨_, _, hk2, rfl, fun {B φ w xv} r hxv => ?_⟩
    rw [hx] at hxv
    cases hxv with
    | map _ b hβ =>
      obtain ⟨g, hg', hbr⟩ := r.blk _ _ _ hβ
      rw [hg] at hg'; cases hg'
      cases hbr with
      | mp _ _ es cl hw hm =>
        obtain ⟨r', x'⟩ := r.setMap (m' := .nil) (es' := #[]) (cl' := cl) hβ hg hw ⟨⟨[], List.Perm.refl _, rfl, fun i h => absurd h (Nat.not_lt_zero _)⟩, ⟨none, fun p hp => by cases hp⟩, List.nodup_nil, List.nodup_nil, fun e he => by cases he⟩
        have hset' := run_setObj_map (P := P) (es' := #[]) (cl' := cl) hw
        refine ⟨.tuple #[], { w with heap := hset w.heap b (.map #[] cl) }, ?_, φ, r', x', .undef, rfl, rfl, rfl⟩
        simp only [Builtin.clear_, hts, underlying, hT, run_getObj_map hw, hset', Sem.run_bind, run_program, Result.andThen_ok, Sem.run_pure, List.getElem?_toArray, List.getElem?_cons_zero]
theorem wClear_s {T E ty : TypeId} {es : Nat} {z : AV} {x : OpdF} (hes : 0 < es) (hk : wClear es z x ih t ls σ k = true) (hT : P.underlying T = some (.slice E)) (hE : szz P E = some es) (hzr : zRope P E = some z) {ts : Array TypeId} (hts : ts[0]? = some T) :
    ∃ u σ', k u σ' = true ∧ u = .undef ∧ ∀ {B φ w xv}, Rel P B φ σ w.heap → VR φ (csz w.heap) (x t ls) xv → WrV P B φ σ w .undef σ' (Builtin.clear_ ts ty #[xv]) := by
  obtain ⟨i, zv, hi, his, hz, hzs, hzo⟩ := szz_inv hE
  have hcz : ∀ φ κ, CR φ κ z zv.cells.toList := fun φ κ => by
    unfold zRope at hzr
    rw [hzo] at hzr
    exact ropeOf_s _ _ _ hzr φ κ
  rcases AV.asSl_true hk with ⟨hx, hk1⟩ | ⟨β, off, len, ex, c, es', hx, hk1⟩
  · refine ⟨_, _, hk1, rfl, fun {B φ w xv} r hxv => ?_⟩
    rw [hx] at hxv; cases hxv
    exact ⟨.tuple #[], w, by simp [Builtin.clear_, hts, underlying, hT], φ, r, .refl _ _ _ _, .undef, rfl, rfl, rfl⟩
  · rw [sel_true_iff] at hk1
    rcases hk1 with ⟨h0, hk2⟩ | ⟨h0, hk2⟩
    · have hl0 : len = 0 := Nat.eq_of_beq_eq_true h0
      subst hl0
      refine ⟨_, _, hk2, rfl, fun {B φ w xv} r hxv => ?_⟩
      rw [hx] at hxv
      have : ∃ a c, xv = .slice (some a) 0 c := by cases hxv <;> exact ⟨_, _, rfl⟩
      obtain ⟨a, c', rfl⟩ := this
      exact ⟨.tuple #[], w, by simp [Builtin.clear_, hts, underlying, hT], φ, r, .refl _ _ _ _, .undef, rfl, rfl, rfl⟩
    · obtain ⟨_, hk3⟩ := sel_yes hk2
      obtain ⟨src, hk4, hsrc⟩ := AV.repK_true hk3
      obtain ⟨σ', hk5, hw⟩ := writeK_sound hk4
      refine ⟨_, σ', hk5, rfl, fun {B φ w xv} r hxv => ?_⟩
      rw [hx] at hxv
      have hlz : len ≠ 0 := fun h => by subst h; simp at h0
      cases hxv with
      | slice0 => exact absurd rfl hlz
      | slice _ _ _ _ _ _ b d c' hβ hx1 hc hll hr =>
        obtain ⟨cs, e, fz, q1, q2, q3, q4⟩ := hw r hβ
        have hxl : (Builtin.zeroCells zv.cells len).toList.length = len * es := by rw [Array.length_toList, zeroCells_size, hzs]
        have hcr : CR φ (csz w.heap) src (Builtin.zeroCells zv.cells len).toList := fun j hj => by
          have hj' : j < len * es := by omega
          have hlt : j % es < zv.cells.toList.length := by rw [Array.length_toList, hzs]; exact Nat.mod_lt _ hes
          obtain ⟨u, p1, p2, p3⟩ := hcz φ (csz w.heap) (j % es) hlt
          refine ⟨u, by rw [hsrc j hj', p1], p2, ?_⟩
          have hg := zeroCells_get (zc := zv.cells) (n := len) (j := j) (by rw [hzs]; exact hj')
          rw [Array.getElem?_eq_getElem (by rw [Array.length_toList] at hj; exact hj)] at hg
          rw [Array.getElem_toList, Option.some.inj hg, hzs, getElem!_pos zv.cells _ (by rw [hzs]; exact Nat.mod_lt _ hes)]
          rw [Array.getElem_toList] at p3
          exact p3
        obtain ⟨r', x'⟩ := q4 _ hxl hcr
        refine ⟨.tuple #[], { w with heap := hset w.heap b (.cells (putL cs (d + off) (Builtin.zeroCells zv.cells len).toList) e fz) }, ?_, φ, r', x', .undef, rfl, rfl, rfl⟩
        have hst := run_storeCells_am (P := P) (o := d + off) q1 (Builtin.zeroCells zv.cells len).toList (by rw [hxl]; exact q2) q3 hcr.one
        obtain ⟨n', rfl⟩ : ∃ n', len = n' + 1 := ⟨len - 1, by omega⟩
        simp [Builtin.clear_, hts, underlying, hT, zeroOf_run hzo, hst]
theorem freeze_mark {w : World} {b : Nat} {cs : Array Value} {e : TypeId} {fz : Nat × Nat} (hw : w.heap[b]? = some (.cells cs e fz)) (hf : fz = (0, 0) ∨ fz = (cs.size, cs.size + 1)) : w.freeze ⟨b, cs.size, none⟩ 1 = { w with heap := hset w.heap b (.cells cs e (cs.size, cs.size + 1)) } := by
  unfold World.freeze
  rw [if_neg (by decide)]
  congr 1
  apply Array.ext_getElem?
  intro i
  by_cases hi : i = b
  · subst hi
    rw [hset_self hw, Array.getElem?_modify, if_pos rfl, hw]
    rcases hf with rfl | rfl <;> simp
  · rw [hset_ne hi, Array.getElem?_modify, if_neg (Ne.symm hi)]
theorem wMark_s {S D E0 E : TypeId} {x : OpdF} (hk : wMark x ih t ls σ k = true) (hSD : S = D) (hS : P.underlying S = some (.slice E0)) (hD : P.underlying D = some (.slice E)) (hE : P.underlying E = some (.int .u8)) :
    ∃ v σ', k v σ' = true ∧ ∀ {B φ w xv}, Rel P B φ σ w.heap → VR φ (csz w.heap) (x t ls) xv → WrV P B φ σ w v σ' (convert S D xv) := by
  rcases AV.asSl_true hk with ⟨_, h⟩ | ⟨β, off, len, ex, cp, es, hx, h1⟩
  · cases h
  obtain ⟨n, c, st, pl, sh, olds, hg, h2⟩ := Hp.cellsK_true h1
  obtain ⟨h3, h4⟩ := sel_yes h2
  have hst : st = 0 := Nat.eq_of_beq_eq_true h3
  subst hst
  cases olds with
  | cons _ _ => cases h4
  | nil =>
    have h5 : σ.setK β (.cells n c 0 false sh []) (fun σ => k (x t ls) σ) = true := h4
    rw [Hp.setK_eq] at h5
    refine ⟨_, _, h5, fun {B φ w xv} r hxv => ?_⟩
    have hxv0 := hxv
    rw [hx] at hxv
    obtain ⟨b, d, q, l', c', rfl, hφ⟩ : ∃ b d q l' c', xv = .slice (some ⟨b, q, none⟩) l' c' ∧ φ β = some (b, d) := by
      cases hxv with
      | slice _ _ _ _ _ _ b d c' hφ => exact ⟨_, _, _, _, _, rfl, hφ⟩
      | slice0 _ _ _ _ b d q hφ => exact ⟨_, _, _, _, _, rfl, hφ⟩
    obtain ⟨g, hg', hbr⟩ := r.blk _ _ _ hφ
    rw [hg] at hg'; cases hg'
    cases hbr with
    | cells _ _ _ _ _ _ _ _ cs el fz hw hn hf hc =>
      have hcs := csz_hset (cs' := cs) (e' := el) (fz' := (cs.size, cs.size + 1)) hw (Nat.le_refl _)
      obtain ⟨r', x'⟩ := r.change (σ' := σ.set β (.cells n c 0 false sh [])) (h' := hset w.heap b (.cells cs el (cs.size, cs.size + 1))) hφ hg (fun h => h) (by simp [Blk.stale]) false (k' := .cells n c 0 false sh []) (fun γ => by rw [Hp.get_set]; simp) rfl rfl (fun _ => rfl) (by simp) hcs (fun b' hb' => hset_ne hb')
        (.cells _ _ _ _ _ _ _ _ cs el _ (hset_self hw) hn ⟨(fun h => by cases h), .inr rfl⟩ fun i hi => let ⟨v, y, q1, q2, q3, q4⟩ := hc i hi; ⟨v, y, q1, q2, q3, q4.mono φ.le_refl hcs⟩) (fun _ γ d' g hm => by cases hm)
      refine ⟨_, { w with heap := hset w.heap b (.cells cs el (cs.size, cs.size + 1)) }, ?_, φ, r', x', hxv0.mono φ.le_refl hcs, rfl, rfl, rfl⟩
      have hfr := freeze_mark hw hf.2
      subst hSD
      rw [hS] at hD
      cases hD
      simp [convert, underlying, hS, hE, markStringish, World.shape?, hw, hfr]
end
end Go.Am
