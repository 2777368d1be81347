import Derived.Test.YtfdbmpokhfjdoaaGreatDoorAmS10
import Derived.Laws.StructEq
set_option linter.unusedVariables false
set_option linter.unusedSimpArgs false
/-! Soundness, 11: maps. -/
namespace Go.Am
open Go
theorem ba_beq (a b : ByteArray) : (a == b) = true ↔ a = b := by
  rw [beq_toListBytes, ByteArray.toList_eq, ByteArray.toList_eq, beq_iff_eq]
  exact ⟨ba_ext, fun h => by rw [h]⟩
theorem kEq_eq (p q : IntKind) : kEq p q = decide (p = q) := by cases p <;> cases q <;> rfl
theorem isIntA_true {v : AV} (h : isIntA v = true) : (∃ q n, v = .nat q n) ∨ ∃ q n, v = .neg q n := by
  rcases AV.asInt_true h with ⟨q, n, h, _⟩ | ⟨q, n, h, _⟩
  · exact .inl ⟨q, n, h⟩
  · exact .inr ⟨q, n, h⟩
/-- Keys: alike or not. -/
theorem keyEq_true {a b : AV} {k : Bool → Bool} (h : keyEq a b k = true) : ∃ e, k e = true ∧ (e = true ↔ a = b) ∧ keySort a = keySort b ∧ keySort a ≠ none := by
  unfold keyEq at h
  rw [sel_true_iff] at h
  rcases h with ⟨_, h1⟩ | ⟨_, h1⟩
  · rcases AV.asInt_true h1 with ⟨p, n, ha, h2⟩ | ⟨p, n, ha, h2⟩ <;> rcases AV.asInt_true h2 with ⟨q, m, hb, h3⟩ | ⟨q, m, hb, h3⟩ <;> obtain ⟨h4, h5⟩ := sel_yes h3 <;> rw [kEq_eq, decide_eq_true_iff] at h4 <;> rw [boolK_eq, eqI_eq] at h5 <;> rw [ha, hb, h4] <;>
      refine ⟨_, h5, ?_, rfl, by simp [keySort]⟩ <;> simp
    all_goals omega
  · obtain ⟨n, N, ha, h2⟩ := AV.asStr_true h1
    obtain ⟨m, M, hb, h3⟩ := AV.asStr_true h2
    rw [boolK_eq] at h3
    rw [ha, hb]
    refine ⟨_, h3, ?_, rfl, by simp [keySort]⟩
    unfold strEq
    rw [sel_eq]
    by_cases hn : n = m
    · subst hn; simp
    · simp [hn]
theorem findK_true {a : AV} {no : Bool} {k : AV → Bool} {m : AMap} (h : AMap.findK a no k m = true) :
    (∃ p1 v p2, m.toL = p1 ++ (a, v) :: p2 ∧ k v = true) ∨ (no = true ∧ ∀ p ∈ m.toL, p.1 ≠ a ∧ keySort p.1 = keySort a) := by
  induction m with
  | nil => exact .inr ⟨h, fun p hp => by cases hp⟩
  | cons b v r ih =>
    obtain ⟨e, h', h1, h2, _⟩ := keyEq_true (show keyEq a b (fun e => sel e (k v) (AMap.findK a no k r)) = true from h)
    cases e with
    | true => have he := h1.1 rfl; exact .inl ⟨[], v, r.toL, by rw [he]; rfl, h'⟩
    | false =>
      rcases ih h' with ⟨p1, u, p2, h3, h4⟩ | ⟨h3, h4⟩
      · exact .inl ⟨(b, v) :: p1, u, p2, by simp [AMap.toL, h3], h4⟩
      · refine .inr ⟨h3, fun p hp => ?_⟩
        rcases List.mem_cons.1 hp with rfl | hp
        · exact ⟨fun he => absurd (h1.2 he.symm) (by simp), h2.symm⟩
        · exact h4 p hp
theorem putK_true {a v : AV} {m : AMap} {k : AMap → Bool} (h : AMap.putK a v m k = true) :
    ∃ m', k m' = true ∧ ((∃ p1 u p2, m.toL = p1 ++ (a, u) :: p2 ∧ m'.toL = p1 ++ (a, v) :: p2) ∨ ((∀ p ∈ m.toL, p.1 ≠ a ∧ keySort p.1 = keySort a) ∧ m'.toL = m.toL ++ [(a, v)])) := by
  induction m generalizing k with
  | nil => exact ⟨_, h, .inr ⟨(fun p hp => by cases hp), rfl⟩⟩
  | cons b u r ih =>
    obtain ⟨e, h', h1, h2, _⟩ := keyEq_true (show keyEq a b (fun e => sel e (k (.cons b v r)) (AMap.putK a v r fun r' => k (.cons b u r'))) = true from h)
    cases e with
    | true => have he := h1.1 rfl; exact ⟨_, h', .inl ⟨[], u, r.toL, by rw [he]; rfl, by rw [he]; rfl⟩⟩
    | false =>
      obtain ⟨m', hk, hm⟩ := ih h'
      refine ⟨_, hk, ?_⟩
      rcases hm with ⟨p1, u', p2, h3, h4⟩ | ⟨h3, h4⟩
      · exact .inl ⟨(b, u) :: p1, u', p2, by simp [AMap.toL, h3], by simp [AMap.toL, h4]⟩
      · refine .inr ⟨fun p hp => ?_, by simp [AMap.toL, h4]⟩
        rcases List.mem_cons.1 hp with rfl | hp
        · exact ⟨fun he => absurd (h1.2 he.symm) (by simp), h2.symm⟩
        · exact h3 p hp
theorem delK_true {a : AV} {m : AMap} {k : AMap → Bool} (h : AMap.delK a m k = true) :
    ∃ m', k m' = true ∧ ((∃ p1 u p2, m.toL = p1 ++ (a, u) :: p2 ∧ m'.toL = p1 ++ p2) ∨ ((∀ p ∈ m.toL, p.1 ≠ a ∧ keySort p.1 = keySort a) ∧ m'.toL = m.toL)) := by
  induction m generalizing k with
  | nil => exact ⟨_, h, .inr ⟨(fun p hp => by cases hp), rfl⟩⟩
  | cons b u r ih =>
    obtain ⟨e, h', h1, h2, _⟩ := keyEq_true (show keyEq a b (fun e => sel e (k r) (AMap.delK a r fun r' => k (.cons b u r'))) = true from h)
    cases e with
    | true => have he := h1.1 rfl; exact ⟨_, h', .inl ⟨[], u, r.toL, by rw [he]; rfl, rfl⟩⟩
    | false =>
      obtain ⟨m', hk, hm⟩ := ih h'
      refine ⟨_, hk, ?_⟩
      rcases hm with ⟨p1, u', p2, h3, h4⟩ | ⟨h3, h4⟩
      · exact .inl ⟨(b, u) :: p1, u', p2, by simp [AMap.toL, h3], by simp [AMap.toL, h4]⟩
      · refine .inr ⟨fun p hp => ?_, by simp [AMap.toL, h4]⟩
        rcases List.mem_cons.1 hp with rfl | hp
        · exact ⟨fun he => absurd (h1.2 he.symm) (by simp), h2.symm⟩
        · exact h3 p hp
/-- The sort of keys that a type has. -/
def SortOf (d : TypeDesc) : Option IntKind → Prop
  | some _ => ∃ k, d = .int k
  | none => d = .string
theorem keyK_true {s : Bool} {v : AV} {k : Bool} (h : keyK s v k = true) : k = true ∧ ∃ o, keySort v = some o ∧ (s = true ↔ o = none) := by
  unfold keyK at h
  rw [sel_true_iff] at h
  rcases h with ⟨rfl, h⟩ | ⟨rfl, h⟩
  · obtain ⟨n, N, rfl, h⟩ := AV.asStr_true h; exact ⟨h, none, rfl, by simp⟩
  · rcases AV.asInt_true h with ⟨q, n, rfl, h⟩ | ⟨q, n, rfl, h⟩ <;> exact ⟨h, some q, rfl, by simp⟩
theorem keyOk_sort {P : Program} {K : TypeId} {s : Bool} (h : keyOk P K = some s) {o : Option IntKind} (ho : s = true ↔ o = none) : ∃ d, P.underlying K = some d ∧ SortOf d o := by
  unfold keyOk at h
  split at h
  · rename_i k hk
    cases h
    cases o with
    | none => simp at ho
    | some q => exact ⟨_, hk, k, rfl⟩
  · rename_i hk
    cases h
    cases o with
    | none => exact ⟨_, hk, rfl⟩
    | some q => simp at ho
  · cases h
theorem sameNow_s {φ : Emb} {κ : Nat → Nat} {a b : AV} {x y : Value} {d : TypeDesc} {o : Option IntKind} (ha : keySort a = some o) (hb : keySort b = some o) (hd : SortOf d o) (hx : VR φ κ a x) (hy : VR φ κ b y) : ∃ e, Instr.sameNow d x y = some e ∧ (e = true ↔ a = b) := by
  cases o with
  | none =>
    obtain rfl := hd
    cases a <;> simp only [keySort, reduceCtorEq, Option.some.injEq] at ha
    cases b <;> simp only [keySort, reduceCtorEq, Option.some.injEq] at hb
    obtain ⟨s, rfl, rfl, rfl⟩ := hx.str_inv
    obtain ⟨r, rfl, rfl, rfl⟩ := hy.str_inv
    refine ⟨_, rfl, ?_⟩
    rw [ba_beq, AV.str.injEq]
    exact ⟨fun h => by subst h; exact ⟨rfl, rfl⟩, fun ⟨h1, h2⟩ => ba_ext (packL_inj h1 h2)⟩
  | some q =>
    obtain ⟨k, rfl⟩ := hd
    cases a <;> simp only [keySort, reduceCtorEq, Option.some.injEq] at ha <;> subst ha <;> cases b <;> simp only [keySort, reduceCtorEq, Option.some.injEq] at hb <;> subst hb <;> cases hx <;> cases hy <;>
      refine ⟨_, by simp only [Instr.sameNow, if_true]; rfl, ?_⟩ <;> simp
    all_goals omega
theorem findNow_s {d : TypeDesc} {x : Value} : ∀ (es : List MapEntry) (i : Nat) (f : Nat → Bool), (∀ j (h : j < es.length), Instr.sameNow d x es[j].key = some (f j)) →
    (∃ j, ∃ h : j < es.length, f j = true ∧ Instr.findNow d x es i = some (some (i + j, es[j].val))) ∨ ((∀ j, j < es.length → f j = false) ∧ Instr.findNow d x es i = some none) := by
  intro es
  induction es with
  | nil => exact fun i f h => .inr ⟨fun j hj => absurd hj (Nat.not_lt_zero _), rfl⟩
  | cons e es ih =>
    intro i f h
    have h0 := h 0 (by simp)
    simp only [List.getElem_cons_zero] at h0
    cases hf : f 0 with
    | true => exact .inl ⟨0, by simp, hf, by simp [Instr.findNow, h0, hf]⟩
    | false =>
      rcases ih (i + 1) (fun j => f (j + 1)) (fun j hj => by have := h (j + 1) (by simpa using hj); simpa using this) with ⟨j, hj, h1, h2⟩ | ⟨h1, h2⟩
      · refine .inl ⟨j + 1, by simpa using hj, h1, ?_⟩
        simp only [Instr.findNow, h0, hf, h2, List.getElem_cons_succ]
        congr 3; omega
      · refine .inr ⟨fun j hj => ?_, by simp only [Instr.findNow, h0, hf, h2]⟩
        cases j with
        | zero => exact hf
        | succ j => exact h1 j (by simpa using hj)
open Classical in
/-- The entries of a map, in step with the machine's. -/
theorem MR.find {φ : Emb} {κ : Nat → Nat} {m : AMap} {es : Array MapEntry} {cl : Nat} (h : MR φ κ m es cl) {a : AV} {x : Value} {d : TypeDesc} {o : Option IntKind} (hx : VR φ κ a x) (ha : keySort a = some o) (hd : SortOf d o) (hs : ∀ p ∈ m.toL, keySort p.1 = some o) :
    (∃ i, ∃ hi : i < es.size, ∃ l : List (AV × AV), ∃ hl : i < l.length, l.Perm m.toL ∧ l.length = es.size ∧ (∀ i (h : i < l.length) (h' : i < es.size), VR φ κ l[i].1 es[i].key ∧ VR φ κ l[i].2 es[i].val) ∧ l[i].1 = a ∧ Instr.findNow d x es.toList 0 = some (some (i, es[i].val)))
    ∨ ((∀ p ∈ m.toL, p.1 ≠ a) ∧ Instr.findNow d x es.toList 0 = some none) := by
  obtain ⟨l, hp, hl, hr⟩ := h.ent
  have hsort : ∀ j (hj : j < l.length), keySort l[j].1 = some o := fun j hj => hs _ (hp.mem_iff.1 (List.getElem_mem _))
  have hsame : ∀ j (hj : j < es.toList.length), Instr.sameNow d x es.toList[j].key = some (decide (∃ h : j < l.length, a = l[j].1)) := fun j hj => by
    have hj' : j < es.size := by simpa using hj
    have hjl : j < l.length := by omega
    obtain ⟨e, h1, h2⟩ := sameNow_s ha (hsort j hjl) hd hx (hr j hjl hj').1
    rw [Array.getElem_toList, h1]
    congr 1
    rw [Bool.eq_iff_iff, h2]
    simp [hjl]
  rcases findNow_s es.toList 0 _ hsame with ⟨j, hj, h1, h2⟩ | ⟨h1, h2⟩
  · have hj' : j < es.size := by simpa using hj
    have hjl : j < l.length := by omega
    have h1' : a = l[j].1 := by have := of_decide_eq_true h1; exact this.2
    exact .inl ⟨j, hj', l, hjl, hp, hl, hr, h1'.symm, by rw [h2]; simp⟩
  · refine .inr ⟨fun p hpm he => ?_, h2⟩
    obtain ⟨j, hj, rfl⟩ := List.getElem_of_mem (hp.mem_iff.2 hpm)
    have := h1 j (by simp; omega)
    rw [decide_eq_false_iff_not] at this
    exact this ⟨hj, he.symm⟩
theorem checkKey_run {P : Program} {w : World} {K : TypeId} {d : TypeDesc} {o : Option IntKind} (hK : P.underlying K = some d) (hd : SortOf d o) {e : Bool} {x : Value} : (Instr.checkKey e 10000 K x).run P w = .ok () w := by
  show (Instr.checkKey e (9999 + 1) K x).run P w = _
  unfold Instr.checkKey
  cases o with
  | none => obtain rfl := hd; simp [underlying, hK]
  | some q => obtain ⟨k, rfl⟩ := hd; simp [underlying, hK]
section
variable {P : Program} {σ : Hp} {t : Regs} {ls : Ls} {k : AV → Bool}
theorem mapK_true {v : AV} {k : AMap → Bool} (h : v.mapK σ k = true) : ∃ m, k m = true ∧ ((v = .mnil ∧ m = .nil) ∨ ∃ β, v = .map β ∧ σ.get β = some (.mp m)) := by
  rcases AV.asMp_true h with ⟨rfl, h⟩ | ⟨β, rfl, h⟩
  · exact ⟨_, h, .inl ⟨rfl, rfl⟩⟩
  · obtain ⟨m, hg, h⟩ := Hp.mpK_true h
    exact ⟨m, h, .inr ⟨β, rfl, hg⟩⟩
theorem Rel.map {B : Fz} {φ : Emb} {h : Array Obj} (r : Rel P B φ σ h) {β : Ad} {b d : Nat} {m : AMap} (hβ : φ β = some (b, d)) (hk : σ.get β = some (.mp m)) : d = 0 ∧ ∃ es cl, h[b]? = some (.map es cl) ∧ MR φ (Am.csz h) m es cl := by
  obtain ⟨k, h1, h2⟩ := r.blk _ _ _ hβ
  rw [hk] at h1; cases h1
  cases h2 with
  | mp _ _ es cl hw hm => exact ⟨rfl, es, cl, hw, hm⟩
/-- What stands for a map's value: its entries. -/
theorem map_entries {B : Fz} {φ : Emb} {w : World} (r : Rel P B φ σ w.heap) {v : AV} {m : AMap} {x : Value} (hm : (v = .mnil ∧ m = .nil) ∨ ∃ β, v = .map β ∧ σ.get β = some (.mp m)) (hx : VR φ (csz w.heap) v x) :
    ∃ es cl, MR φ (csz w.heap) m es cl ∧ ((x = .map none ∧ es = #[]) ∨ ∃ b, x = .map (some b) ∧ w.heap[b]? = some (.map es cl)) := by
  rcases hm with ⟨rfl, rfl⟩ | ⟨β, rfl, hg⟩
  · cases hx
    exact ⟨#[], 0, ⟨⟨[], List.Perm.refl _, rfl, fun i h => absurd h (Nat.not_lt_zero _)⟩, ⟨none, fun p hp => by cases hp⟩, List.nodup_nil, List.nodup_nil, fun e he => by cases he⟩, .inl ⟨rfl, rfl⟩⟩
  · cases hx with
    | map _ b hβ =>
      obtain ⟨_, es, cl, hw, hm⟩ := r.map hβ hg
      exact ⟨es, cl, hm, .inr ⟨b, rfl, hw⟩⟩
theorem run_getObj_map {w : World} {b : Nat} {es : Array MapEntry} {cl : Nat} (h : w.heap[b]? = some (.map es cl)) : (getObj b).run P w = .ok (.map es cl) w := by
  simp only [getObj, Sem.run, h]
theorem rLenM_s {T K E : TypeId} {ty : TypeId} {x : OpdF} (hk : rLenM x t ls σ k = true) (hT : P.underlying T = some (.map K E)) :
    ∃ v, k v = true ∧ ∀ {B φ w xv}, Rel P B φ σ w.heap → VR φ (csz w.heap) (x t ls) xv → RdS P φ w v (Builtin.len_ #[T] ty #[xv]) := by
  obtain ⟨m, hk, hm⟩ := mapK_true hk
  have hsz : ∀ (m : AMap) (s : Nat), m.sizeK (fun n => k (.nat .i64 n)) s = true → k (.nat .i64 (s + m.toL.length)) = true := by
    intro m
    induction m with
    | nil => intro s h; exact h
    | cons a v r ih => intro s h; have := ih (s + 1) h; simp only [AMap.toL, List.length_cons]; rwa [show s + (r.toL.length + 1) = s + 1 + r.toL.length by omega]
  have hk := hsz m 0 hk
  refine ⟨_, hk, fun {B φ w xv} r hxv => ?_⟩
  obtain ⟨es, cl, hmr, hx⟩ := map_entries r hm hxv
  obtain ⟨l, hp, hl, _⟩ := hmr.ent
  have hn : m.toL.length = es.size := by rw [← hp.length_eq, hl]
  rw [hn, Nat.zero_add]
  refine ⟨goInt es.size, ?_, .nat .i64 _⟩
  rcases hx with ⟨rfl, rfl⟩ | ⟨b, rfl, hw⟩
  · simp [Builtin.len_, underlying, hT]
  · simp [Builtin.len_, underlying, hT, run_getObj_map hw]
theorem lookup_core {s : Bool} {M K : TypeId} {z : AV} {zv : Value} {m key : OpdF} {no : Bool} {k : AV → Bool} (hk : keyK s (key t ls) ((m t ls).mapK σ fun m => m.findK (key t ls) no k) = true) (hK : keyOk P K = some s) :
    ((no = true ∧ ∀ {B φ w mv kv}, Rel P B φ σ w.heap → VR φ (csz w.heap) (m t ls) mv → VR φ (csz w.heap) (key t ls) kv → ∃ es, (Instr.checkKey es.isEmpty 10000 K kv).run P w = .ok () w ∧ (Instr.findKey K kv es.toList).run P w = .ok none w ∧ (mv = .map none ∧ es = #[] ∨ ∃ b cl, mv = .map (some b) ∧ w.heap[b]? = some (.map es cl))) ∨
     (∃ v, k v = true ∧ ∀ {B φ w mv kv}, Rel P B φ σ w.heap → VR φ (csz w.heap) (m t ls) mv → VR φ (csz w.heap) (key t ls) kv → ∃ es i x, (Instr.checkKey es.isEmpty 10000 K kv).run P w = .ok () w ∧ (Instr.findKey K kv es.toList).run P w = .ok (some (i, x)) w ∧ VR φ (csz w.heap) v x ∧
        (mv = .map none ∧ es = #[] ∨ ∃ b cl, mv = .map (some b) ∧ w.heap[b]? = some (.map es cl)))) := by
  obtain ⟨hk, o, ho, hs⟩ := keyK_true hk
  obtain ⟨d, hd, hso⟩ := keyOk_sort hK hs
  obtain ⟨mm, hk, hm⟩ := mapK_true hk
  rcases findK_true hk with ⟨p1, v, p2, h1, h2⟩ | ⟨h1, h2⟩
  · right
    refine ⟨v, h2, fun {B φ w mv kv} r hmv hkv => ?_⟩
    obtain ⟨es, cl, hmr, hx⟩ := map_entries r hm hmv
    have hsort : ∀ p ∈ mm.toL, keySort p.1 = some o := fun p hp => by
      obtain ⟨s', hs'⟩ := hmr.sort
      have e1 := hs' (key t ls, v) (by rw [h1]; simp)
      rw [ho] at e1; cases e1
      exact hs' p hp
    rcases hmr.find hkv ho hso hsort with ⟨i, hi, l, hl, hp, hls, hr, ha, hf⟩ | ⟨hno, _⟩
    · refine ⟨es, i, es[i].val, checkKey_run hd hso, ?_, ?_, ?_⟩
      · simp [Instr.findKey, underlying, hd, hf]
      · have e1 : l[i].2 = v := by
          have m1 : (l[i].1, l[i].2) ∈ mm.toL := hp.mem_iff.1 (List.getElem_mem hl)
          rw [ha] at m1
          have m2 : (key t ls, v) ∈ mm.toL := by rw [h1]; simp
          have hnd := hmr.nodup
          rw [h1] at m1 hnd
          simp only [List.map_append, List.map_cons, List.nodup_append, List.nodup_cons, List.mem_append, List.mem_cons] at hnd m1
          rcases m1 with m1 | m1 | m1
          · exact absurd rfl (hnd.2.2 _ (List.mem_map.2 ⟨_, m1, rfl⟩) _ (.inl rfl))
          · exact (Prod.mk.inj m1).2
          · exact absurd (List.mem_map.2 ⟨_, m1, rfl⟩) hnd.2.1.1
        rw [← e1]; exact (hr i hl hi).2
      · rcases hx with ⟨h3, h4⟩ | ⟨b, h3, h4⟩
        · exact .inl ⟨h3, h4⟩
        · exact .inr ⟨b, cl, h3, h4⟩
    · exact absurd rfl (hno (key t ls, v) (by rw [h1]; simp))
  · left
    refine ⟨h1, fun {B φ w mv kv} r hmv hkv => ?_⟩
    obtain ⟨es, cl, hmr, hx⟩ := map_entries r hm hmv
    rcases hmr.find hkv ho hso (fun p hp => by rw [(h2 p hp).2]; exact ho) with ⟨i, hi, l, hl, hp, hls, hr, ha, hf⟩ | ⟨hno, hf⟩
    · exact absurd ha (h2 _ (hp.mem_iff.1 (List.getElem_mem hl))).1
    · refine ⟨es, checkKey_run hd hso, by simp [Instr.findKey, underlying, hd, hf], ?_⟩
      rcases hx with ⟨h3, h4⟩ | ⟨b, h3, h4⟩
      · exact .inl ⟨h3, h4⟩
      · exact .inr ⟨b, cl, h3, h4⟩
theorem rLookup_s {s : Bool} {M K E : TypeId} {z : AV} {zv : Value} {m key : OpdF} (hk : rLookup s z m key t ls σ k = true) (hM : P.underlying M = some (.map K E)) (hK : keyOk P K = some s) (hz : zeroOf P E = some zv) (hzv : ∀ φ κ, VR φ κ z zv) :
    ∃ v, k v = true ∧ ∀ {B φ w mv kv}, Rel P B φ σ w.heap → VR φ (csz w.heap) (m t ls) mv → VR φ (csz w.heap) (key t ls) kv → RdS P φ w v (Instr.lookup M mv kv false) := by
  rcases lookup_core (P := P) (M := M) (z := z) (zv := zv) hk hK with ⟨h1, h2⟩ | ⟨v, h1, h2⟩
  · refine ⟨_, h1, fun {B φ w mv kv} r hmv hkv => ?_⟩
    obtain ⟨es, h3, h4, h5⟩ := h2 r hmv hkv
    refine ⟨zv, ?_, hzv _ _⟩
    rcases h5 with ⟨rfl, rfl⟩ | ⟨b, cl, rfl, hw⟩
    · have h3' : (Instr.checkKey true 10000 K kv).run P w = .ok () w := h3
      have h4' : (Instr.findKey K kv []).run P w = .ok none w := h4
      simp [Instr.lookup, underlying, hM, h3', h4', zeroOf_run hz]
    · simp [Instr.lookup, underlying, hM, run_getObj_map hw, h3, h4, zeroOf_run hz]
  · refine ⟨_, h1, fun {B φ w mv kv} r hmv hkv => ?_⟩
    obtain ⟨es, i, x, h3, h4, hv, h5⟩ := h2 r hmv hkv
    refine ⟨x, ?_, hv⟩
    rcases h5 with ⟨rfl, rfl⟩ | ⟨b, cl, rfl, hw⟩
    · have h3' : (Instr.checkKey true 10000 K kv).run P w = .ok () w := h3
      have h4' : (Instr.findKey K kv []).run P w = .ok (some (i, x)) w := h4
      simp [Instr.lookup, underlying, hM, h3', h4']
    · simp [Instr.lookup, underlying, hM, run_getObj_map hw, h3, h4]
theorem rLookupOk_s {s : Bool} {M K E : TypeId} {z : AV} {zv : Value} {m key : OpdF} (hk : rLookupOk s z m key t ls σ k = true) (hM : P.underlying M = some (.map K E)) (hK : keyOk P K = some s) (hz : zeroOf P E = some zv) (hzv : ∀ φ κ, VR φ κ z zv) :
    ∃ v, k v = true ∧ ∀ {B φ w mv kv}, Rel P B φ σ w.heap → VR φ (csz w.heap) (m t ls) mv → VR φ (csz w.heap) (key t ls) kv → RdS P φ w v (Instr.lookup M mv kv true) := by
  have pair : ∀ {φ : Emb} {κ : Nat → Nat} {a : AV} {x : Value} (b : Bool), VR φ κ a x → VR φ κ (.tup (.cons a (.cons (.bool b) .nil))) (.tuple #[x, .bool b]) := fun b h => LR.tup (LR.cons h (LR.cons (.bool b) LR.nil))
  rcases lookup_core (P := P) (M := M) (z := z) (zv := zv) hk hK with ⟨h1, h2⟩ | ⟨v, h1, h2⟩
  · refine ⟨_, h1, fun {B φ w mv kv} r hmv hkv => ?_⟩
    obtain ⟨es, h3, h4, h5⟩ := h2 r hmv hkv
    refine ⟨.tuple #[zv, .bool false], ?_, pair _ (hzv _ _)⟩
    rcases h5 with ⟨rfl, rfl⟩ | ⟨b, cl, rfl, hw⟩
    · have h3' : (Instr.checkKey true 10000 K kv).run P w = .ok () w := h3
      have h4' : (Instr.findKey K kv []).run P w = .ok none w := h4
      simp [Instr.lookup, underlying, hM, h3', h4', zeroOf_run hz]
    · simp [Instr.lookup, underlying, hM, run_getObj_map hw, h3, h4, zeroOf_run hz]
  · refine ⟨_, h1, fun {B φ w mv kv} r hmv hkv => ?_⟩
    obtain ⟨es, i, x, h3, h4, hv, h5⟩ := h2 r hmv hkv
    refine ⟨.tuple #[x, .bool true], ?_, pair _ hv⟩
    rcases h5 with ⟨rfl, rfl⟩ | ⟨b, cl, rfl, hw⟩
    · have h3' : (Instr.checkKey true 10000 K kv).run P w = .ok () w := h3
      have h4' : (Instr.findKey K kv []).run P w = .ok (some (i, x)) w := h4
      simp [Instr.lookup, underlying, hM, h3', h4']
    · simp [Instr.lookup, underlying, hM, run_getObj_map hw, h3, h4]
end
end Go.Am
