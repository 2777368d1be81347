import Derived.Test.YtfdbmpokhfjdoaaGreatDoorAmS2
set_option linter.unusedVariables false
set_option linter.unusedSimpArgs false
/-! Soundness, 3: heaps. -/
namespace Go.Am
open Go

noncomputable def Regs.get (t : Regs) (i : Nat) : AV := ((t.at (D8.of (i / 64))).at (D8.of (i / 8 % 8))).at (D8.of (i % 8))
def Blk.isDead : Blk → Prop | .dead => True | _ => False
def Blk.olds : Blk → List Ad | .cells _ _ _ _ _ o => o | _ => []
def Blk.sh : Blk → Nat | .cells _ _ _ _ s _ => s | _ => 0
def Blk.len : Blk → Nat | .cells n _ _ _ _ _ => n | _ => 0
def Blk.stale : Blk → Prop | .cells _ _ st _ _ _ => st = 1 | _ => False
/-- Which cells are frozen: none, or the one behind the last (of a text's bytes). -/
def FzOk (fz : Nat × Nat) (n : Nat) (pl : Bool) : Prop := (pl = true → fz = (0, 0)) ∧ (fz = (0, 0) ∨ fz = (n, n + 1))

def AMap.toL : AMap → List (AV × AV)
  | .nil => []
  | .cons k v r => (k, v) :: r.toL
/-- What sort of key it is. -/
def keySort : AV → Option (Option IntKind)
  | .nat k _ | .neg k _ => some (some k)
  | .str _ _ => some none
  | _ => none
structure MR (φ : Emb) (κ : Nat → Nat) (m : AMap) (es : Array MapEntry) (clock : Nat) : Prop where
  ent : ∃ l : List (AV × AV), l.Perm m.toL ∧ l.length = es.size ∧ ∀ i (h : i < l.length) (h' : i < es.size), VR φ κ l[i].1 es[i].key ∧ VR φ κ l[i].2 es[i].val
  sort : ∃ s, ∀ p ∈ m.toL, keySort p.1 = some s
  nodup : (m.toL.map (·.1)).Nodup
  born : (es.toList.map (·.born)).Nodup ∧ ∀ e ∈ es.toList, e.born < clock

def stOf : Nat → LoopState | 0 => .ready | 1 => .busy | 2 => .done | _ => .exhausted
def Jump.code : Jump → Option Code | .none => .none | .exit id => some (.exit id) | .ret => some .ret
structure ER (φ : Emb) (κ : Nat → Nat) (C : Cx) (t : Regs) (tmps : Array Value) : Prop where
  size : C.n ≤ tmps.size
  get : ∀ i, C.glob i = true → ∃ x, tmps[i]? = some x ∧ VR φ κ (t.get i) x

inductive BR (P : Program) (φ : Emb) (h : Array Obj) : Blk → Nat → Nat → Prop
  | cells (n : Nat) (c : AV) (st : Nat) (pl : Bool) (sh : Nat) (olds : List Ad) (b d : Nat) (cs : Array Value) (elem : TypeId) (fz : Nat × Nat)
      (hw : h[b]? = some (.cells cs elem fz)) (hn : d + n ≤ cs.size) (hf : FzOk fz cs.size pl)
      (hc : ∀ i, i < n → ∃ v x, c.rget i = some v ∧ cs[d + i]? = some x ∧ v.plain ∧ VR φ (csz h) v x) : BR P φ h (.cells n c st pl sh olds) b d
  | mp (m : AMap) (b : Nat) (es : Array MapEntry) (clock : Nat) (hw : h[b]? = some (.map es clock)) (hm : MR φ (csz h) m es clock) : BR P φ h (.mp m) b 0
  | loop (st : Nat) (j : Jump) (fn : Nat) (t : Regs) (ps : List Nat) (as body : Code) (df : Ad) (b dd : Nat) (tmps : Array Value) (fn' : FuncId)
      (hw : h[b]? = some (.loop { state := stOf st, pending := j.code, fn := fn', tmps := tmps, params := ps.toArray, assign := as, body := body, defers := dd }))
      (ht : ER φ (csz h) (cxOf P fn) t tmps) (hd : φ df = some (dd, 0)) (hps : ps.all (cxOf P fn).glob = true) : BR P φ h (.loop st j fn t ps as body df) b 0
  | defr (o : Bool) (b : Nat) (hw : h[b]? = some (.deferred (if o then some [] else none))) : BR P φ h (.defr o) b 0
  | dead (b d : Nat) : BR P φ h .dead b d

theorem MR.mono {φ φ' : Emb} {κ κ' : Nat → Nat} {m : AMap} {es : Array MapEntry} {cl : Nat} (h : MR φ κ m es cl) (hφ : ∀ β y, φ β = some y → φ' β = some y) (hκ : ∀ b, κ b ≤ κ' b) : MR φ' κ' m es cl :=
  ⟨let ⟨l, h1, h2, h3⟩ := h.ent; ⟨l, h1, h2, fun i a b => ⟨(h3 i a b).1.mono hφ hκ, (h3 i a b).2.mono hφ hκ⟩⟩, h.sort, h.nodup, h.born⟩
theorem ER.mono {φ φ' : Emb} {κ κ' : Nat → Nat} {C : Cx} {t : Regs} {tmps : Array Value} (h : ER φ κ C t tmps) (hφ : ∀ β y, φ β = some y → φ' β = some y) (hκ : ∀ b, κ b ≤ κ' b) : ER φ' κ' C t tmps :=
  ⟨h.size, fun i hi => let ⟨x, h1, h2⟩ := h.get i hi; ⟨x, h1, h2.mono hφ hκ⟩⟩
theorem BR.mono {P : Program} {φ φ' : Emb} {h h' : Array Obj} {k : Blk} {b d : Nat} (hb : BR P φ h k b d) (hφ : ∀ β y, φ β = some y → φ' β = some y) (hκ : ∀ b, csz h b ≤ csz h' b) (he : h'[b]? = h[b]?) : BR P φ' h' k b d := by
  cases hb with
  | cells n c st pl sh olds b d cs elem fz hw hn hf hc =>
    exact .cells _ _ _ _ _ _ _ _ cs elem fz (he.trans hw) hn hf fun i hi => let ⟨v, x, h1, h2, h3, h4⟩ := hc i hi; ⟨v, x, h1, h2, h3, h4.mono hφ hκ⟩
  | mp m b es cl hw hm => exact .mp _ _ es cl (he.trans hw) (hm.mono hφ hκ)
  | loop st j fn t ps as body df b dd tmps fn' hw ht hd hps => exact .loop _ _ _ _ _ _ _ _ _ dd tmps fn' (he.trans hw) (ht.mono hφ hκ) (hφ _ _ hd) hps
  | defr o b hw => exact .defr _ _ (he.trans hw)
  | dead b d => exact .dead _ _

/-- Blocks of the model's that stay as they are. -/
abbrev Fz := Nat → Prop
def Fz.le (B : Fz) (n : Nat) : Prop := ∀ b, B b → b < n
theorem Fz.le_trans {B : Fz} {m n : Nat} (h : B.le m) (h' : m ≤ n) : B.le n := fun b hb => Nat.lt_of_lt_of_le (h b hb) h'
structure Rel (P : Program) (B : Fz) (φ : Emb) (σ : Hp) (h : Array Obj) : Prop where
  fresh : ∀ β y, φ β = some y → β.toNat < σ.nx.toNat
  low : ∀ β b d, φ β = some (b, d) → (B b → ∃ k, σ.get β = some k ∧ k.isDead) ∧ b < h.size
  blk : ∀ β b d, φ β = some (b, d) → ∃ k, σ.get β = some k ∧ BR P φ h k b d
  inj : ∀ β γ b d d' k g, φ β = some (b, d) → φ γ = some (b, d') → β ≠ γ → σ.get β = some k → σ.get γ = some g → k.isDead ∨ g.isDead ∨ γ ∈ k.olds ∨ β ∈ g.olds
  olds : ∀ β b d k γ, φ β = some (b, d) → σ.get β = some k → γ ∈ k.olds → ∃ b' d' g, φ γ = some (b', d') ∧ σ.get γ = some g ∧ (g.isDead ∨ g.stale ∧ (b' = b → d' + g.len ≤ d + k.sh))

def Emb.le (φ φ' : Emb) : Prop := ∀ β y, φ β = some y → φ' β = some y
theorem Emb.le_refl (φ : Emb) : φ.le φ := fun _ _ h => h
theorem Emb.le_trans {a b c : Emb} (h : a.le b) (h' : b.le c) : a.le c := fun β y x => h' β y (h β y x)
/-- From one pair of heaps to another. -/
structure Ext (B : Fz) (φ : Emb) (σ : Hp) (h : Array Obj) (φ' : Emb) (σ' : Hp) (h' : Array Obj) : Prop where
  le : φ.le φ'
  nx : σ.nx.toNat ≤ σ'.nx.toNat
  new : ∀ β y, φ' β = some y → φ β = none → σ.nx.toNat ≤ β.toNat
  frame : ∀ β, φ β = none → β.toNat < σ.nx.toNat → σ'.get β = σ.get β ∨ ∃ k, σ.get β = some k ∧ k.olds ≠ []
  size : h.size ≤ h'.size
  csz : ∀ b, csz h b ≤ csz h' b
  low : ∀ b, B b → h'[b]? = h[b]?
theorem Ext.refl (B : Fz) (φ : Emb) (σ : Hp) (h : Array Obj) : Ext B φ σ h φ σ h :=
  ⟨φ.le_refl, Nat.le_refl _, fun β y h1 h2 => absurd (h2.symm.trans h1) (by simp), fun _ _ _ => .inl rfl, Nat.le_refl _, fun _ => Nat.le_refl _, fun _ _ => rfl⟩
theorem Ext.trans {B : Fz} {φ φ' φ'' : Emb} {σ σ' σ'' : Hp} {h h' h'' : Array Obj} (x : Ext B φ σ h φ' σ' h') (y : Ext B φ' σ' h' φ'' σ'' h'') : Ext B φ σ h φ'' σ'' h'' where
  le := Emb.le_trans x.le y.le
  nx := Nat.le_trans x.nx y.nx
  new β z h1 h2 := by
    cases h3 : φ' β with
    | none => exact Nat.le_trans x.nx (y.new β z h1 h3)
    | some z' => exact x.new β z' h3 h2
  frame β h1 h2 := by
    cases h3 : φ' β with
    | none =>
      rcases x.frame β h1 h2 with e | e
      · rcases y.frame β h3 (Nat.lt_of_lt_of_le h2 x.nx) with e' | ⟨k, e1, e2⟩
        · exact .inl (e'.trans e)
        · exact .inr ⟨k, e.symm.trans e1, e2⟩
      · exact .inr e
    | some z' => have := x.new β z' h3 h1; omega
  size := Nat.le_trans x.size y.size
  csz b := Nat.le_trans (x.csz b) (y.csz b)
  low b hb := (y.low b hb).trans (x.low b hb)

theorem Ad.toNat_inj {p q : Ad} (h : p.toNat = q.toNat) : p = q := by
  obtain ⟨p0, p1, p2, p3, p4⟩ := p
  obtain ⟨q0, q1, q2, q3, q4⟩ := q
  have hd : ∀ d : D8, d.toNat < 8 := by intro d; cases d <;> simp [D8.toNat]
  have hi : ∀ d e : D8, d.toNat = e.toNat → d = e := by intro d e; cases d <;> cases e <;> simp [D8.toNat]
  simp only [Ad.toNat] at h
  have := hd p0; have := hd p1; have := hd p2; have := hd p3; have := hd p4
  have := hd q0; have := hd q1; have := hd q2; have := hd q3; have := hd q4
  rw [Ad.mk.injEq]
  refine ⟨hi _ _ ?_, hi _ _ ?_, hi _ _ ?_, hi _ _ ?_, hi _ _ ?_⟩ <;> omega

section
variable {P : Program} {B : Fz} {φ : Emb} {σ σ' : Hp} {h h' : Array Obj}
theorem Rel.nx_none (r : Rel P B φ σ h) : φ σ.nx = none := by
  cases hn : φ σ.nx with
  | none => rfl
  | some y => exact absurd (r.fresh _ _ hn) (Nat.lt_irrefl _)
theorem csz_push (h : Array Obj) (o : Obj) (b : Nat) : csz h b ≤ csz (h.push o) b := by
  unfold csz
  rw [Array.getElem?_push]
  by_cases hb : b = h.size
  · subst hb; rw [Array.getElem?_eq_none (Nat.le_refl _)]; exact Nat.zero_le _
  · rw [if_neg hb]; exact Nat.le_refl _
theorem push_old (o : Obj) {b : Nat} (hb : b < h.size) : (h.push o)[b]? = h[b]? := by
  rw [Array.getElem?_push, if_neg (by omega)]
/-- The machine's heap may differ where nothing stands for a block. -/
theorem Rel.frame (r : Rel P B φ σ h) (hg : ∀ β y, φ β = some y → σ'.get β = σ.get β) (hn : σ.nx.toNat ≤ σ'.nx.toNat) : Rel P B φ σ' h where
  fresh β y hy := Nat.lt_of_lt_of_le (r.fresh β y hy) hn
  low β b d hb := ⟨fun hB => let ⟨k, e, hd⟩ := (r.low β b d hb).1 hB; ⟨k, (hg β _ hb).trans e, hd⟩, (r.low β b d hb).2⟩
  blk β b d hb := by rw [hg β _ hb]; exact r.blk β b d hb
  inj β γ b d d' k g h1 h2 h3 h4 h5 := by rw [hg _ _ h1] at h4; rw [hg _ _ h2] at h5; exact r.inj β γ b d d' k g h1 h2 h3 h4 h5
  olds β b d k γ h1 h2 h3 := by
    rw [hg _ _ h1] at h2
    obtain ⟨b', d', g, h4, h5, h6⟩ := r.olds β b d k γ h1 h2 h3
    exact ⟨b', d', g, h4, by rw [hg _ _ h4]; exact h5, h6⟩
/-- Of one more. -/
noncomputable def Emb.put (φ : Emb) (β : Ad) (y : Nat × Nat) : Emb := fun γ => if γ = β then some y else φ γ
theorem Emb.put_le {β : Ad} {y : Nat × Nat} (hb : φ β = none) : φ.le (φ.put β y) := fun γ z hz => by
  unfold Emb.put
  by_cases hg : γ = β
  · subst hg; rw [hb] at hz; cases hz
  · rw [if_neg hg]; exact hz
theorem Emb.put_self (φ : Emb) (β : Ad) (y : Nat × Nat) : φ.put β y β = some y := by simp [Emb.put]
theorem Emb.put_inv {β γ : Ad} {y z : Nat × Nat} (hz : φ.put β y γ = some z) : (γ = β ∧ z = y) ∨ (γ ≠ β ∧ φ γ = some z) := by
  unfold Emb.put at hz
  by_cases hg : γ = β
  · rw [if_pos hg] at hz; exact .inl ⟨hg, (Option.some.inj hz).symm⟩
  · rw [if_neg hg] at hz; exact .inr ⟨hg, hz⟩
/-- The model's heap may grow. -/
theorem Rel.more (r : Rel P B φ σ h) (hs : h.size ≤ h'.size) (hc : ∀ b, csz h b ≤ csz h' b) (he : ∀ b, b < h.size → h'[b]? = h[b]?) : Rel P B φ σ h' where
  fresh := r.fresh
  low β b d hb := let ⟨h1, h2⟩ := r.low β b d hb; ⟨h1, by omega⟩
  blk β b d hb := let ⟨k, h1, h2⟩ := r.blk β b d hb; ⟨k, h1, h2.mono φ.le_refl hc (he b (r.low β b d hb).2)⟩
  inj := r.inj
  olds := r.olds
/-- A block that the machine has now stands for one of the model's. -/
theorem Rel.share (r : Rel P B φ σ h) {β : Ad} {g : Blk} {b d : Nat} (hβ : φ β = none) (hlt : β.toNat < σ.nx.toNat) (hk : σ.get β = some g) (hb : (B b → g.isDead) ∧ b < h.size) (hbr : BR P (φ.put β (b, d)) h g b d)
    (hsh : ∀ γ d' k, φ γ = some (b, d') → σ.get γ = some k → k.isDead ∨ γ ∈ g.olds)
    (hol : ∀ γ ∈ g.olds, ∃ b' d' k, φ γ = some (b', d') ∧ σ.get γ = some k ∧ (k.isDead ∨ k.stale ∧ (b' = b → d' + k.len ≤ d + g.sh))) : Rel P B (φ.put β (b, d)) σ h := by
  refine ⟨fun γ y hy => ?_, fun γ b1 d1 hb1 => ?_, fun γ b1 d1 hb1 => ?_, fun γ δ b1 d1 d2 k1 k2 h1 h2 h3 h4 h5 => ?_, fun γ b1 d1 k1 δ h1 h2 h3 => ?_⟩
  · rcases Emb.put_inv hy with ⟨rfl, _⟩ | ⟨_, hy⟩
    · exact hlt
    · exact r.fresh _ _ hy
  · rcases Emb.put_inv hb1 with ⟨rfl, he⟩ | ⟨_, hy⟩
    · cases he; exact ⟨fun hBb => ⟨g, hk, hb.1 hBb⟩, hb.2⟩
    · exact r.low _ _ _ hy
  · rcases Emb.put_inv hb1 with ⟨rfl, he⟩ | ⟨_, hy⟩
    · cases he; exact ⟨g, hk, hbr⟩
    · obtain ⟨k', h1, h2⟩ := r.blk _ _ _ hy
      exact ⟨k', h1, h2.mono (Emb.put_le hβ) (fun _ => Nat.le_refl _) rfl⟩
  · rcases Emb.put_inv h1 with ⟨rfl, he⟩ | ⟨_, hy⟩
    · cases he
      rw [hk] at h4; cases h4
      rcases Emb.put_inv h2 with ⟨rfl, _⟩ | ⟨_, hz⟩
      · exact absurd rfl h3
      · rcases hsh _ _ _ hz h5 with h | h
        · exact .inr (.inl h)
        · exact .inr (.inr (.inl h))
    · rcases Emb.put_inv h2 with ⟨rfl, he⟩ | ⟨_, hz⟩
      · cases he
        rw [hk] at h5; cases h5
        rcases hsh _ _ _ hy h4 with h | h
        · exact .inl h
        · exact .inr (.inr (.inr h))
      · exact r.inj _ _ _ _ _ _ _ hy hz h3 h4 h5
  · rcases Emb.put_inv h1 with ⟨rfl, he⟩ | ⟨_, hy⟩
    · cases he
      rw [hk] at h2; cases h2
      obtain ⟨b', d', k, h4, h5, h6⟩ := hol _ h3
      exact ⟨b', d', k, Emb.put_le hβ _ _ h4, h5, h6⟩
    · obtain ⟨b', d', g, h4, h5, h6⟩ := r.olds _ _ _ _ _ hy h2 h3
      exact ⟨b', d', g, Emb.put_le hβ _ _ h4, h5, h6⟩
/-- A block that the machine has is now the model's, too. -/
theorem Rel.push (r : Rel P B φ σ h) (o : Obj) {β : Ad} {k : Blk} (hB : B.le h.size) (hβ : φ β = none) (hlt : β.toNat < σ.nx.toNat) (hk : σ.get β = some k) (ho : k.olds = [])
    (hbr : BR P (φ.put β (h.size, 0)) (h.push o) k h.size 0) : Rel P B (φ.put β (h.size, 0)) σ (h.push o) :=
  (r.more (by simp) (csz_push h o) fun _ hb => push_old o hb).share hβ hlt hk ⟨fun hBb => absurd (hB _ hBb) (Nat.lt_irrefl _), by simp⟩ hbr (fun γ d' k h1 _ => absurd (r.low _ _ _ h1).2 (Nat.lt_irrefl _)) (fun γ hγ => by rw [ho] at hγ; cases hγ)
/-- A block is made by both. -/
theorem Rel.made (r : Rel P B φ σ h) {k : Blk} (m : σ.Made k σ') (o : Obj) (hB : B.le h.size) (ho : k.olds = []) (hbr : BR P (φ.put σ.nx (h.size, 0)) (h.push o) k h.size 0) :
    Rel P B (φ.put σ.nx (h.size, 0)) σ' (h.push o) ∧ Ext B φ σ h (φ.put σ.nx (h.size, 0)) σ' (h.push o) := by
  have hn := r.nx_none
  have r' : Rel P B φ σ' h := r.frame (fun β y hy => by rw [m.get, if_neg]; rintro rfl; rw [hn] at hy; cases hy) (by rw [m.nx]; omega)
  refine ⟨r'.push o hB hn (by rw [m.nx]; omega) (by rw [m.get, if_pos rfl]) ho hbr, Emb.put_le hn, by rw [m.nx]; omega, fun β y h1 h2 => ?_, fun β h1 h2 => ?_, by simp, csz_push h o, fun b hb => push_old o (hB b hb)⟩
  · rcases Emb.put_inv h1 with ⟨rfl, _⟩ | ⟨_, h1⟩
    · exact Nat.le_refl _
    · rw [h2] at h1; cases h1
  · refine .inl ?_
    rw [m.get, if_neg]; rintro rfl; exact Nat.lt_irrefl _ h2
theorem Rel.live_olds (r : Rel P B φ σ h) {β γ : Ad} {b d : Nat} {k g : Blk} {y : Nat × Nat} (hβ : φ β = some (b, d)) (hk : σ.get β = some k) (h1 : ¬ k.isDead) (h2 : ¬ k.stale) (hγ : φ γ = some y) (hg : σ.get γ = some g) : β ∉ g.olds := fun hm => by
  obtain ⟨b', d', k', h4, h5, h6⟩ := r.olds _ _ _ _ _ hγ hg hm
  rw [hk] at h5; cases h5
  rcases h6 with h6 | h6
  · exact h1 h6
  · exact h2 h6.1
/-- A live block is changed (its elders may be let go), and so is the model's. -/
theorem Rel.change (r : Rel P B φ σ h) {β : Ad} {b d : Nat} {k k' : Blk} (hβ : φ β = some (b, d)) (hk : σ.get β = some k) (h1 : ¬ k.isDead) (h2 : ¬ k.stale) (kill : Bool)
    (hσ : ∀ γ, σ'.get γ = if γ = β then some k' else if kill = true ∧ γ ∈ k.olds then some .dead else σ.get γ) (hnx : σ'.nx = σ.nx)
    (ho : k'.olds = if kill then [] else k.olds) (hsh : kill = false → k'.sh = k.sh)
    (hs : h'.size = h.size) (hc : ∀ b, csz h b ≤ csz h' b) (he : ∀ b', b' ≠ b → h'[b']? = h[b']?) (hbr : BR P φ h' k' b d)
    (hkeep : kill = false → ∀ γ d' g, γ ∈ k.olds → φ γ = some (b, d') → σ.get γ = some g → ¬ g.isDead → d' + g.len ≤ d + k.sh → BR P φ h' g b d') :
    Rel P B φ σ' h' ∧ Ext B φ σ h φ σ' h' := by
  have hβo : β ∉ k.olds := r.live_olds hβ hk h1 h2 hβ hk
  refine ⟨⟨fun γ y hy => by rw [hnx]; exact r.fresh γ y hy, fun γ b d hb => ⟨fun hBb => ?_, by rw [hs]; exact (r.low γ b d hb).2⟩, fun γ b1 d1 hb1 => ?_, fun γ δ b1 d1 d2 k1 k2 e1 e2 e3 e4 e5 => ?_, fun γ b1 d1 k1 δ e1 e2 e3 => ?_⟩,
    ⟨φ.le_refl, by rw [hnx]; exact Nat.le_refl _, fun γ y e1 e2 => absurd (e2.symm.trans e1) (by simp), fun γ e1 e2 => ?_, by rw [hs]; exact Nat.le_refl _, hc, fun b' hb' => he b' (fun e => by subst e; obtain ⟨k0, e0, dd⟩ := (r.low _ _ _ hβ).1 hb'; rw [hk] at e0; cases e0; exact h1 dd)⟩⟩
  · obtain ⟨k0, e0, dd⟩ := (r.low γ b d hb).1 hBb
    rw [hσ]
    by_cases hγ : γ = β
    · subst hγ
      rw [hk] at e0; cases e0
      exact absurd dd h1
    · rw [if_neg hγ]
      by_cases hki : kill = true ∧ γ ∈ k.olds
      · rw [if_pos hki]; exact ⟨_, rfl, trivial⟩
      · rw [if_neg hki]; exact ⟨k0, e0, dd⟩
  · rw [hσ]
    by_cases hγ : γ = β
    · subst hγ; rw [hβ] at hb1; cases hb1; exact ⟨k', by simp, hbr⟩
    · rw [if_neg hγ]
      by_cases hki : kill = true ∧ γ ∈ k.olds
      · rw [if_pos hki]; exact ⟨_, rfl, .dead _ _⟩
      · rw [if_neg hki]
        obtain ⟨g, hg, hgr⟩ := r.blk _ _ _ hb1
        refine ⟨g, hg, ?_⟩
        by_cases hbb : b1 = b
        · subst hbb
          rcases r.inj _ _ _ _ _ _ _ hβ hb1 (Ne.symm hγ) hk hg with h | h | h | h
          · exact absurd h h1
          · cases g <;> first | exact .dead _ _ | exact h.elim
          · obtain ⟨b', d', g', q1, q2, q3⟩ := r.olds _ _ _ _ _ hβ hk h
            rw [hb1] at q1; cases q1
            rw [hg] at q2; cases q2
            rcases q3 with q3 | q3
            · cases g <;> first | exact .dead _ _ | exact q3.elim
            · have hkf : kill = false := by cases kill <;> simp_all
              refine hkeep hkf _ _ _ h hb1 hg (fun hd => ?_) (q3.2 rfl)
              cases g <;> first | exact q3.1 | exact hd
          · exact absurd h (r.live_olds hβ hk h1 h2 hb1 hg)
        · exact hgr.mono φ.le_refl hc (he _ hbb)
  · have conv : ∀ ε ke y, φ ε = some y → σ'.get ε = some ke → ke.isDead ∨ ∃ ke0, σ.get ε = some ke0 ∧ (ke0.isDead → ke.isDead) ∧ (ke.olds = ke0.olds ∨ (kill = true ∧ ε = β ∧ ke0 = k)) := fun ε ke y hy hke => by
      rw [hσ] at hke
      by_cases hε : ε = β
      · rw [if_pos hε] at hke; cases hke; subst hε
        refine .inr ⟨k, hk, fun h => absurd h h1, ?_⟩
        cases kill
        · left; simpa using ho
        · right; exact ⟨rfl, rfl, rfl⟩
      · rw [if_neg hε] at hke
        by_cases hki : kill = true ∧ ε ∈ k.olds
        · rw [if_pos hki] at hke; cases hke; exact .inl trivial
        · rw [if_neg hki] at hke; exact .inr ⟨ke, hke, id, .inl rfl⟩
    rcases conv _ _ _ e1 e4 with h | ⟨g1, p1, p2, p3⟩
    · exact .inl h
    rcases conv _ _ _ e2 e5 with h | ⟨g2, q1, q2, q3⟩
    · exact .inr (.inl h)
    have dd : kill = true → ∀ ε ke, ε ∈ k.olds → σ'.get ε = some ke → ke.isDead := fun hkl ε ke hm hke => by
      rw [hσ, if_neg (by rintro rfl; exact hβo hm), if_pos ⟨hkl, hm⟩] at hke; cases hke; trivial
    rcases r.inj _ _ _ _ _ _ _ e1 e2 e3 p1 q1 with h | h | h | h
    · exact .inl (p2 h)
    · exact .inr (.inl (q2 h))
    · rcases p3 with p3 | ⟨hkl, rfl, rfl⟩
      · rw [← p3] at h; exact .inr (.inr (.inl h))
      · exact .inr (.inl (dd hkl _ _ h e5))
    · rcases q3 with q3 | ⟨hkl, rfl, rfl⟩
      · rw [← q3] at h; exact .inr (.inr (.inr h))
      · exact .inl (dd hkl _ _ h e4)
  · have key : ∀ ke0 (_ : σ.get γ = some ke0), δ ∈ ke0.olds → (k1.sh = ke0.sh) → ∃ b' d' g, φ δ = some (b', d') ∧ σ'.get δ = some g ∧ (g.isDead ∨ g.stale ∧ (b' = b1 → d' + g.len ≤ d1 + k1.sh)) := fun ke0 hke0 hm hsh' => by
      obtain ⟨b', d', g, q1, q2, q3⟩ := r.olds _ _ _ _ _ e1 hke0 hm
      rw [hσ]
      by_cases hδ : δ = β
      · subst hδ
        exact absurd hm (r.live_olds hβ hk h1 h2 e1 hke0)
      · rw [if_neg hδ]
        by_cases hki : kill = true ∧ δ ∈ k.olds
        · rw [if_pos hki]; exact ⟨b', d', _, q1, rfl, .inl trivial⟩
        · rw [if_neg hki]; exact ⟨b', d', g, q1, q2, by rw [hsh']; exact q3⟩
    rw [hσ] at e2
    by_cases hγ : γ = β
    · rw [if_pos hγ] at e2; cases e2; subst hγ
      rw [ho] at e3
      cases kill with
      | true => cases e3
      | false => exact key k hk (by simpa using e3) (hsh rfl)
    · rw [if_neg hγ] at e2
      by_cases hki : kill = true ∧ γ ∈ k.olds
      · rw [if_pos hki] at e2; cases e2; cases e3
      · rw [if_neg hki] at e2; exact key k1 e2 e3 rfl
  · refine .inl ?_
    rw [hσ, if_neg (by rintro rfl; rw [hβ] at e1; cases e1), if_neg]
    rintro ⟨_, hm⟩
    obtain ⟨b', d', g, q1, _⟩ := r.olds _ _ _ _ _ hβ hk hm
    rw [e1] at q1; cases q1
end
end Go.Am
