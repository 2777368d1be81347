import Derived.Test.YtfdbmpokhfjdoaaGreatDoorAmS12
set_option linter.unusedVariables false
set_option linter.unusedSimpArgs false
/-! Soundness, 13: constants, what is built, blocks that are made. -/
namespace Go.Am
open Go
theorem packV_s : ∀ (l : List Value) (n : Nat), packV l = some n → ∀ i (h : i < l.length), l[i] = .int .u8 ((byteAt n i : Nat) : Int) := by
  intro l
  induction l with
  | nil => intro n _ i h; exact absurd h (Nat.not_lt_zero _)
  | cons v r ih =>
    intro n hn i h
    unfold packV at hn
    split at hn
    · rename_i b m hb hm
      cases hn
      have hv : v = .int .u8 (b : Int) ∧ b < 256 := by
        unfold byteOfV at hb
        split at hb
        · rename_i q
          split at hb
          · rename_i hlt; cases hb; exact ⟨rfl, hlt⟩
          · cases hb
        · cases hb
      cases i with
      | zero =>
        have h0 : byteAt (b + 256 * m) 0 = b := by simp only [byteAt, Nat.mul_zero, Nat.shiftRight_zero]; have := hv.2; omega
        rw [List.getElem_cons_zero, hv.1, h0]
      | succ i =>
        rw [List.getElem_cons_succ, ih m hm i (by simpa using h)]
        have h1 : byteAt m i = byteAt (b + 256 * m) (i + 1) := by
          show (m >>> (8 * i)) % 256 = ((b + 256 * m) >>> (8 * (i + 1))) % 256
          rw [Nat.shiftRight_eq_div_pow, Nat.shiftRight_eq_div_pow, show 8 * (i + 1) = 8 + 8 * i by omega, Nat.pow_add, ← Nat.div_div_eq_div_mul]
          have := hv.2
          rw [show (b + 256 * m) / 2 ^ 8 = m by omega]
        rw [h1]
    · cases hn
theorem scalarOf_s {v : Value} {a : AV} (h : scalarOf v = some a) (φ : Emb) (κ : Nat → Nat) : VR φ κ a v ∧ a.plain := by
  unfold scalarOf at h
  split at h <;> first | cases h | skip
  · exact ⟨.bool _, rfl⟩
  · rename_i k n
    cases n
    · exact ⟨.nat _ _, rfl⟩
    · exact ⟨.neg _ _, rfl⟩
  · exact ⟨.str' _ rfl rfl, rfl⟩
  · exact ⟨.pnil, rfl⟩
  · exact ⟨.snil, rfl⟩
  · exact ⟨.mnil, rfl⟩
  · exact ⟨.fnil, rfl⟩
  · exact ⟨.inil, rfl⟩
theorem ropeOf_s : ∀ (d : Nat) (l : List Value) (r : AV), ropeOf d l = some r → ∀ φ κ, CR φ κ r l := by
  intro d
  induction d with
  | zero => intro l r h; cases h
  | succ d ih =>
    intro l r h φ κ
    unfold ropeOf at h
    split at h
    · rename_i n hn
      cases h
      intro i hi
      exact ⟨_, rget_rb hi, rfl, by rw [packV_s l n hn i hi]; exact .nat _ _⟩
    · split at h
      · rename_i v hv
        simp only [Option.map_eq_some_iff] at h
        obtain ⟨a, ha, rfl⟩ := h
        intro i hi
        simp only [List.length_singleton] at hi
        obtain rfl : i = 0 := by omega
        exact ⟨a, rfl, (scalarOf_s ha φ κ).2, (scalarOf_s ha φ κ).1⟩
      · split at h
        · rename_i a b ha hb
          cases h
          have c1 := ih _ _ ha φ κ
          have c2 := ih _ _ hb φ κ
          intro i hi
          by_cases hl : i < l.length / 2
          · obtain ⟨v, h1, h2, h3⟩ := c1 i (by simp; omega)
            exact ⟨v, by simp [AV.rget, hl, h1], h2, by simpa using h3⟩
          · obtain ⟨v, h1, h2, h3⟩ := c2 (i - l.length / 2) (by simp; omega)
            refine ⟨v, by simp [AV.rget, hl, h1], h2, ?_⟩
            rw [List.getElem_drop] at h3
            simpa [show l.length / 2 + (i - l.length / 2) = i by omega] using h3
        · cases h
theorem avOf_s {v : Value} {a : AV} (h : avOf v = some a) (φ : Emb) (κ : Nat → Nat) : VR φ κ a v := by
  unfold avOf at h
  split at h
  · rename_i cs
    simp only [Option.map_eq_some_iff] at h
    obtain ⟨r, hr, rfl⟩ := h
    exact CR.agg (ropeOf_s _ _ _ hr φ κ)
  · rename_i vs
    split at h
    · rename_i hs
      cases h
      have : vs = #[] := Array.size_eq_zero_iff.1 hs
      subst this
      exact .undef
    · cases h
  · exact (scalarOf_s h φ κ).1
theorem cellsK_cr {v : AV} {k : Nat → AV → Bool} (h : v.cellsK k = true) : ∃ n c, k n c = true ∧ ∀ {φ κ x}, VR φ κ v x → x.cells.size = n ∧ CR φ κ c x.cells.toList := by
  have one : ∀ (u : AV), u.plain → ∀ {φ κ x}, VR φ κ u x → x.cells.size = 1 ∧ CR φ κ (.r1 u) x.cells.toList := fun u hp φ κ x hx => by
    have h1 := hx.one hp
    have : x.cells = #[x] := by cases x <;> first | rfl | cases h1
    rw [this]
    refine ⟨rfl, fun i hi => ?_⟩
    simp only [List.length_singleton] at hi
    obtain rfl : i = 0 := by omega
    exact ⟨u, rfl, hp, hx⟩
  have mk : ∀ u : AV, u.plain → k 1 (.r1 u) = true → ∃ n c, k n c = true ∧ ∀ {φ κ x}, VR φ κ u x → x.cells.size = n ∧ CR φ κ c x.cells.toList := fun u hp h => ⟨1, .r1 u, h, fun hx => one u hp hx⟩
  cases v
  case nat q n =>
    cases q <;> first | exact mk _ rfl h | skip
    obtain ⟨h1, h2⟩ := sel_yes h
    have hn : n ≤ 255 := Nat.le_of_ble_eq_true h1
    refine ⟨_, _, h2, fun {φ κ x} hx => ?_⟩
    cases hx
    refine ⟨rfl, fun i hi => ?_⟩
    have hi : i < 1 := hi
    obtain rfl : i = 0 := by omega
    refine ⟨.nat .u8 n, ?_, rfl, .nat _ _⟩
    have : byteAt n 0 = n := by simp [byteAt]; omega
    simp [AV.rget, this]
  case agg n c =>
    refine ⟨n, c, h, fun {φ κ x} hx => ?_⟩
    obtain ⟨xs, rfl, hn, hc⟩ := hx.agg_inv
    exact ⟨hn, hc⟩
  all_goals first | exact mk _ rfl h | (simp only [AV.cellsK, Bool.false_eq_true] at h)
theorem fold_put (vs : List Value) : ∀ (cs : Array Value) (off j0 : Nat), (vs.zipIdx j0).foldl (fun cs (p : Value × Nat) => cs.setIfInBounds (off + p.2) p.1) cs = putL cs (off + j0) vs := by
  induction vs with
  | nil => intro cs off j0; rfl
  | cons v r ih =>
    intro cs off j0
    rw [List.zipIdx_cons, List.foldl_cons, ih, putL]
    rfl
theorem CR.splice {φ : Emb} {κ : Nat → Nat} {c c' src : AV} {cs : Array Value} {xs : List Value} {off : Nat} (hc : CR φ κ c cs.toList) (hx : CR φ κ src xs) (hle : off + xs.length ≤ cs.size) (h : ∀ i, i < cs.size → c'.rget i = if off ≤ i ∧ i < off + xs.length then src.rget (i - off) else c.rget i) :
    CR φ κ c' (putL cs off xs).toList := fun i hi => by
  simp only [Array.length_toList, putL_size] at hi
  have hg := putL_get xs cs off i hle
  have hi' : i < (putL cs off xs).size := by simpa using hi
  rw [Array.getElem?_eq_getElem hi'] at hg
  rw [Array.getElem_toList, h i hi]
  by_cases hin : off ≤ i ∧ i < off + xs.length
  · rw [if_pos hin] at hg ⊢
    obtain ⟨v, h1, h2, h3⟩ := hx (i - off) (by omega)
    rw [List.getElem?_eq_getElem (by omega)] at hg
    rw [Option.some.inj hg]
    exact ⟨v, h1, h2, h3⟩
  · rw [if_neg hin] at hg ⊢
    obtain ⟨v, h1, h2, h3⟩ := hc i (by simpa using hi)
    rw [Array.getElem?_eq_getElem hi] at hg
    rw [Option.some.inj hg]
    rw [Array.getElem_toList] at h3
    exact ⟨v, h1, h2, h3⟩
/-- Parts, in step with the model's. -/
inductive PartsR (φ : Emb) (κ : Nat → Nat) (t : Regs) (ls : Ls) (place : Nat → Option (Nat × Nat)) : PartsW → List (Nat × Value) → Prop
  | nil : PartsR φ κ t ls place .nil []
  | cons (i off n : Nat) (x : OpdF) (v : Value) (ps : PartsW) (vs : List (Nat × Value)) (hp : place i = some (off, n)) (hv : VR φ κ (x t ls) v) (h : PartsR φ κ t ls place ps vs) : PartsR φ κ t ls place (.cons off n x ps) ((i, v) :: vs)
theorem fillK_true {t : Regs} {ls : Ls} {n : Nat} {ps : PartsW} : ∀ {c : AV} {k : AV → Bool}, ps.fillK n t ls c k = true →
    ∃ c', k c' = true ∧ ∀ {φ κ place vs}, PartsR φ κ t ls place ps vs → ∀ cs : Array Value, cs.size = n → CR φ κ c cs.toList → ∃ cs', Instr.fill place cs vs = some cs' ∧ cs'.size = n ∧ CR φ κ c' cs'.toList := by
  induction ps with
  | nil => intro c k h; exact ⟨c, h, fun hp cs hs hc => by cases hp; exact ⟨cs, rfl, hs, hc⟩⟩
  | cons off m x r ih =>
    intro c k h
    obtain ⟨m', src, h1, hv⟩ := cellsK_cr (show (x t ls).cellsK (fun m' r' => sel (Nat.beq m m') (sel (Nat.ble (Nat.add off m) n) (sel (Nat.beq m 0) (r.fillK n t ls c k) (spliceK n c off m r' fun c => r.fillK n t ls c k)) false) false) = true from h)
    obtain ⟨h2, h3⟩ := sel_yes h1
    have hm : m = m' := Nat.eq_of_beq_eq_true h2
    obtain ⟨h4, h5⟩ := sel_yes h3
    have hle : off + m ≤ n := Nat.le_of_ble_eq_true h4
    have step : ∀ {φ κ place i v vs cs}, place i = some (off, m) → VR φ κ (x t ls) v → cs.size = n → Instr.fill place cs ((i, v) :: vs) = Instr.fill place (putL cs off v.cells.toList) vs := fun {φ κ place i v vs cs} hp hvv hs => by
      have hsz := (hv hvv).1
      simp only [Instr.fill, hp]
      rw [if_neg (by simp; omega)]
      congr 1
      have := fold_put v.cells.toList cs off 0
      rw [Nat.add_zero] at this
      rw [← this, ← Array.foldl_toList]
      rw [Array.toList_zipIdx]
    rw [sel_true_iff] at h5
    rcases h5 with ⟨h6, h7⟩ | ⟨h6, h7⟩
    · have hm0 : m = 0 := Nat.eq_of_beq_eq_true h6
      obtain ⟨c', hk, hc'⟩ := ih h7
      refine ⟨c', hk, fun {φ κ place vs} hp cs hs hc => ?_⟩
      cases hp with
      | cons i _ _ _ v _ vs hpl hvv hr =>
        have hsz := (hv hvv).1
        have hnil : v.cells.toList = [] := by apply List.length_eq_zero_iff.1; rw [Array.length_toList]; omega
        rw [step hpl hvv hs, hnil]
        exact hc' hr cs hs hc
    · obtain ⟨c1, h8, hs1⟩ := spliceK_true h7 hle
      obtain ⟨c', hk, hc'⟩ := ih h8
      refine ⟨c', hk, fun {φ κ place vs} hp cs hs hc => ?_⟩
      cases hp with
      | cons i _ _ _ v _ vs hpl hvv hr =>
        obtain ⟨hsz, hcr⟩ := hv hvv
        rw [step hpl hvv hs]
        have hlen : v.cells.toList.length = m := by rw [Array.length_toList, hsz, hm]
        refine hc' hr _ (by simpa using hs) (hc.splice hcr (by omega) fun i hi => ?_)
        rw [hlen]; exact hs1 i (by omega)
theorem VR.func' {φ : Emb} {κ : Nat → Nat} {f : Nat} {a c : AV} {xs ys : Array Value} (ha : LR φ κ a xs.toList) (hc : LR φ κ c ys.toList) : VR φ κ (.func f (.cons a c)) (.func (.func f) xs ys) := by
  obtain ⟨as, h1, h2, h3⟩ := ha
  obtain ⟨cs, h4, h5, h6⟩ := hc
  exact .func f a c as cs xs ys h1 h4 (by simpa using h2) (by simpa using h5) (fun i h h' => by have := h3 i h (by simpa using h'); rwa [Array.getElem_toList] at this) (fun i h h' => by have := h6 i h (by simpa using h'); rwa [Array.getElem_toList] at this)
theorem VR.func_inv {φ : Emb} {κ : Nat → Nat} {f : Nat} {c : AV} {x : Value} (h : VR φ κ (.func f c) x) : ∃ a b xs ys, c = .cons a b ∧ x = .func (.func f) xs ys ∧ LR φ κ a xs.toList ∧ LR φ κ b ys.toList := by
  cases h with
  | func _ a c as cs xs ys ha hc hla hlc h1 h2 =>
    exact ⟨a, c, xs, ys, rfl, rfl, ⟨as, ha, by simpa using hla, fun i h h' => by rw [Array.getElem_toList]; exact h1 i h (by simpa using h')⟩, ⟨cs, hc, by simpa using hlc, fun i h h' => by rw [Array.getElem_toList]; exact h2 i h (by simpa using h')⟩⟩
end Go.Am
