import Derived.Test.YtfdbmpokhfjdoaaGreatDoorAmS21
set_option linter.unusedVariables false
set_option linter.unusedSimpArgs false
/-! Soundness, 22: regions that draw their order: all orders come to what the one that is run comes to. -/
namespace Go.Am
open Go
/-! ### The order -/
theorem foldl_bits (g : Nat → Nat) (x : Nat) : ∀ (es : List Nat) (m : Nat), (es.foldl (fun m e => m ||| 2 ^ e ||| g e) m).testBit x = (m.testBit x || es.any fun e => e == x || (g e).testBit x)
  | [], m => by simp
  | e :: es, m => by
    rw [List.foldl_cons, foldl_bits g x es]
    simp only [Nat.testBit_or, Nat.testBit_two_pow, List.any_cons]
    by_cases h : e = x
    · subst h; simp
    · have : (e == x) = false := by simp [h]
      simp [this, h, Bool.or_assoc]
theorem foldl_congr {g g' : Nat → Nat} : ∀ (es : List Nat) (m : Nat), (∀ e ∈ es, g e = g' e) → es.foldl (fun m e => m ||| 2 ^ e ||| g e) m = es.foldl (fun m e => m ||| 2 ^ e ||| g' e) m
  | [], m, _ => rfl
  | e :: es, m, h => by
    rw [List.foldl_cons, List.foldl_cons, h e (by simp)]
    exact foldl_congr es _ fun e' he => h e' (by simp [he])
theorem ancs_spec : ∀ (ops : List Oper) (acc : List Nat), (∃ tail, ancs ops acc = acc ++ tail ∧ tail.length = ops.length) ∧
    ∀ j o, ops[j]? = some o → (∀ e ∈ edgesOf o, e < acc.length + j) → (ancs ops acc).getD (acc.length + j) 0 = (edgesOf o).foldl (fun m e => m ||| 2 ^ e ||| (ancs ops acc).getD e 0) 0
  | [], acc => ⟨⟨[], by simp [ancs], rfl⟩, fun j o h => by simp at h⟩
  | o :: r, acc => by
    obtain ⟨⟨tail, h1, h2⟩, h3⟩ := ancs_spec r (acc ++ [(edgesOf o).foldl (fun m e => m ||| 2 ^ e ||| acc.getD e 0) 0])
    have hun : ancs (o :: r) acc = ancs r (acc ++ [(edgesOf o).foldl (fun m e => m ||| 2 ^ e ||| acc.getD e 0) 0]) := rfl
    refine ⟨⟨_ :: tail, by rw [hun, h1, List.append_assoc]; rfl, by simp [h2]⟩, fun j o' hj he => ?_⟩
    rw [hun]
    cases j with
    | zero =>
      simp only [List.getElem?_cons_zero, Option.some.injEq] at hj
      subst hj
      rw [h1]
      simp only [Nat.add_zero] at he ⊢
      have e1 : ∀ e, e < acc.length → (acc ++ [(edgesOf o).foldl (fun m e => m ||| 2 ^ e ||| acc.getD e 0) 0] ++ tail).getD e 0 = acc.getD e 0 := fun e hlt => by
        simp only [List.getD_eq_getElem?_getD]
        rw [List.getElem?_append_left (by simp; omega), List.getElem?_append_left hlt]
      have e2 : (acc ++ [(edgesOf o).foldl (fun m e => m ||| 2 ^ e ||| acc.getD e 0) 0] ++ tail).getD acc.length 0 = (edgesOf o).foldl (fun m e => m ||| 2 ^ e ||| acc.getD e 0) 0 := by
        simp only [List.getD_eq_getElem?_getD]
        rw [List.getElem?_append_left (by simp), List.getElem?_append_right (Nat.le_refl _)]
        simp
      rw [e2]
      exact foldl_congr _ _ fun e hm => (e1 e (he e hm)).symm
    | succ j =>
      have := h3 j o' (by simpa using hj) (fun e hm => by have := he e hm; simp; omega)
      simp only [List.length_append, List.length_cons, List.length_nil, Nat.zero_add] at this
      rw [show acc.length + (j + 1) = acc.length + 1 + j by omega]
      exact this
theorem edgesOk_spec : ∀ (r : List Oper) (i : Nat), edgesOk r i = true → ∀ j o, r[j]? = some o → ∀ e ∈ edgesOf o, e < i + j
  | [], i, _, j, o, hj => by simp at hj
  | o :: r, i, h, j, o', hj => by
    simp only [edgesOk, Bool.and_eq_true, List.all_eq_true, decide_eq_true_eq] at h
    cases j with
    | zero =>
      simp only [List.getElem?_cons_zero, Option.some.injEq] at hj
      subst hj
      exact fun e he => by have := h.1 e he; omega
    | succ j =>
      intro e he
      have := edgesOk_spec r (i + 1) h.2 j o' (by simpa using hj) e he
      omega
theorem ancs_bit {ops : List Oper} (hok : edgesOk ops 0 = true) {i : Nat} {o : Oper} (hi : ops[i]? = some o) (x : Nat) :
    ((ancs ops []).getD i 0).testBit x = true ↔ ∃ e ∈ edgesOf o, e = x ∨ ((ancs ops []).getD e 0).testBit x = true := by
  have := (ancs_spec ops []).2 i o hi (fun e he => by have := edgesOk_spec ops 0 hok i o hi e he; simpa using this)
  simp only [List.length_nil, Nat.zero_add] at this
  rw [this, foldl_bits]
  simp [List.any_eq_true]
theorem orderOk_spec {A : List Nat} {wm : Nat} : ∀ (ord : List Nat) (done dw : Nat), orderOk A wm ord done dw = true → ∀ p i q, ord = p ++ i :: q →
    (∀ x, (A.getD i 0).testBit x = true → done.testBit x = true ∨ x ∈ p) ∧ (done.testBit i = false ∧ i ∉ p) ∧ (∀ x, (dw.testBit x = true ∨ (x ∈ p ∧ wm.testBit x = true)) → (A.getD i 0).testBit x = true) := by
  intro ord
  induction ord with
  | nil => intro done dw _ p i q h; cases p <;> cases h
  | cons j r ih =>
    intro done dw h p i q hp
    simp only [orderOk, Bool.and_eq_true, beq_iff_eq, Bool.not_eq_true'] at h
    obtain ⟨⟨⟨h1, h2⟩, h3⟩, h4⟩ := h
    cases p with
    | nil =>
      simp only [List.nil_append, List.cons.injEq] at hp
      obtain ⟨rfl, rfl⟩ := hp
      refine ⟨fun x hx => .inl ?_, ⟨h3, by simp⟩, fun x hx => ?_⟩
      · have := congrArg (fun m => m.testBit x) h1
        simp only [Nat.testBit_and, hx, Bool.true_and] at this
        exact this
      · rcases hx with hx | ⟨hx, _⟩
        · have := congrArg (fun m => m.testBit x) h2
          simp only [Nat.testBit_and, hx, Bool.true_and] at this
          exact this
        · cases hx
    | cons j' p =>
      simp only [List.cons_append, List.cons.injEq] at hp
      obtain ⟨rfl, rfl⟩ := hp
      obtain ⟨q1, ⟨q2, q3⟩, q4⟩ := ih _ _ h4 p i q rfl
      rw [Nat.testBit_or, Nat.testBit_two_pow, Bool.or_eq_false_iff, decide_eq_false_iff_not] at q2
      refine ⟨fun x hx => ?_, ⟨q2.1, by simp only [List.mem_cons, not_or]; exact ⟨fun e => q2.2 e.symm, q3⟩⟩, fun x hx => q4 x ?_⟩
      · rcases q1 x hx with h | h
        · rw [Nat.testBit_or, Nat.testBit_two_pow, Bool.or_eq_true, decide_eq_true_eq] at h
          rcases h with h | h
          · exact .inl h
          · exact .inr (by simp [h])
        · exact .inr (by simp [h])
      · rcases hx with hx | ⟨hx, hw⟩
        · left; split
          · rw [Nat.testBit_or, hx]; rfl
          · exact hx
        · rcases List.mem_cons.1 hx with rfl | hx
          · left; rw [hw, if_pos rfl, Nat.testBit_or, Nat.testBit_two_pow]; simp
          · exact .inr ⟨hx, hw⟩
theorem nodup_len : ∀ (n : Nat) (l : List Nat), l.Nodup → (∀ x ∈ l, x < n) → l.length ≤ n := by
  intro n
  induction n with
  | zero => intro l _ h; cases l with | nil => exact Nat.le_refl _ | cons x r => exact absurd (h x (by simp)) (Nat.not_lt_zero _)
  | succ n ih =>
    intro l hn h
    have h1 := ih (l.erase n) (hn.erase n) fun x hx => by
      have hx' := (List.Nodup.mem_erase_iff hn).1 hx
      have := h x hx'.2
      have := hx'.1
      omega
    have h2 := List.length_erase_of_mem (a := n) (l := l)
    by_cases hm : n ∈ l
    · rw [h2 hm] at h1; omega
    · rw [List.erase_of_not_mem hm] at h1; omega
theorem all_in {n : Nat} {l : List Nat} (hn : l.Nodup) (h : ∀ x ∈ l, x < n) (hl : l.length = n) {i : Nat} (hi : i < n) : i ∈ l := by
  apply Classical.byContradiction
  intro hm
  have := nodup_len n (i :: l) (List.nodup_cons.2 ⟨hm, hn⟩) fun x hx => by
    rcases List.mem_cons.1 hx with rfl | hx
    · exact hi
    · exact h x hx
  simp at this
  omega
theorem writersOf_div (t : Tmp) : ∀ (l : List Oper) (i : Nat), ∃ a, writersOf t l i = 2 ^ i * a
  | [], i => ⟨0, rfl⟩
  | o :: r, i => by
    obtain ⟨a, ha⟩ := writersOf_div t r (i + 1)
    simp only [writersOf, ha]
    split
    · exact ⟨1 + 2 * a, by rw [Nat.pow_succ, Nat.mul_add, Nat.mul_one, Nat.mul_assoc]⟩
    · exact ⟨2 * a, by rw [Nat.pow_succ, Nat.mul_assoc, Nat.zero_add]⟩
theorem writersOf_bit (t : Tmp) : ∀ (l : List Oper) (i j : Nat), (writersOf t l i).testBit j = (decide (i ≤ j) && match l[j - i]? with | some o => o.dst == some t | none => false)
  | [], i, j => by simp [writersOf]
  | o :: r, i, j => by
    have ih := writersOf_bit t r (i + 1) j
    have hd := writersOf_div t r (i + 1)
    have key : (writersOf t r (i + 1)).testBit j = (decide (i + 1 ≤ j) && match (o :: r)[j - i]? with | some o => o.dst == some t | none => false) := by
      rw [ih]
      by_cases hij : i + 1 ≤ j
      · rw [show j - i = (j - (i + 1)) + 1 by omega, List.getElem?_cons_succ]
      · simp [hij]
    simp only [writersOf]
    by_cases hj : i = j
    · subst hj
      have h0 : (writersOf t r (i + 1)).testBit i = false := by rw [key, decide_eq_false (by omega), Bool.false_and]
      simp only [Nat.sub_self, List.getElem?_cons_zero, Nat.le_refl, decide_true, Bool.true_and]
      split
      · rename_i hf; rw [testBit_pow_add hd, hf]; simp
      · rename_i hf; rw [Nat.zero_add, h0]; simpa using hf
    · have h1 : decide (i ≤ j) = decide (i + 1 ≤ j) := by simp; omega
      rw [h1, ← key]
      split
      · rw [testBit_pow_add hd]; simp [hj]
      · rw [Nat.zero_add]
theorem inOrder_spec {A : List Nat} {i m : Nat} : ∀ (n : Nat), inOrder A i m n = true → ∀ j, j < n → m.testBit j = true → j ≠ i → (A.getD i 0).testBit j = false → (A.getD j 0).testBit i = true
  | 0, _, j, hj => absurd hj (Nat.not_lt_zero _)
  | n + 1, h, j, hj => by
    intro h1 h2 h3
    simp only [inOrder, Bool.and_eq_true] at h
    by_cases hjn : j = n
    · subst hjn
      have h4 := h.1
      rw [if_pos (by simp [h1, h2]; simpa [List.getD_eq_getElem?_getD] using h3)] at h4
      exact h4
    · exact inOrder_spec n h.2 j (by omega) h1 h2 h3
theorem tmpsOk_spec {ops : List Oper} {A : List Nat} {n : Nat} : ∀ (r : List Oper) (i : Nat), tmpsOk ops A n r i = true → ∀ j o, r[j]? = some o → ∀ u ∈ namesOf ops o, ∀ x, x < n → (writersOf u ops 0).testBit x = true → x = i + j ∨ (A.getD (i + j) 0).testBit x = true ∨ (A.getD x 0).testBit (i + j) = true
  | [], i, _, j, o, hj => by simp at hj
  | o :: r, i, h, j, o', hj => by
    simp only [tmpsOk, Bool.and_eq_true, List.all_eq_true, Bool.or_eq_true, beq_iff_eq] at h
    cases j with
    | zero =>
      simp only [List.getElem?_cons_zero, Option.some.injEq] at hj
      subst hj
      intro u hu x hx hw
      simp only [Nat.add_zero]
      rcases h.1 u hu with h1 | h1
      · have := congrArg (fun m => m.testBit x) h1
        simp only [Nat.testBit_and, Nat.testBit_or, Nat.testBit_two_pow, hw, Bool.true_and, Bool.or_eq_true, decide_eq_true_eq] at this
        rcases this with h | h
        · exact .inl h.symm
        · exact .inr (.inl h)
      · by_cases hxi : x = i
        · exact .inl hxi
        · cases ha : (A.getD i 0).testBit x with
          | true => exact .inr (.inl rfl)
          | false => exact .inr (.inr (inOrder_spec n h1 x hx hw hxi ha))
    | succ j =>
      intro u hu x hx hw
      have := tmpsOk_spec r (i + 1) h.2 j o' (by simpa using hj) u hu x hx hw
      rw [show i + (j + 1) = i + 1 + j by omega]
      exact this
/-! ### The plan -/
noncomputable def hAt (rest : List Ent) (σN : Hp) : Hp := match rest with | [] => σN | e :: _ => e.σ
noncomputable def tAt (rest : List Ent) (tN : Regs) : Regs := match rest with | [] => tN | e :: _ => e.t
structure Plan (P : Program) (C : Cx) (ops : List Oper) (A : List Nat) (tr : List Ent) (t0 : Regs) (σ0 : Hp) (tN : Regs) (σN : Hp) : Prop where
  binds : C.binds = []
  ent : ∀ e ∈ tr, EntOK P C ops e
  tail : TailOK P C ops A tr
  chain : Chain t0 σ0 tr tN σN
  all : ∀ i, i < ops.length → ∃ p e q, tr = p ++ e :: q ∧ e.i = i
  uniq : ∀ p e q, tr = p ++ e :: q → (∀ x ∈ p, x.i ≠ e.i) ∧ ∀ x ∈ q, x.i ≠ e.i
  before : ∀ p e q, tr = p ++ e :: q → ∀ x, (A.getD e.i 0).testBit x = true → ∃ y ∈ p, y.i = x
  wrb : ∀ p e q, tr = p ++ e :: q → ∀ x ∈ p, x.k = .wr → (A.getD e.i 0).testBit x.i = true
  anc : ∀ i o x, ops[i]? = some o → ((A.getD i 0).testBit x = true ↔ ∃ e ∈ edgesOf o, e = x ∨ (A.getD e 0).testBit x = true)
  edge : ∀ i o, ops[i]? = some o → ∀ e ∈ edgesOf o, e < i
  tmps : ∀ i o, ops[i]? = some o → ∀ u ∈ namesOf ops o, ∀ j o', ops[j]? = some o' → o'.dst = some u → j = i ∨ (A.getD i 0).testBit j = true ∨ (A.getD j 0).testBit i = true
theorem Chain.split : ∀ {p : List Ent} {t : Regs} {σ : Hp} {rest : List Ent} {tN : Regs} {σN : Hp}, Chain t σ (p ++ rest) tN σN → Chain t σ p (tAt rest tN) (hAt rest σN) ∧ Chain (tAt rest tN) (hAt rest σN) rest tN σN
  | [], t, σ, [], tN, σN, h => ⟨⟨h.1, h.2⟩, ⟨rfl, rfl⟩⟩
  | [], t, σ, e :: r, tN, σN, h => ⟨⟨h.1, h.2.1⟩, ⟨rfl, rfl, h.2.2⟩⟩
  | e :: p, t, σ, rest, tN, σN, ⟨h1, h2, h3⟩ => let ⟨q1, q2⟩ := Chain.split (p := p) h3; ⟨⟨h1, h2, q1⟩, q2⟩
section
variable {P : Program} {C : Cx} {ops : List Oper}
/-- Along a trace without writes the heap only gains blocks. -/
theorem chain_frame : ∀ (p : List Ent) (t : Regs) (σ : Hp) (tN : Regs) (σN : Hp), Chain t σ p tN σN → (∀ e ∈ p, EntOK P C ops e) → (∀ e ∈ p, e.k ≠ .wr) →
    σ.nx.toNat ≤ σN.nx.toNat ∧ (∀ β : Ad, β.toNat < σ.nx.toNat → σN.get β = σ.get β) ∧ (∀ e ∈ p, ∀ blk β, e.k = .al blk β → σ.nx.toNat ≤ β.toNat ∧ β.toNat < σN.nx.toNat ∧ σN.get β = some blk) ∧
      ∀ e ∈ p, ∀ g ∈ p, ∀ blk β blk' γ, e.k = .al blk β → g.k = .al blk' γ → e.i ≠ g.i → β ≠ γ
  | [], t, σ, tN, σN, ⟨_, h⟩, _, _ => by subst h; exact ⟨Nat.le_refl _, fun _ _ => rfl, (fun e he => by cases he), fun e he => by cases he⟩
  | e :: p, t, σ, tN, σN, ⟨h1, h2, h3⟩, hent, hwr => by
    obtain ⟨q1, q2, q3, q4⟩ := chain_frame p _ _ _ _ h3 (fun x hx => hent x (by simp [hx])) (fun x hx => hwr x (by simp [hx]))
    obtain ⟨o, ho, hg, ht, hk⟩ := hent e (by simp)
    subst h1 h2
    have same : e.σ' = e.σ → (∀ blk β, e.k ≠ .al blk β) → e.σ.nx.toNat ≤ σN.nx.toNat ∧ (∀ β : Ad, β.toNat < e.σ.nx.toNat → σN.get β = e.σ.get β) ∧ (∀ e_1 ∈ e :: p, ∀ blk β, e_1.k = .al blk β → e.σ.nx.toNat ≤ β.toNat ∧ β.toNat < σN.nx.toNat ∧ σN.get β = some blk) ∧ ∀ x ∈ e :: p, ∀ g ∈ e :: p, ∀ blk β blk' γ, x.k = .al blk β → g.k = .al blk' γ → x.i ≠ g.i → β ≠ γ := fun hs hna => by
      rw [hs] at q1 q2 q3
      refine ⟨q1, q2, fun x hx blk β hxk => ?_, fun x hx g hg blk β blk' γ hxk hgk hne => ?_⟩
      · rcases List.mem_cons.1 hx with rfl | hx
        · exact absurd hxk (hna _ _)
        · exact q3 x hx blk β hxk
      · rcases List.mem_cons.1 hx with rfl | hx
        · exact absurd hxk (hna _ _)
        · rcases List.mem_cons.1 hg with rfl | hg
          · exact absurd hgk (hna _ _)
          · exact q4 x hx g hg blk β blk' γ hxk hgk hne
    cases hkk : e.k with
    | skip => rw [hkk] at hk; exact same hk.2.2 (fun _ _ h => by rw [hkk] at h; cases h)
    | rd => rw [hkk] at hk; exact same hk.2.1 (fun _ _ h => by rw [hkk] at h; cases h)
    | wr => exact absurd hkk (hwr e (by simp))
    | al blk β =>
      rw [hkk] at hk
      obtain ⟨_, rfl, m, _⟩ := hk
      have hnx := m.nx
      refine ⟨by omega, fun γ hγ => ?_, fun x hx blk' β' hk' => ?_, fun x hx g hg b1 β1 b2 γ1 hxk hgk hne => ?_⟩
      · rw [q2 γ (by omega), m.get, if_neg]; rintro rfl; exact Nat.lt_irrefl _ hγ
      · rcases List.mem_cons.1 hx with rfl | hx
        · rw [hkk] at hk'; cases hk'
          refine ⟨Nat.le_refl _, by omega, ?_⟩
          rw [q2 _ (by omega), m.get, if_pos rfl]
        · obtain ⟨r1, r2, r3⟩ := q3 x hx blk' β' hk'
          exact ⟨by omega, r2, r3⟩
      · rcases List.mem_cons.1 hx with rfl | hx1
        · rcases List.mem_cons.1 hg with rfl | hg1
          · exact absurd rfl hne
          · rw [hkk] at hxk; cases hxk
            obtain ⟨r1, _, _⟩ := q3 g hg1 b2 γ1 hgk
            rintro rfl
            omega
        · rcases List.mem_cons.1 hg with rfl | hg1
          · rw [hkk] at hgk; cases hgk
            obtain ⟨r1, _, _⟩ := q3 x hx1 b1 β1 hxk
            rintro rfl
            omega
          · exact q4 x hx1 g hg1 b1 β1 b2 γ1 hxk hgk hne
theorem first_wr : ∀ (l : List Ent), ∃ p r, l = p ++ r ∧ (∀ e ∈ p, e.k ≠ .wr) ∧ ∀ e q, r = e :: q → e.k = .wr
  | [] => ⟨[], [], rfl, (fun e he => by cases he), fun e q h => by cases h⟩
  | e :: l => by
    by_cases h : e.k = .wr
    · exact ⟨[], e :: l, rfl, (fun e he => by cases he), fun e q hh => by cases hh; exact h⟩
    · obtain ⟨p, r, rfl, h1, h2⟩ := first_wr l
      refine ⟨e :: p, r, rfl, fun x hx => ?_, h2⟩
      rcases List.mem_cons.1 hx with rfl | hx
      · exact h
      · exact h1 x hx
def dstOf (ops : List Oper) (i : Nat) : Option Tmp := (ops[i]?).bind (·.dst)
/-- What a temporary is behind those that have come. -/
noncomputable def valL (ops : List Oper) (L : Nat → Bool) (u : Tmp) : List Ent → AV → AV
  | [], x => x
  | e :: r, x => valL ops L u r (if L e.i && dstOf ops e.i == some u then e.v else x)
theorem valL_app {L : Nat → Bool} {u : Tmp} : ∀ (p q : List Ent) (x : AV), valL ops L u (p ++ q) x = valL ops L u q (valL ops L u p x)
  | [], q, x => rfl
  | e :: p, q, x => valL_app p q _
theorem valL_same {L L' : Nat → Bool} {u : Tmp} : ∀ (p : List Ent) (x : AV), (∀ e ∈ p, dstOf ops e.i = some u → L e.i = L' e.i) → valL ops L u p x = valL ops L' u p x
  | [], x, _ => rfl
  | e :: p, x, h => by
    simp only [valL]
    have : (L e.i && dstOf ops e.i == some u) = (L' e.i && dstOf ops e.i == some u) := by
      by_cases hd : dstOf ops e.i = some u
      · rw [h e (by simp) hd]
      · have : (dstOf ops e.i == some u) = false := by simp [hd]
        rw [this]; simp
    rw [this]
    exact valL_same p _ fun e he => h e (by simp [he])
theorem valL_none {L : Nat → Bool} {u : Tmp} : ∀ (p : List Ent) (x : AV), (∀ e ∈ p, dstOf ops e.i = some u → L e.i = false) → valL ops L u p x = x
  | [], x, _ => rfl
  | e :: p, x, h => by
    simp only [valL]
    rw [if_neg, valL_none p x fun e he => h e (by simp [he])]
    simp only [Bool.and_eq_true, beq_iff_eq, not_and]
    intro h1 h2
    rw [h e (by simp) h2] at h1
    cases h1
theorem chain_val {u : Tmp} (hu : C.glob u = true) : ∀ (p : List Ent) (t : Regs) (σ : Hp) (tN : Regs) (σN : Hp), Chain t σ p tN σN → (∀ e ∈ p, EntOK P C ops e) → tN.get u = valL ops (fun _ => true) u p (t.get u)
  | [], t, σ, tN, σN, ⟨h, _⟩, _ => by subst h; rfl
  | e :: p, t, σ, tN, σN, ⟨h1, h2, h3⟩, hent => by
    rw [chain_val hu p _ _ _ _ h3 fun x hx => hent x (by simp [hx])]
    obtain ⟨o, ho, hg, ht, hk⟩ := hent e (by simp)
    simp only [valL]
    congr 1
    rw [ht, h1]
    have hdst : dstOf ops e.i = o.dst := by simp [dstOf, ho]
    rw [hdst]
    cases hd : o.dst with
    | none => simp [putT]
    | some v =>
      have hgv := hg v hd
      simp only [putT, hgv, if_true, Bool.true_and, beq_iff_eq, Option.some.injEq]
      rw [Regs.get_set _ _ _ _ (Cx.glob_lt hgv).1 (Cx.glob_lt hu).1]
      by_cases huv : u = v
      · subst huv; simp
      · rw [if_neg huv, if_neg (Ne.symm huv)]
theorem split_uniq {i : Nat} : ∀ (a b : List Ent) (e : Ent) (c d : List Ent), e.i = i → a ++ e :: c = b ++ e :: d → (∀ x ∈ a, x.i ≠ i) → (∀ x ∈ b, x.i ≠ i) → a = b ∧ c = d
  | [], [], e, c, d, _, h, _, _ => ⟨rfl, by simpa using h⟩
  | [], y :: b, e, c, d, he, h, _, hb => by simp at h; exact absurd (by rw [← h.1]; exact he) (hb y (by simp))
  | y :: a, [], e, c, d, he, h, ha, _ => by simp at h; exact absurd (by rw [h.1]; exact he) (ha y (by simp))
  | y :: a, z :: b, e, c, d, he, h, ha, hb => by
    simp at h
    obtain ⟨h1, h2⟩ := h
    obtain ⟨h3, h4⟩ := split_uniq a b e c d he h2 (fun x hx => ha x (by simp [hx])) (fun x hx => hb x (by simp [hx]))
    exact ⟨by rw [h1, h3], h4⟩
theorem later_at {A : List Nat} {i : Nat} {t : Regs} {v : AV} {o : Oper} (ho : ops[i]? = some o) : ∀ (q rest : List Ent) (t1 : Regs) (σ1 : Hp) (tN : Regs) (σN : Hp), Chain t1 σ1 (q ++ rest) tN σN → Later P C ops A i t v (q ++ rest) → RdOK P C t .nil σ1 o true v → (∀ x ∈ q, x.k = .wr → (A.getD x.i 0).testBit i = false) → RdOK P C t .nil (hAt rest σN) o true v
  | [], [], t1, σ1, tN, σN, hc, _, hr, _ => by rw [show hAt [] σN = σ1 from hc.2]; exact hr
  | [], e :: r, t1, σ1, tN, σN, hc, _, hr, _ => by rw [show hAt (e :: r) σN = σ1 from hc.2.1]; exact hr
  | x :: q, rest, t1, σ1, tN, σN, hc, hl, hr, hn => by
    rcases hl with ⟨h1, h2⟩ | ⟨h1, h2⟩
    · rw [hn x (by simp) h1] at h2; cases h2
    · exact later_at ho q rest _ _ tN σN hc.2.2 h2 (h1 o ho) fun y hy => hn y (by simp [hy])
theorem TailOK.at {A : List Nat} : ∀ {p : List Ent} {e : Ent} {q : List Ent}, TailOK P C ops A (p ++ e :: q) → e.k = .rd → Later P C ops A e.i e.t e.v q
  | [], e, q, h, hk => h.1 hk
  | x :: p, e, q, h, hk => TailOK.at (p := p) h.2 hk
end
end Go.Am
