import Derived.Test.YtfdbmpokhfjdoaaGreatDoorAmS27
set_option linter.unusedVariables false
set_option linter.unusedSimpArgs false
/-! Soundness, 28: heaps that are compared; a long run in pieces. -/
namespace Go.Am
open Go
/-! ### Likeness -/
noncomputable def AMap.eqK : AMap → AMap → Bool :=
  AMap.rec (motive := fun _ => AMap → Bool) (fun b => match b with | .nil => true | _ => false) (fun x v _ ih b => match b with | .cons x' v' r' => sel (AV.eqK x x') (sel (AV.eqK v v') (ih r') false) false | _ => false)
theorem AMap.eqK_true : ∀ {a b : AMap}, AMap.eqK a b = true → a = b := by
  intro a
  induction a with
  | nil => intro b h; cases b <;> first | rfl | cases h
  | cons x v r ih =>
    intro b h; cases b <;> first | cases h; done | skip
    rename_i x' v' r'
    obtain ⟨h1, h2⟩ := sel_yes (show sel (AV.eqK x x') (sel (AV.eqK v v') (AMap.eqK r r') false) false = true from h)
    obtain ⟨h3, h4⟩ := sel_yes h2
    rw [AV.eqK_true h1, AV.eqK_true h3, ih h4]
noncomputable def adsK : List Ad → List Ad → Bool :=
  List.rec (motive := fun _ => List Ad → Bool) (fun b => match b with | [] => true | _ => false) (fun x _ ih b => match b with | y :: r => Ad.beqK x y (ih r) false | _ => false)
theorem adsK_true : ∀ {a b : List Ad}, adsK a b = true → a = b := by
  intro a
  induction a with
  | nil => intro b h; cases b <;> first | rfl | cases h
  | cons x r ih =>
    intro b h; cases b <;> first | cases h; done | skip
    rename_i y s
    obtain ⟨h1, h2⟩ := beqK_true (show Ad.beqK x y (adsK r s) false = true from h)
    rw [h1, ih h2]
noncomputable def Blk.eqK : Blk → Blk → Bool :=
  Blk.rec (motive := fun _ => Blk → Bool)
    (fun n c st pl sh olds b => match b with | .cells n' c' st' pl' sh' olds' => sel (Nat.beq n n') (sel (AV.eqK c c') (sel (Nat.beq st st') (sel (Bool.xor pl pl') false (sel (Nat.beq sh sh') (adsK olds olds') false)) false) false) false | _ => false)
    (fun m b => match b with | .mp m' => AMap.eqK m m' | _ => false)
    (fun _ _ _ _ _ _ _ _ _ => false)
    (fun o b => match b with | .defr o' => Bool.not (Bool.xor o o') | _ => false)
    (fun b => match b with | .dead => true | _ => false)
theorem Blk.eqK_true {a b : Blk} (h : Blk.eqK a b = true) : a = b := by
  cases a with
  | cells n c st pl sh olds =>
    cases b <;> first | cases h; done | skip
    rename_i n' c' st' pl' sh' olds'
    obtain ⟨h1, h2⟩ := sel_yes (show sel (Nat.beq n n') (sel (AV.eqK c c') (sel (Nat.beq st st') (sel (Bool.xor pl pl') false (sel (Nat.beq sh sh') (adsK olds olds') false)) false) false) false = true from h)
    obtain ⟨h3, h4⟩ := sel_yes h2
    obtain ⟨h5, h6⟩ := sel_yes h4
    obtain ⟨h7, h8⟩ := xorK_true h6
    obtain ⟨h9, h10⟩ := sel_yes h8
    rw [Nat.eq_of_beq_eq_true h1, AV.eqK_true h3, Nat.eq_of_beq_eq_true h5, h7, Nat.eq_of_beq_eq_true h9, adsK_true h10]
  | mp m =>
    cases b <;> first | cases h; done | skip
    rename_i m'
    rw [AMap.eqK_true (show AMap.eqK m m' = true from h)]
  | loop => cases h
  | defr o =>
    cases b <;> first | cases h; done | skip
    rename_i o'
    rw [nxor_true (x := o) (y := o') h]
  | dead => cases b <;> first | rfl | cases h
/-! ### Heaps -/
noncomputable def and8 (x0 x1 x2 x3 x4 x5 x6 x7 : Bool) : Bool := sel x0 (sel x1 (sel x2 (sel x3 (sel x4 (sel x5 (sel x6 x7 false) false) false) false) false) false) false
theorem and8_true {x0 x1 x2 x3 x4 x5 x6 x7 : Bool} (h : and8 x0 x1 x2 x3 x4 x5 x6 x7 = true) : x0 = true ∧ x1 = true ∧ x2 = true ∧ x3 = true ∧ x4 = true ∧ x5 = true ∧ x6 = true ∧ x7 = true := by
  obtain ⟨h0, h⟩ := sel_yes h
  obtain ⟨h1, h⟩ := sel_yes h
  obtain ⟨h2, h⟩ := sel_yes h
  obtain ⟨h3, h⟩ := sel_yes h
  obtain ⟨h4, h⟩ := sel_yes h
  obtain ⟨h5, h⟩ := sel_yes h
  obtain ⟨h6, h⟩ := sel_yes h
  exact ⟨h0, h1, h2, h3, h4, h5, h6, h⟩
/-- Place by place. -/
noncomputable def all8 {α : Type} (f : α → α → α → Bool) (s a l : R8 α) : Bool :=
  R8.rec (motive := fun _ => Bool) (fun l0 l1 l2 l3 l4 l5 l6 l7 => R8.rec (motive := fun _ => Bool) (fun a0 a1 a2 a3 a4 a5 a6 a7 => R8.rec (motive := fun _ => Bool) (fun s0 s1 s2 s3 s4 s5 s6 s7 =>
    and8 (f s0 a0 l0) (f s1 a1 l1) (f s2 a2 l2) (f s3 a3 l3) (f s4 a4 l4) (f s5 a5 l5) (f s6 a6 l6) (f s7 a7 l7)) s) a) l
theorem all8_true {α : Type} {f : α → α → α → Bool} {s a l : R8 α} (h : all8 f s a l = true) (d : D8) : f (s.at d) (a.at d) (l.at d) = true := by
  obtain ⟨s0, s1, s2, s3, s4, s5, s6, s7⟩ := s
  obtain ⟨a0, a1, a2, a3, a4, a5, a6, a7⟩ := a
  obtain ⟨l0, l1, l2, l3, l4, l5, l6, l7⟩ := l
  obtain ⟨q0, q1, q2, q3, q4, q5, q6, q7⟩ := and8_true h
  cases d <;> assumption
/-- One place: what stood there (s), what stands there (a), what is told of it (l): the same; or dead, where nothing stood. -/
noncomputable def leafK (s a l : Option Blk) : Bool :=
  Option.rec (motive := fun _ => Bool) (Option.rec (motive := fun _ => Bool) true (fun _ => false) a)
    (fun l => Option.rec (motive := fun _ => Bool) false (fun a => Blk.rec (motive := fun _ => Bool) (fun _ _ _ _ _ _ => Blk.eqK l a) (fun _ => Blk.eqK l a) (fun _ _ _ _ _ _ _ _ => false) (fun _ => Blk.eqK l a)
      (Option.rec (motive := fun _ => Bool) true (fun _ => Blk.eqK l a) s) l) a) l
theorem leafK_true {s a l : Option Blk} (h : leafK s a l = true) : l = a ∨ (s = none ∧ (∃ x, a = some x) ∧ l = some .dead) := by
  cases l with
  | none => cases a with
    | none => exact .inl rfl
    | some x => cases h
  | some l =>
    cases a with
    | none => cases h
    | some a =>
      cases l with
      | dead =>
        cases s with
        | none => exact .inr ⟨rfl, ⟨_, rfl⟩, rfl⟩
        | some s => exact .inl (congrArg some (Blk.eqK_true (show Blk.eqK .dead a = true from h)))
      | loop => cases h
      | cells n c st pl sh olds => exact .inl (congrArg some (Blk.eqK_true (show Blk.eqK (.cells n c st pl sh olds) a = true from h)))
      | mp m => exact .inl (congrArg some (Blk.eqK_true (show Blk.eqK (.mp m) a = true from h)))
      | defr o => exact .inl (congrArg some (Blk.eqK_true (show Blk.eqK (.defr o) a = true from h)))
noncomputable def Hp.weakK (s a l : Hp) : Bool := Ad.beqK l.nx a.nx (all8 (all8 (all8 (all8 (all8 leafK)))) s.t a.t l.t) false
/-- A heap with some of the new blocks dead. -/
structure Hp.Weak (s a l : Hp) : Prop where
  nx : l.nx = a.nx
  get : ∀ β, l.get β = a.get β ∨ (s.get β = none ∧ (∃ x, a.get β = some x) ∧ l.get β = some .dead)
theorem Hp.weakK_true {s a l : Hp} (h : Hp.weakK s a l = true) : Hp.Weak s a l := by
  obtain ⟨h1, h2⟩ := beqK_true (show Ad.beqK l.nx a.nx (all8 (all8 (all8 (all8 (all8 leafK)))) s.t a.t l.t) false = true from h)
  exact ⟨h1, fun β => leafK_true (all8_true (all8_true (all8_true (all8_true (all8_true h2 β.d4) β.d3) β.d2) β.d1) β.d0)⟩
/-- Two heaps are one. -/
noncomputable def optK (a l : Option Blk) : Bool :=
  Option.rec (motive := fun _ => Bool) (Option.rec (motive := fun _ => Bool) true (fun _ => false) a) (fun l => Option.rec (motive := fun _ => Bool) false (fun a => Blk.eqK l a) a) l
theorem optK_true {a l : Option Blk} (h : optK a l = true) : l = a := by
  cases l with
  | none => cases a with
    | none => rfl
    | some x => cases h
  | some l => cases a with
    | none => cases h
    | some a => exact congrArg some (Blk.eqK_true (show Blk.eqK l a = true from h))
noncomputable def each8 {α : Type} (f : α → α → Bool) (a l : R8 α) : Bool :=
  R8.rec (motive := fun _ => Bool) (fun l0 l1 l2 l3 l4 l5 l6 l7 => R8.rec (motive := fun _ => Bool) (fun a0 a1 a2 a3 a4 a5 a6 a7 => and8 (f a0 l0) (f a1 l1) (f a2 l2) (f a3 l3) (f a4 l4) (f a5 l5) (f a6 l6) (f a7 l7)) a) l
theorem each8_true {α : Type} {f : α → α → Bool} (hf : ∀ a l, f a l = true → l = a) {a l : R8 α} (h : each8 f a l = true) : l = a := by
  obtain ⟨a0, a1, a2, a3, a4, a5, a6, a7⟩ := a
  obtain ⟨l0, l1, l2, l3, l4, l5, l6, l7⟩ := l
  obtain ⟨q0, q1, q2, q3, q4, q5, q6, q7⟩ := and8_true h
  rw [hf _ _ q0, hf _ _ q1, hf _ _ q2, hf _ _ q3, hf _ _ q4, hf _ _ q5, hf _ _ q6, hf _ _ q7]
noncomputable def Hp.sameK (a l : Hp) : Bool := Ad.beqK l.nx a.nx (each8 (each8 (each8 (each8 (each8 optK)))) a.t l.t) false
theorem Hp.sameK_true {a l : Hp} (h : Hp.sameK a l = true) : l = a := by
  obtain ⟨h1, h2⟩ := beqK_true (show Ad.beqK l.nx a.nx (each8 (each8 (each8 (each8 (each8 optK)))) a.t l.t) false = true from h)
  have h3 : l.t = a.t := each8_true (fun _ _ => each8_true fun _ _ => each8_true fun _ _ => each8_true fun _ _ => each8_true fun _ _ => optK_true) h2
  cases a; cases l; simp_all
section
variable {P : Program} {B : Fz} {φ : Emb} {σ σ1 σ' : Hp} {h : Array Obj}
theorem Rel.weaken (r : Rel P B φ σ1 h) (hw : Hp.Weak σ σ1 σ') : Rel P B φ σ' h where
  fresh β y hy := by rw [hw.nx]; exact r.fresh β y hy
  low β b d hb := ⟨fun hB => by
    obtain ⟨k0, e0, dd⟩ := (r.low β b d hb).1 hB
    rcases hw.get β with e | ⟨_, _, e⟩
    · exact ⟨k0, e.trans e0, dd⟩
    · exact ⟨.dead, e, trivial⟩, (r.low β b d hb).2⟩
  blk β b d hb := by
    obtain ⟨k, h1, h2⟩ := r.blk β b d hb
    rcases hw.get β with e | ⟨_, _, e⟩
    · exact ⟨k, e.trans h1, h2⟩
    · exact ⟨.dead, e, .dead _ _⟩
  inj β γ b d d' k g h1 h2 h3 h4 h5 := by
    rcases hw.get β with e | ⟨_, _, e⟩
    · rw [e] at h4
      rcases hw.get γ with e' | ⟨_, _, e'⟩
      · rw [e'] at h5
        exact r.inj β γ b d d' k g h1 h2 h3 h4 h5
      · rw [e'] at h5; cases h5
        exact .inr (.inl trivial)
    · rw [e] at h4; cases h4
      exact .inl trivial
  olds β b d k γ h1 h2 h3 := by
    rcases hw.get β with e | ⟨_, _, e⟩
    · rw [e] at h2
      obtain ⟨b', d', g, h4, h5, h6⟩ := r.olds β b d k γ h1 h2 h3
      rcases hw.get γ with e' | ⟨_, _, e'⟩
      · exact ⟨b', d', g, h4, e'.trans h5, h6⟩
      · exact ⟨b', d', .dead, h4, e', .inl trivial⟩
    · rw [e] at h2; cases h2
      cases h3
theorem Did.weaken {w w' : World} {v : AV} {r : Value} (hd : Did P B φ σ w v σ1 r w') (hw : Hp.Weak σ σ1 σ') : Did P B φ σ w v σ' r w' := by
  obtain ⟨φ', h1, x, h3, h4, h5, h6⟩ := hd
  refine ⟨φ', h1.weaken hw, ⟨x.le, by rw [hw.nx]; exact x.nx, x.new, fun β q1 q2 => ?_, x.size, x.csz, x.low⟩, h3, h4, h5, h6⟩
  rcases x.frame β q1 q2 with hfr | hfr
  · rcases hw.get β with e | ⟨e1, ⟨y, e2⟩, _⟩
    · exact .inl (e.trans hfr)
    · rw [hfr, e1] at e2; cases e2
  · exact .inr hfr
/-- A call of which both ends are told: what was handed in, and the heap, are compared. -/
noncomputable def pieceF (A : AV) (s : Hp) (V : AV) (l : Hp) : SumF := fun args σ k => sel (AV.eqK A args) (sel (Hp.sameK σ s) (k V l) false) false
theorem piece_ok {S : Nat → Option SumF} (hm : P.follows .mixedOrders = true) (hS : SumOK P S) {n f : Nat} {A V : AV} {s l : Hp} (hrun : (lv P S n).call f A s (fun v σ => sel (AV.eqK V v) (Hp.weakK s σ l) false) = true)
    {args : AV} {σ : Hp} {k : KV} (hk : pieceF A s V l args σ k = true) : ∃ v σ', k v σ' = true ∧ CallOK P f σ args v σ' := by
  obtain ⟨h1, h2⟩ := sel_yes (show sel (AV.eqK A args) (sel (Hp.sameK σ s) (k V l) false) false = true from hk)
  obtain ⟨h3, h4⟩ := sel_yes h2
  obtain rfl := AV.eqK_true h1
  obtain rfl := Hp.sameK_true h3
  obtain ⟨v, σ1, hk1, hcall, hc⟩ := (lv_ok hm hS n).call hrun
  obtain ⟨h5, h6⟩ := sel_yes hk1
  obtain rfl := AV.eqK_true h5
  refine ⟨_, _, h4, hcall, fun {B φ w xs} r hB hl => (hc r hB hl).mono ?_⟩
  rintro e w' ⟨x, rfl, hd⟩
  exact ⟨x, rfl, hd.weaken (Hp.weakK_true h6)⟩
/-- One of two, by the heap's next address. -/
noncomputable def orF (nx : Ad) (x y : SumF) : SumF := fun args σ k => Ad.beqK σ.nx nx (x args σ k) (y args σ k)
theorem or_ok {f : Nat} {nx : Ad} {x y : SumF} (hx : ∀ {args : AV} {σ : Hp} {k : KV}, x args σ k = true → ∃ v σ', k v σ' = true ∧ CallOK P f σ args v σ') (hy : ∀ {args : AV} {σ : Hp} {k : KV}, y args σ k = true → ∃ v σ', k v σ' = true ∧ CallOK P f σ args v σ')
    {args : AV} {σ : Hp} {k : KV} (hk : orF nx x y args σ k = true) : ∃ v σ', k v σ' = true ∧ CallOK P f σ args v σ' := by
  have hk' : Ad.beqK σ.nx nx (x args σ k) (y args σ k) = true := hk
  rw [Ad.beqK_eq] at hk'
  split at hk'
  · exact hx hk'
  · exact hy hk'
noncomputable def noF : SumF := fun _ _ _ => false
theorem no_ok {f : Nat} {args : AV} {σ : Hp} {k : KV} (hk : noF args σ k = true) : ∃ v σ', k v σ' = true ∧ CallOK P f σ args v σ' := by cases hk
/-- One summary more. -/
noncomputable def withF (g : Nat) (F : SumF) (S : Nat → Option SumF) : Nat → Option SumF := fun f => bif Nat.beq f g then some F else S f
theorem with_ok {S : Nat → Option SumF} {g : Nat} {F : SumF} (hS : SumOK P S) (hF : ∀ {args : AV} {σ : Hp} {k : KV}, F args σ k = true → ∃ v σ', k v σ' = true ∧ CallOK P g σ args v σ') : SumOK P (withF g F S) := by
  intro f F' h args σ k hk
  unfold withF at h
  cases h1 : Nat.beq f g with
  | true =>
    rw [h1] at h
    simp only [cond_true, Option.some.injEq] at h
    subst h
    rw [Nat.eq_of_beq_eq_true h1]
    exact hF hk
  | false =>
    rw [h1] at h
    exact hS f F' h hk
end
end Go.Am
