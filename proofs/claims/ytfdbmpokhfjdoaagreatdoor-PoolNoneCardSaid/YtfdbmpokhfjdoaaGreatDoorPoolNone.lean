import Derived.Test.YtfdbmpokhfjdoaaGreatDoorSmD
import Derived.Test.YtfdbmpokhfjdoaaGreatDoorSmG
import Derived.Test.YtfdbmpokhfjdoaaGreatDoorCards
import Derived.Test.YtfdbmpokhfjdoaaGreatDoorTie
import Derived.WalkKit
import Derived.ProofKit
import Derived.OpenShut
import Derived.ChangeOld
import Derived.Below
import Derived.SizedLaws
import Derived.SevenTiedAt
set_option linter.unusedSimpArgs false
set_option linter.unusedVariables false
namespace Go.Proofs.YtfdbmpokhfjdoaaGreatDoor.poolNone
open Go.ChangeShapes Go.WideShapes Go.ChangeAt Go.RowKit
set_option maxRecDepth 100000 in
theorem walk {v0 v1 : Value} {w : World} {r : Reach} {base : Nat} (h : Value.okWide Tryz.prog w r base 33 v1) :
    Calls Tryz.prog 6 #[v0, v1] w fun e w' => e = .returned (.bool true) ∧ Below w.heap.size w w' := by
  obtain ⟨n, hn⟩ := Am.record_av h
  have hl : Am.LR (fun _ => none) (Am.csz w.heap) (.cons .nil (.cons (.agg 11 (Am.recK n)) .nil)) [v0, v1] := Am.LR.cons (.any v0) (Am.LR.cons (hn _ _) Am.LR.nil)
  have h0 := Am.none22 n
  generalize 100000 = N at h0
  exact Am.calls_of_run Am.M0 Am.S22_ok h0 hl
set_option maxRecDepth 100000 in
theorem lifted (os : Os) (started : os.Started) (H : Type) (enc : TypeId × Value → H) :
    ReturnsInHanded {} Tryz.checked os 6 .any (fun w args => (Rows.poolNoneSpec.pre enc Tryz.prog Tryz.f6 [] false w args ∧ laidMetH Tryz.prog Frame.laid w) ∧ sizedMet enc Tryz.prog Tryz.f6 (OpenSpec.ofChange Rows.poolNoneSpec) false w args)
      (Rows.poolNoneSpec.post enc Tryz.prog Tryz.f6 false true false false) := by
  refine returnsInHanded_of_change_and (C := Tryz.checked) (X := fun w _ => laidMetH Tryz.prog Frame.laid w) (fun _ _ _ hh h => h.of_heap hh) Frame.own started (by kernel_rfl) Tryz.func6
    (ChangeSpec.witness_shaped (enc := enc) (C := Tryz.checked) (os := os) (X := fun w _ => laidMetH Tryz.prog Frame.laid w) false (World.laidAll Tryz.prog os Frame.laid) #[.int .i64 0, .agg #[.int .i64 0, .int .i64 0, .int .i64 0, .int .i64 0, .int .u8 0, .int .i64 0, .slice none 0 0, .slice none 0 0, .slice none 0 0, .slice none 0 0, .slice none 0 0]] 8 (World.laidAll_os _ _ _)
      (Frame.shapedZip os _) (by kernel_rfl) (by kernel_rfl) (by kernel_rfl) (Frame.met os _)) ?_
  intro W base args ds gs before hval0 hW _ _ _ _
  have hval : ∀ (j : Nat) t v, Tryz.f6.params[j]? = some t → args[j]? = some v → Value.okWide Tryz.prog W .any base t v := hval0
  have hW' := hW
  obtain ⟨p, q, hA0, hV, rfl, hfz, hnd⟩ := hW
  have hA : DataW.TrodAll enc Tryz.prog W 0 (fun _ => true) true Tryz.f6.params.toList args.toList ds p := hA0
  rw [Tryz.params6] at hA hval
  obtain ⟨v0, vs0, d0, ds0, p0, q0, hargs, rfl, rfl, h0, r0⟩ := trodAll_cons hA
  obtain ⟨v1, vs1, d1, ds1, p1, q1, rfl, rfl, rfl, h1, r1⟩ := trodAll_cons r0
  obtain ⟨rfl, rfl, rfl⟩ := trodAll_nil r1
  obtain rfl : args = #[v0, v1] := by cases args; simp_all
  obtain ⟨rfl, rfl⟩ := trodVars_none hV
  have lt0 : ∀ x ∈ p0, x.block < W.heap.size := by obtain ⟨m, hm⟩ := h0; exact DataW.trod_lt m _ _ _ hm
  have lt1 : ∀ x ∈ p1, x.block < W.heap.size := by obtain ⟨m, hm⟩ := h1; exact DataW.trod_lt m _ _ _ hm
  have ok1 := hval 1 33 v1 rfl rfl
  clear hA0 hval0
  refine (walk (v0 := v0) ok1).mono fun e W' ⟨he, bel⟩ => ?_
  subst he
  exact ⟨_, rfl, _, _, _, [], _, [], hW', trodAll_mk1 (shut_bool Tryz.underlying4 _), (trodAll_cons_mk (Below.trod Frame.laidOut (by kernel_rfl) (of_decide_eq_true (by kernel_rfl)) h0 bel lt0) (trodAll_cons_mk (Below.trod Frame.laidOut (by kernel_rfl) (of_decide_eq_true (by kernel_rfl)) h1 bel lt1) trodAll_mk0)), rfl, bel.frame _, fun h => by cases h⟩
theorem c1 : (Rows.poolNoneRow.wf (OpenSpec.ofChange Rows.poolNoneSpec)) = true := by kernel_rfl
theorem c2 : (Tryz.f6.params.all (Tryz.prog.readableRec ·) && namedTie Tryz.prog Rows.poolNoneRow.named Rows.poolNoneSpec.vars) = true := by kernel_rfl
theorem c4 : (Rows.poolNoneRow.inPlace == Tryz.prog.inPlace 6) = true := by kernel_rfl
theorem c5 : (Rows.poolNoneRow.unfollowed == Tryz.prog.unfollowed 6) = true := by kernel_rfl
theorem c6 : (Rows.poolNoneRow.recurses == Tryz.prog.recurses 6) = true := by kernel_rfl
theorem c7 : (Rows.poolNoneRow.named == Tryz.prog.varsNamed 6) = true := by kernel_rfl
theorem c8 : ((Rows.poolNoneRow.maps == (Tryz.f6.params.toList ++ Rows.poolNoneSpec.plain.varTypes Tryz.prog).any (Tryz.prog.mapsRec ·)) && (Rows.poolNoneRow.ifaces == (Tryz.f6.params.toList ++ Rows.poolNoneSpec.plain.varTypes Tryz.prog).any (Tryz.prog.ifacesRec ·)) && (Rows.poolNoneRow.mapsOut == Tryz.prog.mapsAmong Tryz.f6.resultTypes.toList)) = true := by kernel_rfl
theorem c9 : ((Rows.poolNoneRow.loops == (Tryz.f6.params.toList ++ Rows.poolNoneSpec.plain.varTypes Tryz.prog).any (Tryz.prog.loopsFrom ·)) && (Rows.poolNoneRow.wideKeys == (Tryz.f6.params.toList ++ Rows.poolNoneSpec.plain.varTypes Tryz.prog ++ Tryz.f6.resultTypes.toList).any (Tryz.prog.wideKeysFrom ·))) = true := by kernel_rfl
theorem c10 : (Rows.poolNoneSpec.vars.all (Tryz.prog.varReadable ·) && Tryz.f6.resultTypes.all (fun t => Tryz.prog.readableRec t && decide (t < Tryz.prog.types.size)) && (Rows.poolNoneRow.ifacesOut == Tryz.f6.resultTypes.toList.any (Tryz.prog.ifacesRec ·)) && (Rows.poolNoneRow.loopsOut == Tryz.f6.resultTypes.toList.any (Tryz.prog.loopsFrom ·))) = true := by kernel_rfl
theorem c17 : ((Rows.poolNoneRow.veiled == (Tryz.f6.params.toList ++ Rows.poolNoneSpec.plain.varTypes Tryz.prog ++ Tryz.f6.resultTypes.toList).any (Tryz.prog.veiledRec ·)) && Rows.poolNoneRow.veiledFits Tryz.prog Tryz.f6.params.toList (Tryz.f6.params.toList ++ Rows.poolNoneSpec.plain.varTypes Tryz.prog ++ Tryz.f6.resultTypes.toList)) = true := by kernel_rfl
theorem closed : joinedFacts Tryz.prog 6 Tryz.f6 Rows.poolNoneSpec Rows.poolNoneRow = true :=
  Frame.joined_of (by rw [Frame.rowed, c1]; rfl) Frame.laidOut c2 (by rw [Frame.stops, Frame.stopKnobs]; rfl) c4 c5 c6 c7 c8 c9 c10 Frame.plainKeys (by rw [Frame.heard]; rfl) Frame.mayEnter Frame.lifted Frame.make rfl c17
theorem named : Tryz.prog.funcNamed "storeman/storemanlaw22.PoolNone" = some 6 := by kernel_rfl
theorem inst : Tryz.f6.isInstance Tryz.prog Rows.poolNoneRow.origin Rows.poolNoneRow.targs := of_decide_eq_true (by kernel_rfl)
theorem wrap : Tryz.f6.isWrapper Tryz.prog Rows.poolNoneRow.wrapper Rows.poolNoneRow.mainSum := by unfold Func.isWrapper; first | (rw [if_pos (by decide +kernel)]; kernel_rfl) | (rw [if_neg (by decide +kernel)]; exact ⟨rfl, rfl⟩)
theorem lifted7 (os : Os) (started : os.Started) (H : Type) (enc : TypeId × Value → H) :
    ReturnsInHanded Rows.poolNoneRow.assume Tryz.pinned.checked os 6 .any (Rows.poolNoneRow.pre enc Tryz.pinned.checked.prog Tryz.f6 (OpenSpec.ofChange Rows.poolNoneSpec)) (Rows.poolNoneSpec.post enc Tryz.pinned.checked.prog Tryz.f6 Rows.poolNoneRow.apart Rows.poolNoneRow.fresh Rows.poolNoneRow.handsOn Rows.poolNoneRow.again) :=
  lifted os started H enc
theorem over : Rows.poolNoneRow.holds Tryz.pinned (OpenSpec.ofChange Rows.poolNoneSpec) :=
  OpenClaim.holds_of_wide 6 Tryz.f6 rfl rfl rfl rfl rfl rfl rfl ⟨rfl, rfl, rfl, rfl, rfl⟩ rfl rfl rfl rfl rfl named Tryz.func6 closed inst wrap (fun os started H enc _ => lifted7 os started H enc)
end Go.Proofs.YtfdbmpokhfjdoaaGreatDoor.poolNone
