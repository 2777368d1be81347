import Derived.Test.YtpjibkdeaogjjaaGreatDoorSmV
import Derived.Test.YtpjibkdeaogjjaaGreatDoorSmG
import Derived.Test.YtpjibkdeaogjjaaGreatDoorCards
import Derived.Test.YtpjibkdeaogjjaaGreatDoorTie
import Derived.WalkKit
import Derived.ProofKit
import Derived.OpenShut
import Derived.ChangeOld
import Derived.Below
import Derived.SizedLaws
import Derived.SevenTiedAt
set_option linter.unusedSimpArgs false
set_option linter.unusedVariables false
namespace Go.Proofs.YtpjibkdeaogjjaaGreatDoor.workNone
open Go.ChangeShapes Go.WideShapes Go.ChangeAt Go.RowKit
set_option maxRecDepth 100000 in
theorem lifted (os : Os) (started : os.Started) (H : Type) (enc : TypeId × Value → H) :
    ReturnsInHanded {} Tryz.checked os 3 .any (fun w args => (Rows.workNoneSpec.pre enc Tryz.prog Tryz.f3 [] false w args ∧ laidMetH Tryz.prog Frame.laid w) ∧ sizedMet enc Tryz.prog Tryz.f3 (OpenSpec.ofChange Rows.workNoneSpec) false w args)
      (Rows.workNoneSpec.post enc Tryz.prog Tryz.f3 false true false false) := by
  refine returnsInHanded_of_change_and (C := Tryz.checked) (X := fun w _ => laidMetH Tryz.prog Frame.laid w) (fun _ _ _ hh h => h.of_heap hh) Frame.own started (by kernel_rfl) Tryz.func3
    (ChangeSpec.witness_shaped (enc := enc) (C := Tryz.checked) (os := os) (X := fun w _ => laidMetH Tryz.prog Frame.laid w) false (World.laidAll Tryz.prog os Frame.laid) #[.int .i64 0, .slice none 0 0] 8 (World.laidAll_os _ _ _)
      (Frame.shapedZip os _) (by kernel_rfl) (by kernel_rfl) (by kernel_rfl) (Frame.met os _)) ?_
  intro W base args ds gs before hval0 hW _ _ _ _
  have hval : ∀ (j : Nat) t v, Tryz.f3.params[j]? = some t → args[j]? = some v → Value.okWide Tryz.prog W .any base t v := hval0
  have hW' := hW
  obtain ⟨p, q, hA0, hV, rfl, hfz, hnd⟩ := hW
  have hA : DataW.TrodAll enc Tryz.prog W 0 (fun _ => true) true Tryz.f3.params.toList args.toList ds p := hA0
  rw [Tryz.params3] at hA hval
  obtain ⟨v0, vs0, d0, ds0, p0, q0, hargs, rfl, rfl, h0, r0⟩ := trodAll_cons hA
  obtain ⟨v1, vs1, d1, ds1, p1, q1, rfl, rfl, rfl, h1, r1⟩ := trodAll_cons r0
  obtain ⟨rfl, rfl, rfl⟩ := trodAll_nil r1
  obtain rfl : args = #[v0, v1] := by cases args; simp_all
  obtain ⟨rfl, rfl⟩ := trodVars_none hV
  have lt0 : ∀ x ∈ p0, x.block < W.heap.size := by obtain ⟨m, hm⟩ := h0; exact DataW.trod_lt m _ _ _ hm
  have lt1 : ∀ x ∈ p1, x.block < W.heap.size := by obtain ⟨m, hm⟩ := h1; exact DataW.trod_lt m _ _ _ hm
  have ok0 := hval 0 2 v0 rfl rfl
  have ok1 := hval 1 22 v1 rfl rfl
  clear hA0 hval0
  refine (Am.walk_workNone ok0 ok1).mono fun e W' ⟨he, bel⟩ => ?_
  subst he
  exact ⟨_, rfl, _, _, _, [], _, [], hW', trodAll_mk1 (shut_bool Tryz.underlying4 _), (trodAll_cons_mk (Below.trod Frame.laidOut (by kernel_rfl) (of_decide_eq_true (by kernel_rfl)) h0 bel lt0) (trodAll_cons_mk (Below.trod Frame.laidOut (by kernel_rfl) (of_decide_eq_true (by kernel_rfl)) h1 bel lt1) trodAll_mk0)), rfl, bel.frame _, fun h => by cases h⟩
theorem c1 : (Rows.workNoneRow.wf (OpenSpec.ofChange Rows.workNoneSpec)) = true := by kernel_rfl
theorem c2 : (Tryz.f3.params.all (Tryz.prog.readableRec ·) && namedTie Tryz.prog Rows.workNoneRow.named Rows.workNoneSpec.vars) = true := by kernel_rfl
theorem c4 : (Rows.workNoneRow.inPlace == Tryz.prog.inPlace 3) = true := by kernel_rfl
theorem c5 : (Rows.workNoneRow.unfollowed == Tryz.prog.unfollowed 3) = true := by kernel_rfl
theorem c6 : (Rows.workNoneRow.recurses == Tryz.prog.recurses 3) = true := by kernel_rfl
theorem c7 : (Rows.workNoneRow.named == Tryz.prog.varsNamed 3) = true := by kernel_rfl
theorem c8 : ((Rows.workNoneRow.maps == (Tryz.f3.params.toList ++ Rows.workNoneSpec.plain.varTypes Tryz.prog).any (Tryz.prog.mapsRec ·)) && (Rows.workNoneRow.ifaces == (Tryz.f3.params.toList ++ Rows.workNoneSpec.plain.varTypes Tryz.prog).any (Tryz.prog.ifacesRec ·)) && (Rows.workNoneRow.mapsOut == Tryz.prog.mapsAmong Tryz.f3.resultTypes.toList)) = true := by kernel_rfl
theorem c9 : ((Rows.workNoneRow.loops == (Tryz.f3.params.toList ++ Rows.workNoneSpec.plain.varTypes Tryz.prog).any (Tryz.prog.loopsFrom ·)) && (Rows.workNoneRow.wideKeys == (Tryz.f3.params.toList ++ Rows.workNoneSpec.plain.varTypes Tryz.prog ++ Tryz.f3.resultTypes.toList).any (Tryz.prog.wideKeysFrom ·))) = true := by kernel_rfl
theorem c10 : (Rows.workNoneSpec.vars.all (Tryz.prog.varReadable ·) && Tryz.f3.resultTypes.all (fun t => Tryz.prog.readableRec t && decide (t < Tryz.prog.types.size)) && (Rows.workNoneRow.ifacesOut == Tryz.f3.resultTypes.toList.any (Tryz.prog.ifacesRec ·)) && (Rows.workNoneRow.loopsOut == Tryz.f3.resultTypes.toList.any (Tryz.prog.loopsFrom ·))) = true := by kernel_rfl
theorem c17 : ((Rows.workNoneRow.veiled == (Tryz.f3.params.toList ++ Rows.workNoneSpec.plain.varTypes Tryz.prog ++ Tryz.f3.resultTypes.toList).any (Tryz.prog.veiledRec ·)) && Rows.workNoneRow.veiledFits Tryz.prog Tryz.f3.params.toList (Tryz.f3.params.toList ++ Rows.workNoneSpec.plain.varTypes Tryz.prog ++ Tryz.f3.resultTypes.toList)) = true := by kernel_rfl
theorem closed : joinedFacts Tryz.prog 3 Tryz.f3 Rows.workNoneSpec Rows.workNoneRow = true :=
  Frame.joined_of (by rw [Frame.rowed, c1]; rfl) Frame.laidOut c2 (by rw [Frame.stops, Frame.stopKnobs]; rfl) c4 c5 c6 c7 c8 c9 c10 Frame.plainKeys (by rw [Frame.heard]; rfl) Frame.mayEnter Frame.lifted Frame.make rfl c17
theorem named : Tryz.prog.funcNamed "storeman/storemanlaw26.WorkNone" = some 3 := by kernel_rfl
theorem inst : Tryz.f3.isInstance Tryz.prog Rows.workNoneRow.origin Rows.workNoneRow.targs := of_decide_eq_true (by kernel_rfl)
theorem wrap : Tryz.f3.isWrapper Tryz.prog Rows.workNoneRow.wrapper Rows.workNoneRow.mainSum := by unfold Func.isWrapper; first | (rw [if_pos (by decide +kernel)]; kernel_rfl) | (rw [if_neg (by decide +kernel)]; exact ⟨rfl, rfl⟩)
theorem lifted7 (os : Os) (started : os.Started) (H : Type) (enc : TypeId × Value → H) :
    ReturnsInHanded Rows.workNoneRow.assume Tryz.pinned.checked os 3 .any (Rows.workNoneRow.pre enc Tryz.pinned.checked.prog Tryz.f3 (OpenSpec.ofChange Rows.workNoneSpec)) (Rows.workNoneSpec.post enc Tryz.pinned.checked.prog Tryz.f3 Rows.workNoneRow.apart Rows.workNoneRow.fresh Rows.workNoneRow.handsOn Rows.workNoneRow.again) :=
  lifted os started H enc
theorem over : Rows.workNoneRow.holds Tryz.pinned (OpenSpec.ofChange Rows.workNoneSpec) :=
  OpenClaim.holds_of_wide 3 Tryz.f3 rfl rfl rfl rfl rfl rfl rfl ⟨rfl, rfl, rfl, rfl, rfl⟩ rfl rfl rfl rfl rfl named Tryz.func3 closed inst wrap (fun os started H enc _ => lifted7 os started H enc)
end Go.Proofs.YtpjibkdeaogjjaaGreatDoor.workNone
