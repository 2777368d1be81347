import Derived.Test.YtfdbmpokhfjdoaaGreatDoorSmV
import Derived.Test.YtfdbmpokhfjdoaaGreatDoorSmG
import Derived.Test.YtfdbmpokhfjdoaaGreatDoorCards
import Derived.Test.YtfdbmpokhfjdoaaGreatDoorTie
import Derived.WalkKit
import Derived.ProofKit
import Derived.OpenShut
import Derived.ChangeOld
import Derived.Below
import Derived.SizedLaws
import Derived.SevenTiedAt
set_option linter.unusedSimpArgs false
set_option linter.unusedVariables false
namespace Go.Proofs.YtfdbmpokhfjdoaaGreatDoor.tableNil
open Go.ChangeShapes Go.WideShapes Go.ChangeAt Go.RowKit
set_option maxRecDepth 100000 in
theorem lifted (os : Os) (started : os.Started) (H : Type) (enc : TypeId × Value → H) :
    ReturnsInHanded {} Tryz.checked os 10 .any (fun w args => (Rows.tableNilSpec.pre enc Tryz.prog Tryz.f10 [] false w args ∧ laidMetH Tryz.prog Frame.laid w) ∧ sizedMet enc Tryz.prog Tryz.f10 (OpenSpec.ofChange Rows.tableNilSpec) false w args)
      (Rows.tableNilSpec.post enc Tryz.prog Tryz.f10 false true false false) := by
  refine returnsInHanded_of_change_and (C := Tryz.checked) (X := fun w _ => laidMetH Tryz.prog Frame.laid w) (fun _ _ _ hh h => h.of_heap hh) Frame.own started (by kernel_rfl) Tryz.func10
    (ChangeSpec.witness_shaped (enc := enc) (C := Tryz.checked) (os := os) (X := fun w _ => laidMetH Tryz.prog Frame.laid w) false (World.laidAll Tryz.prog os Frame.laid) #[.slice none 0 0, .slice none 0 0] 8 (World.laidAll_os _ _ _)
      (Frame.shapedZip os _) (by kernel_rfl) (by kernel_rfl) (by kernel_rfl) (Frame.met os _)) ?_
  intro W base args ds gs before hval0 hW _ _ _ _
  have hval : ∀ (j : Nat) t v, Tryz.f10.params[j]? = some t → args[j]? = some v → Value.okWide Tryz.prog W .any base t v := hval0
  have hW' := hW
  obtain ⟨p, q, hA0, hV, rfl, hfz, hnd⟩ := hW
  have hA : DataW.TrodAll enc Tryz.prog W 0 (fun _ => true) true Tryz.f10.params.toList args.toList ds p := hA0
  rw [Tryz.params10] at hA hval
  obtain ⟨v0, vs0, d0, ds0, p0, q0, hargs, rfl, rfl, h0, r0⟩ := trodAll_cons hA
  obtain ⟨v1, vs1, d1, ds1, p1, q1, rfl, rfl, rfl, h1, r1⟩ := trodAll_cons r0
  obtain ⟨rfl, rfl, rfl⟩ := trodAll_nil r1
  obtain rfl : args = #[v0, v1] := by cases args; simp_all
  obtain ⟨rfl, rfl⟩ := trodVars_none hV
  have lt0 : ∀ x ∈ p0, x.block < W.heap.size := by obtain ⟨m, hm⟩ := h0; exact DataW.trod_lt m _ _ _ hm
  have lt1 : ∀ x ∈ p1, x.block < W.heap.size := by obtain ⟨m, hm⟩ := h1; exact DataW.trod_lt m _ _ _ hm
  have ok0 := hval 0 27 v0 rfl rfl
  have ok1 := hval 1 27 v1 rfl rfl
  clear hA0 hval0
  refine (Am.walk_tableNil ok0 ok1).mono fun e W' ⟨he, bel⟩ => ?_
  subst he
  exact ⟨_, rfl, _, _, _, [], _, [], hW', trodAll_mk1 (shut_bool Tryz.underlying4 _), (trodAll_cons_mk (Below.trod Frame.laidOut (by kernel_rfl) (of_decide_eq_true (by kernel_rfl)) h0 bel lt0) (trodAll_cons_mk (Below.trod Frame.laidOut (by kernel_rfl) (of_decide_eq_true (by kernel_rfl)) h1 bel lt1) trodAll_mk0)), rfl, bel.frame _, fun h => by cases h⟩
theorem c1 : (Rows.tableNilRow.wf (OpenSpec.ofChange Rows.tableNilSpec)) = true := by kernel_rfl
theorem c2 : (Tryz.f10.params.all (Tryz.prog.readableRec ·) && namedTie Tryz.prog Rows.tableNilRow.named Rows.tableNilSpec.vars) = true := by kernel_rfl
theorem c4 : (Rows.tableNilRow.inPlace == Tryz.prog.inPlace 10) = true := by kernel_rfl
theorem c5 : (Rows.tableNilRow.unfollowed == Tryz.prog.unfollowed 10) = true := by kernel_rfl
theorem c6 : (Rows.tableNilRow.recurses == Tryz.prog.recurses 10) = true := by kernel_rfl
theorem c7 : (Rows.tableNilRow.named == Tryz.prog.varsNamed 10) = true := by kernel_rfl
theorem c8 : ((Rows.tableNilRow.maps == (Tryz.f10.params.toList ++ Rows.tableNilSpec.plain.varTypes Tryz.prog).any (Tryz.prog.mapsRec ·)) && (Rows.tableNilRow.ifaces == (Tryz.f10.params.toList ++ Rows.tableNilSpec.plain.varTypes Tryz.prog).any (Tryz.prog.ifacesRec ·)) && (Rows.tableNilRow.mapsOut == Tryz.prog.mapsAmong Tryz.f10.resultTypes.toList)) = true := by kernel_rfl
theorem c9 : ((Rows.tableNilRow.loops == (Tryz.f10.params.toList ++ Rows.tableNilSpec.plain.varTypes Tryz.prog).any (Tryz.prog.loopsFrom ·)) && (Rows.tableNilRow.wideKeys == (Tryz.f10.params.toList ++ Rows.tableNilSpec.plain.varTypes Tryz.prog ++ Tryz.f10.resultTypes.toList).any (Tryz.prog.wideKeysFrom ·))) = true := by kernel_rfl
theorem c10 : (Rows.tableNilSpec.vars.all (Tryz.prog.varReadable ·) && Tryz.f10.resultTypes.all (fun t => Tryz.prog.readableRec t && decide (t < Tryz.prog.types.size)) && (Rows.tableNilRow.ifacesOut == Tryz.f10.resultTypes.toList.any (Tryz.prog.ifacesRec ·)) && (Rows.tableNilRow.loopsOut == Tryz.f10.resultTypes.toList.any (Tryz.prog.loopsFrom ·))) = true := by kernel_rfl
theorem c17 : ((Rows.tableNilRow.veiled == (Tryz.f10.params.toList ++ Rows.tableNilSpec.plain.varTypes Tryz.prog ++ Tryz.f10.resultTypes.toList).any (Tryz.prog.veiledRec ·)) && Rows.tableNilRow.veiledFits Tryz.prog Tryz.f10.params.toList (Tryz.f10.params.toList ++ Rows.tableNilSpec.plain.varTypes Tryz.prog ++ Tryz.f10.resultTypes.toList)) = true := by kernel_rfl
theorem closed : joinedFacts Tryz.prog 10 Tryz.f10 Rows.tableNilSpec Rows.tableNilRow = true :=
  Frame.joined_of (by rw [Frame.rowed, c1]; rfl) Frame.laidOut c2 (by rw [Frame.stops, Frame.stopKnobs]; rfl) c4 c5 c6 c7 c8 c9 c10 Frame.plainKeys (by rw [Frame.heard]; rfl) Frame.mayEnter Frame.lifted Frame.make rfl c17
theorem named : Tryz.prog.funcNamed "storeman/storemanlaw23.TableNil" = some 10 := by kernel_rfl
theorem inst : Tryz.f10.isInstance Tryz.prog Rows.tableNilRow.origin Rows.tableNilRow.targs := of_decide_eq_true (by kernel_rfl)
theorem wrap : Tryz.f10.isWrapper Tryz.prog Rows.tableNilRow.wrapper Rows.tableNilRow.mainSum := by unfold Func.isWrapper; first | (rw [if_pos (by decide +kernel)]; kernel_rfl) | (rw [if_neg (by decide +kernel)]; exact ⟨rfl, rfl⟩)
theorem lifted7 (os : Os) (started : os.Started) (H : Type) (enc : TypeId × Value → H) :
    ReturnsInHanded Rows.tableNilRow.assume Tryz.pinned.checked os 10 .any (Rows.tableNilRow.pre enc Tryz.pinned.checked.prog Tryz.f10 (OpenSpec.ofChange Rows.tableNilSpec)) (Rows.tableNilSpec.post enc Tryz.pinned.checked.prog Tryz.f10 Rows.tableNilRow.apart Rows.tableNilRow.fresh Rows.tableNilRow.handsOn Rows.tableNilRow.again) :=
  lifted os started H enc
theorem over : Rows.tableNilRow.holds Tryz.pinned (OpenSpec.ofChange Rows.tableNilSpec) :=
  OpenClaim.holds_of_wide 10 Tryz.f10 rfl rfl rfl rfl rfl rfl rfl ⟨rfl, rfl, rfl, rfl, rfl⟩ rfl rfl rfl rfl rfl named Tryz.func10 closed inst wrap (fun os started H enc _ => lifted7 os started H enc)
end Go.Proofs.YtfdbmpokhfjdoaaGreatDoor.tableNil
