import Derived.Test.YtfdbmpokhfjdoaaGreatDoorSmZ
import Derived.Test.YtfdbmpokhfjdoaaGreatDoorSmG
import Derived.Test.YtfdbmpokhfjdoaaGreatDoorCards
import Derived.Test.YtfdbmpokhfjdoaaGreatDoorTie
import Derived.WalkKit
import Derived.ProofKit
import Derived.OpenShut
import Derived.ChangeOld
import Derived.Below
import Derived.SizedLaws
import Derived.SevenTiedAt
set_option linter.unusedSimpArgs false
set_option linter.unusedVariables false
namespace Go.Proofs.YtfdbmpokhfjdoaaGreatDoor.tableHeads
open Go.ChangeShapes Go.WideShapes Go.ChangeAt Go.RowKit
set_option maxRecDepth 100000 in
theorem lifted (os : Os) (started : os.Started) (H : Type) (enc : TypeId × Value → H) :
    ReturnsInHanded {} Tryz.checked os 7 .any (fun w args => (Rows.tableHeadsSpec.pre enc Tryz.prog Tryz.f7 [] false w args ∧ laidMetH Tryz.prog Frame.laid w) ∧ sizedMet enc Tryz.prog Tryz.f7 (OpenSpec.ofChange Rows.tableHeadsSpec) false w args)
      (Rows.tableHeadsSpec.post enc Tryz.prog Tryz.f7 false true false false) := by
  refine returnsInHanded_of_change_and (C := Tryz.checked) (X := fun w _ => laidMetH Tryz.prog Frame.laid w) (fun _ _ _ hh h => h.of_heap hh) Frame.own started (by kernel_rfl) Tryz.func7
    (ChangeSpec.witness_shaped (enc := enc) (C := Tryz.checked) (os := os) (X := fun w _ => laidMetH Tryz.prog Frame.laid w) false (World.laidAll Tryz.prog os Frame.laid) #[.slice none 0 0, .int .i64 0] 8 (World.laidAll_os _ _ _)
      (Frame.shapedZip os _) (by kernel_rfl) (by kernel_rfl) (by kernel_rfl) (Frame.met os _)) ?_
  intro W base args ds gs before hval0 hW _ _ _ _
  have hval : ∀ (j : Nat) t v, Tryz.f7.params[j]? = some t → args[j]? = some v → Value.okWide Tryz.prog W .any base t v := hval0
  have hW' := hW
  obtain ⟨p, q, hA0, hV, rfl, hfz, hnd⟩ := hW
  have hA : DataW.TrodAll enc Tryz.prog W 0 (fun _ => true) true Tryz.f7.params.toList args.toList ds p := hA0
  rw [Tryz.params7] at hA hval
  obtain ⟨v0, vs0, d0, ds0, p0, q0, hargs, rfl, rfl, h0, r0⟩ := trodAll_cons hA
  obtain ⟨v1, vs1, d1, ds1, p1, q1, rfl, rfl, rfl, h1, r1⟩ := trodAll_cons r0
  obtain ⟨rfl, rfl, rfl⟩ := trodAll_nil r1
  obtain rfl : args = #[v0, v1] := by cases args; simp_all
  obtain ⟨rfl, rfl⟩ := trodVars_none hV
  have lt0 : ∀ x ∈ p0, x.block < W.heap.size := by obtain ⟨m, hm⟩ := h0; exact DataW.trod_lt m _ _ _ hm
  have lt1 : ∀ x ∈ p1, x.block < W.heap.size := by obtain ⟨m, hm⟩ := h1; exact DataW.trod_lt m _ _ _ hm
  have ok0 := hval 0 27 v0 rfl rfl
  have ok1 := hval 1 3 v1 rfl rfl
  clear hA0 hval0
  refine (Am.walk_tableHeads ok0 ok1 h0 h1).mono fun e W' ⟨he, bel⟩ => ?_
  subst he
  exact ⟨_, rfl, _, _, _, [], _, [], hW', trodAll_mk1 (shut_bool Tryz.underlying4 _), (trodAll_cons_mk (Below.trod Frame.laidOut (by kernel_rfl) (of_decide_eq_true (by kernel_rfl)) h0 bel lt0) (trodAll_cons_mk (Below.trod Frame.laidOut (by kernel_rfl) (of_decide_eq_true (by kernel_rfl)) h1 bel lt1) trodAll_mk0)), rfl, bel.frame _, fun h => by cases h⟩
theorem c1 : (Rows.tableHeadsRow.wf (OpenSpec.ofChange Rows.tableHeadsSpec)) = true := by kernel_rfl
theorem c2 : (Tryz.f7.params.all (Tryz.prog.readableRec ·) && namedTie Tryz.prog Rows.tableHeadsRow.named Rows.tableHeadsSpec.vars) = true := by kernel_rfl
theorem c4 : (Rows.tableHeadsRow.inPlace == Tryz.prog.inPlace 7) = true := by kernel_rfl
theorem c5 : (Rows.tableHeadsRow.unfollowed == Tryz.prog.unfollowed 7) = true := by kernel_rfl
theorem c6 : (Rows.tableHeadsRow.recurses == Tryz.prog.recurses 7) = true := by kernel_rfl
theorem c7 : (Rows.tableHeadsRow.named == Tryz.prog.varsNamed 7) = true := by kernel_rfl
theorem c8 : ((Rows.tableHeadsRow.maps == (Tryz.f7.params.toList ++ Rows.tableHeadsSpec.plain.varTypes Tryz.prog).any (Tryz.prog.mapsRec ·)) && (Rows.tableHeadsRow.ifaces == (Tryz.f7.params.toList ++ Rows.tableHeadsSpec.plain.varTypes Tryz.prog).any (Tryz.prog.ifacesRec ·)) && (Rows.tableHeadsRow.mapsOut == Tryz.prog.mapsAmong Tryz.f7.resultTypes.toList)) = true := by kernel_rfl
theorem c9 : ((Rows.tableHeadsRow.loops == (Tryz.f7.params.toList ++ Rows.tableHeadsSpec.plain.varTypes Tryz.prog).any (Tryz.prog.loopsFrom ·)) && (Rows.tableHeadsRow.wideKeys == (Tryz.f7.params.toList ++ Rows.tableHeadsSpec.plain.varTypes Tryz.prog ++ Tryz.f7.resultTypes.toList).any (Tryz.prog.wideKeysFrom ·))) = true := by kernel_rfl
theorem c10 : (Rows.tableHeadsSpec.vars.all (Tryz.prog.varReadable ·) && Tryz.f7.resultTypes.all (fun t => Tryz.prog.readableRec t && decide (t < Tryz.prog.types.size)) && (Rows.tableHeadsRow.ifacesOut == Tryz.f7.resultTypes.toList.any (Tryz.prog.ifacesRec ·)) && (Rows.tableHeadsRow.loopsOut == Tryz.f7.resultTypes.toList.any (Tryz.prog.loopsFrom ·))) = true := by kernel_rfl
theorem c17 : ((Rows.tableHeadsRow.veiled == (Tryz.f7.params.toList ++ Rows.tableHeadsSpec.plain.varTypes Tryz.prog ++ Tryz.f7.resultTypes.toList).any (Tryz.prog.veiledRec ·)) && Rows.tableHeadsRow.veiledFits Tryz.prog Tryz.f7.params.toList (Tryz.f7.params.toList ++ Rows.tableHeadsSpec.plain.varTypes Tryz.prog ++ Tryz.f7.resultTypes.toList)) = true := by kernel_rfl
theorem closed : joinedFacts Tryz.prog 7 Tryz.f7 Rows.tableHeadsSpec Rows.tableHeadsRow = true :=
  Frame.joined_of (by rw [Frame.rowed, c1]; rfl) Frame.laidOut c2 (by rw [Frame.stops, Frame.stopKnobs]; rfl) c4 c5 c6 c7 c8 c9 c10 Frame.plainKeys (by rw [Frame.heard]; rfl) Frame.mayEnter Frame.lifted Frame.make rfl c17
theorem named : Tryz.prog.funcNamed "storeman/storemanlaw23.TableHeads" = some 7 := by kernel_rfl
theorem inst : Tryz.f7.isInstance Tryz.prog Rows.tableHeadsRow.origin Rows.tableHeadsRow.targs := of_decide_eq_true (by kernel_rfl)
theorem wrap : Tryz.f7.isWrapper Tryz.prog Rows.tableHeadsRow.wrapper Rows.tableHeadsRow.mainSum := by unfold Func.isWrapper; first | (rw [if_pos (by decide +kernel)]; kernel_rfl) | (rw [if_neg (by decide +kernel)]; exact ⟨rfl, rfl⟩)
theorem lifted7 (os : Os) (started : os.Started) (H : Type) (enc : TypeId × Value → H) :
    ReturnsInHanded Rows.tableHeadsRow.assume Tryz.pinned.checked os 7 .any (Rows.tableHeadsRow.pre enc Tryz.pinned.checked.prog Tryz.f7 (OpenSpec.ofChange Rows.tableHeadsSpec)) (Rows.tableHeadsSpec.post enc Tryz.pinned.checked.prog Tryz.f7 Rows.tableHeadsRow.apart Rows.tableHeadsRow.fresh Rows.tableHeadsRow.handsOn Rows.tableHeadsRow.again) :=
  lifted os started H enc
theorem over : Rows.tableHeadsRow.holds Tryz.pinned (OpenSpec.ofChange Rows.tableHeadsSpec) :=
  OpenClaim.holds_of_wide 7 Tryz.f7 rfl rfl rfl rfl rfl rfl rfl ⟨rfl, rfl, rfl, rfl, rfl⟩ rfl rfl rfl rfl rfl named Tryz.func7 closed inst wrap (fun os started H enc _ => lifted7 os started H enc)
end Go.Proofs.YtfdbmpokhfjdoaaGreatDoor.tableHeads
