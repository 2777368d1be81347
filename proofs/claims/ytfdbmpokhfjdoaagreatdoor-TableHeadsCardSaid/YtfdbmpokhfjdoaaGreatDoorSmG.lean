import Derived.Test.YtfdbmpokhfjdoaaGreatDoorAmS27
import Derived.Test.YtfdbmpokhfjdoaaGreatDoorRows
import Derived.Lay
import Derived.MakeChecks
import Derived.JoinedOf
set_option linter.unusedSimpArgs false
set_option linter.unusedVariables false
namespace Go.Proofs.YtfdbmpokhfjdoaaGreatDoor.Frame
open Go
def laid : List (String × DataW Unit) := [("unicode/utf8.acceptRanges", Rows.laid_unicode_utf8_acceptRanges), ("bytes.ErrTooLarge", Rows.laid_bytes_ErrTooLarge), ("unicode/utf8.first", Rows.laid_unicode_utf8_first)]
theorem own : ownKnob Tryz.prog.godebug = none := by kernel_rfl
theorem laidOut : laidOutB Tryz.prog = true := by kernel_rfl
theorem shapedZip (os : Os) (args : Array Value) : ((World.laidAll Tryz.prog os laid).forCall (fun _ _ => 0) ⟨#[], args, []⟩).Shaped Tryz.prog := World.shaped_of_ZipB (by kernel_rfl) (by kernel_rfl)
theorem met (os : Os) (args : Array Value) : laidMetH Tryz.prog laid ((World.laidAll Tryz.prog os laid).forCall (fun _ _ => 0) ⟨#[], args, []⟩).memory := by
  rw [MakeChecks.laidMetH_plain _ _ _ (by kernel_rfl)]
  exact laidMet_laidAll _ (by kernel_rfl) (by kernel_rfl)
theorem joined_of {P : Program} {f : FuncId} {fn : Func} {s : ChangeSpec} {c : OpenClaim} (h1 : (c.wf (OpenSpec.ofChange s) && mapsRowed P) = true) (h0 : laidOutB P = true) (h2 : (fn.params.all (P.readableRec ·) && namedTie P c.named s.vars) = true)
    (h3 : ((c.stops == []) && (P.stops == []) && (c.knobs == []) && (P.stopKnobs == [])) = true) (h4 : (c.inPlace == P.inPlace f) = true) (h5 : (c.unfollowed == P.unfollowed f) = true) (h6 : (c.recurses == P.recurses f) = true) (h7 : (c.named == P.varsNamed f) = true)
    (h8 : ((c.maps == (fn.params.toList ++ s.plain.varTypes P).any (P.mapsRec ·)) && (c.ifaces == (fn.params.toList ++ s.plain.varTypes P).any (P.ifacesRec ·)) && (c.mapsOut == P.mapsAmong fn.resultTypes.toList)) = true)
    (h9 : ((c.loops == (fn.params.toList ++ s.plain.varTypes P).any (P.loopsFrom ·)) && (c.wideKeys == (fn.params.toList ++ s.plain.varTypes P ++ fn.resultTypes.toList).any (P.wideKeysFrom ·))) = true)
    (h10 : (s.vars.all (P.varReadable ·) && fn.resultTypes.all (fun t => P.readableRec t && decide (t < P.types.size)) && (c.ifacesOut == fn.resultTypes.toList.any (P.ifacesRec ·)) && (c.loopsOut == fn.resultTypes.toList.any (P.loopsFrom ·))) = true)
    (h11 : (c.plainKeys == P.plainKeys) = true) (h12 : (c.shortTexts.isNone && P.stopsHeard) = true) (h13 : P.mayEnter = true) (h14 : (c.lifted == P.liftsFinal) = true) (h15 : (P.make == some c.make) = true)
    (h16 : ((c.kinds == (if c.domain.isEmpty then [] else fn.params.toList.map fun t => match P.underlying t with | some (.int k) => some k | _ => none)) && (c.pinned == c.pinnedBy)) = true)
    (h17 : ((c.veiled == (fn.params.toList ++ s.plain.varTypes P ++ fn.resultTypes.toList).any (P.veiledRec ·)) && c.veiledFits P fn.params.toList (fn.params.toList ++ s.plain.varTypes P ++ fn.resultTypes.toList)) = true) :
    joinedFacts P f fn s c = true := by
  simp only [Bool.and_eq_true] at h1 h2 h3 h8 h9 h10 h12 h16 h17
  simp only [joinedFacts, Bool.and_eq_true]
  exact ⟨⟨⟨⟨⟨⟨⟨⟨⟨⟨⟨⟨⟨⟨⟨⟨⟨⟨⟨⟨⟨⟨⟨⟨⟨⟨⟨⟨⟨⟨⟨h1.1, h0⟩, h1.2⟩, h2.1⟩, h2.2⟩, h3.1.1.1⟩, h3.1.1.2⟩, h3.1.2⟩, h3.2⟩, h4⟩, h5⟩, h6⟩, h7⟩, h8.1.1⟩, h8.1.2⟩, h8.2⟩, h9.1⟩, h9.2⟩, h10.1.1.1⟩, h10.1.1.2⟩, h10.1.2⟩, h10.2⟩, h11⟩, h12.1⟩, h12.2⟩, h13⟩, h14⟩, h15⟩, h16.1⟩, h16.2⟩, h17.1⟩, h17.2⟩
theorem rowed : mapsRowed Tryz.prog = true := by kernel_rfl
theorem stops : Tryz.prog.stops = [] := eq_of_beq (by kernel_rfl)
theorem stopKnobs : Tryz.prog.stopKnobs = [] := eq_of_beq (by kernel_rfl)
theorem plainKeys : (Rows.poolNoneRow.plainKeys == Tryz.prog.plainKeys) = true := by kernel_rfl
theorem heard : Tryz.prog.stopsHeard = true := by kernel_rfl
theorem mayEnter : Tryz.prog.mayEnter = true := by kernel_rfl
theorem lifted : (Rows.poolNoneRow.lifted == Tryz.prog.liftsFinal) = true := by kernel_rfl
theorem make : (Tryz.prog.make == some Rows.poolNoneRow.make) = true := by kernel_rfl
end Go.Proofs.YtfdbmpokhfjdoaaGreatDoor.Frame
