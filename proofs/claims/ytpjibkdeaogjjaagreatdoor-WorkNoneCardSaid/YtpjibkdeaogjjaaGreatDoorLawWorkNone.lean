/-
  WorkNone (storemanlaw26) answers true at every input and leaves its arguments as they read. Conditions: none beyond the card's own (the listed package-level variables, tied to the program's text).
-/
import Derived.Test.YtpjibkdeaogjjaaGreatDoorWorkNone
set_option linter.unusedSimpArgs false
set_option linter.unusedVariables false
namespace Go.Proofs.YtpjibkdeaogjjaaGreatDoor.workNone
open Go.ChangeShapes Go.WideShapes Go.ChangeAt Go.RowKit
theorem byText : Rows.workNoneRow.wfByText (OpenSpec.ofChange Rows.workNoneSpec) = true := by kernel_rfl
theorem mainIs : Tryz.pinned.checked.prog.mainIs = some (true, "e08b3a8c9c0a6cae106799571066f892469b7eb9f4878f76ff13e1285c3710db".toList) := by kernel_rfl
theorem looks : false = Tryz.pinned.checked.prog.looks [] := by kernel_rfl
theorem stand : ([2, 22].all fun u => !Tryz.prog.wantsStandIn u) = true := by kernel_rfl
theorem goes : false = Rows.workNoneRow.goesBy Tryz.pinned.checked.prog := by kernel_rfl
theorem proved : Rows.WorkNoneCardSaid :=
  Claim7.holds_tied_plain_at .later [] [.data, .sentinel, .pinned] true (true, "e08b3a8c9c0a6cae106799571066f892469b7eb9f4878f76ff13e1285c3710db") false
    over (fun _ h => by cases h) byText (fun _ h => by cases h) workNone_row_tie rfl ⟨rfl, rfl⟩ mainIs rfl
    (fun f fn hf hfn => by
      obtain rfl : f = 3 := Option.some.inj (named.symm.trans hf) |>.symm
      obtain rfl : fn = Tryz.f3 := (Option.some.inj (Tryz.func3.symm.trans hfn)).symm
      exact ⟨looks, fun j t ht => by
        rw [Tryz.params3] at ht
        have hm : t ∈ ([2, 22] : List TypeId) := by simpa using Array.mem_of_getElem? ht
        exact (show Tryz.prog.wantsStandIn t = false by simpa using List.all_eq_true.1 stand t hm)⟩)
    goes
#print axioms proved
end Go.Proofs.YtpjibkdeaogjjaaGreatDoor.workNone
namespace Go.Proofs.YtpjibkdeaogjjaaGreatDoor
theorem workNone_holds : Rows.WorkNoneCardSaid := workNone.proved
end Go.Proofs.YtpjibkdeaogjjaaGreatDoor
