/-
  TableHeads (storemanlaw23) answers true at every input and leaves its arguments as they read. Conditions: none beyond the card's own (the listed package-level variables, tied to the program's text).
-/
import Derived.Test.YtfdbmpokhfjdoaaGreatDoorTableHeads
set_option linter.unusedSimpArgs false
set_option linter.unusedVariables false
namespace Go.Proofs.YtfdbmpokhfjdoaaGreatDoor.tableHeads
open Go.ChangeShapes Go.WideShapes Go.ChangeAt Go.RowKit
theorem byText : Rows.tableHeadsRow.wfByText (OpenSpec.ofChange Rows.tableHeadsSpec) = true := by kernel_rfl
theorem mainIs : Tryz.pinned.checked.prog.mainIs = some (true, "3cc10b5a971bc116d99a2e7a5e0cea07301e5b5897d7ceeb4fd892d97829c141".toList) := by kernel_rfl
theorem looks : false = Tryz.pinned.checked.prog.looks [] := by kernel_rfl
theorem stand : ([27, 3].all fun u => !Tryz.prog.wantsStandIn u) = true := by kernel_rfl
theorem goes : false = Rows.tableHeadsRow.goesBy Tryz.pinned.checked.prog := by kernel_rfl
theorem proved : Rows.TableHeadsCardSaid :=
  Claim7.holds_tied_plain_at .later [] [.data, .sentinel, .pinned] true (true, "3cc10b5a971bc116d99a2e7a5e0cea07301e5b5897d7ceeb4fd892d97829c141") false
    over (fun _ h => by cases h) byText (fun _ h => by cases h) tableHeads_row_tie rfl ⟨rfl, rfl⟩ mainIs rfl
    (fun f fn hf hfn => by
      obtain rfl : f = 7 := Option.some.inj (named.symm.trans hf) |>.symm
      obtain rfl : fn = Tryz.f7 := (Option.some.inj (Tryz.func7.symm.trans hfn)).symm
      exact ⟨looks, fun j t ht => by
        rw [Tryz.params7] at ht
        have hm : t ∈ ([27, 3] : List TypeId) := by simpa using Array.mem_of_getElem? ht
        exact (show Tryz.prog.wantsStandIn t = false by simpa using List.all_eq_true.1 stand t hm)⟩)
    goes
#print axioms proved
end Go.Proofs.YtfdbmpokhfjdoaaGreatDoor.tableHeads
namespace Go.Proofs.YtfdbmpokhfjdoaaGreatDoor
theorem tableHeads_holds : Rows.TableHeadsCardSaid := tableHeads.proved
end Go.Proofs.YtfdbmpokhfjdoaaGreatDoor
