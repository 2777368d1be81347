/-
  TableNil (storemanlaw23) answers true at every input and leaves its arguments as they read. Conditions: none beyond the card's own (the listed package-level variables, tied to the program's text).
-/
import Derived.Test.YtfdbmpokhfjdoaaGreatDoorTableNil
set_option linter.unusedSimpArgs false
set_option linter.unusedVariables false
namespace Go.Proofs.YtfdbmpokhfjdoaaGreatDoor.tableNil
open Go.ChangeShapes Go.WideShapes Go.ChangeAt Go.RowKit
theorem byText : Rows.tableNilRow.wfByText (OpenSpec.ofChange Rows.tableNilSpec) = true := by kernel_rfl
theorem mainIs : Tryz.pinned.checked.prog.mainIs = some (true, "3cc10b5a971bc116d99a2e7a5e0cea07301e5b5897d7ceeb4fd892d97829c141".toList) := by kernel_rfl
theorem looks : false = Tryz.pinned.checked.prog.looks [] := by kernel_rfl
theorem stand : ([27, 27].all fun u => !Tryz.prog.wantsStandIn u) = true := by kernel_rfl
theorem goes : false = Rows.tableNilRow.goesBy Tryz.pinned.checked.prog := by kernel_rfl
theorem proved : Rows.TableNilCardSaid :=
  Claim7.holds_tied_plain_at .later [] [.data, .sentinel, .pinned] true (true, "3cc10b5a971bc116d99a2e7a5e0cea07301e5b5897d7ceeb4fd892d97829c141") false
    over (fun _ h => by cases h) byText (fun _ h => by cases h) tableNil_row_tie rfl ⟨rfl, rfl⟩ mainIs rfl
    (fun f fn hf hfn => by
      obtain rfl : f = 10 := Option.some.inj (named.symm.trans hf) |>.symm
      obtain rfl : fn = Tryz.f10 := (Option.some.inj (Tryz.func10.symm.trans hfn)).symm
      exact ⟨looks, fun j t ht => by
        rw [Tryz.params10] at ht
        have hm : t ∈ ([27, 27] : List TypeId) := by simpa using Array.mem_of_getElem? ht
        exact (show Tryz.prog.wantsStandIn t = false by simpa using List.all_eq_true.1 stand t hm)⟩)
    goes
#print axioms proved
end Go.Proofs.YtfdbmpokhfjdoaaGreatDoor.tableNil
namespace Go.Proofs.YtfdbmpokhfjdoaaGreatDoor
theorem tableNil_holds : Rows.TableNilCardSaid := tableNil.proved
end Go.Proofs.YtfdbmpokhfjdoaaGreatDoor
