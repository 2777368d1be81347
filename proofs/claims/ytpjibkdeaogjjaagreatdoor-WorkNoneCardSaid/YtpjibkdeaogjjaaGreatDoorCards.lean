/-
  DERIVED. GIVEN WITH THE SEED: THE CARDS: each row of YtpjibkdeaogjjaaGreatDoorRows.lean that lists a variable, with what it lists TIED to the program's text (the seventh form; the later family's looks); each row that meets fmt, with fmt's text TOLD by the authors' own Lean function (tested against real Go, not proved from fmt's source: count such statements apart). THE CARD IS WHAT COUNTS. Prove the row's statement (the work); the ties are given (YtpjibkdeaogjjaaGreatDoorTie.lean); close each card by the builder's one call (the guide's Derived/Test/ToyasCard.lean, 'card_holds'). Laid BY PROGRAM, IN A SANDBOX (cutbox-door.mjs). By AI agents, Wed Nov 11 2026. No macro, syntax, notation, axiom, sorry.
-/
import Derived.Test.YtpjibkdeaogjjaaGreatDoorRows
import GoSem.ClaimSeven
namespace Go.Proofs.YtpjibkdeaogjjaaGreatDoor
namespace Rows

/-- THE TIED CARD OF 'storemanlaw26.WorkNone'. -/
def workNoneCard : Claim7 := { stood := { row := workNoneRow, standIns := [], harness := (true, "e08b3a8c9c0a6cae106799571066f892469b7eb9f4878f76ff13e1285c3710db"), looks := false }, kinds := [], alts := [], laidByText := true, laidKinds := [.data, .sentinel, .pinned], laidTests := true, laidLooks := .later }
def WorkNoneCardSaid : Prop := Claim7.holds Tryz.pinned (.plain (OpenSpec.ofChange workNoneSpec)) workNoneCard

/-- THE SECOND FORM's CARD OF 'storemanlaw26.WorkNone'. -/
def workNoneUptoCard : Claim7 := { stood := { row := workNoneUptoRow, standIns := [], harness := (true, "e08b3a8c9c0a6cae106799571066f892469b7eb9f4878f76ff13e1285c3710db"), looks := false }, kinds := [], alts := [], laidByText := true, laidKinds := [.data, .sentinel, .pinned], laidTests := true, laidLooks := .later }
def WorkNoneUptoCardSaid : Prop := Claim7.holds Tryz.pinned (.plain (OpenSpec.upto workNoneSpec)) workNoneUptoCard
end Rows
end Go.Proofs.YtpjibkdeaogjjaaGreatDoor
