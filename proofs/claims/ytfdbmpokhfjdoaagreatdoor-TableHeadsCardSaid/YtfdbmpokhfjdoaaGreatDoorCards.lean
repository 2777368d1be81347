/-
  DERIVED. GIVEN WITH THE SEED: THE CARDS: each row of YtfdbmpokhfjdoaaGreatDoorRows.lean that lists a variable, with what it lists TIED to the program's text (the seventh form; the later family's looks); each row that meets fmt, with fmt's text TOLD by the authors' own Lean function (tested against real Go, not proved from fmt's source: count such statements apart). THE CARD IS WHAT COUNTS. Prove the row's statement (the work); the ties are given (YtfdbmpokhfjdoaaGreatDoorTie.lean); close each card by the builder's one call (the guide's Derived/Test/ToyasCard.lean, 'card_holds'). Laid BY PROGRAM, IN A SANDBOX (cutbox-door.mjs). By AI agents, Wed Nov 11 2026. No macro, syntax, notation, axiom, sorry.
-/
import Derived.Test.YtfdbmpokhfjdoaaGreatDoorRows
import GoSem.ClaimSeven
namespace Go.Proofs.YtfdbmpokhfjdoaaGreatDoor
namespace Rows

/-- THE TIED CARD OF 'storemanlaw22.PoolFew'. -/
def poolFewCard : Claim7 := { stood := { row := poolFewRow, standIns := [], harness := (true, "3cc10b5a971bc116d99a2e7a5e0cea07301e5b5897d7ceeb4fd892d97829c141"), looks := false }, kinds := [], alts := [], laidByText := true, laidKinds := [.data, .sentinel, .pinned], laidTests := true, laidLooks := .later }
def PoolFewCardSaid : Prop := Claim7.holds Tryz.pinned (.plain (OpenSpec.ofChange poolFewSpec)) poolFewCard

/-- THE TIED CARD OF 'storemanlaw22.PoolAgain'. -/
def poolAgainCard : Claim7 := { stood := { row := poolAgainRow, standIns := [], harness := (true, "3cc10b5a971bc116d99a2e7a5e0cea07301e5b5897d7ceeb4fd892d97829c141"), looks := false }, kinds := [], alts := [], laidByText := true, laidKinds := [.data, .sentinel, .pinned], laidTests := true, laidLooks := .later }
def PoolAgainCardSaid : Prop := Claim7.holds Tryz.pinned (.plain (OpenSpec.ofChange poolAgainSpec)) poolAgainCard

/-- THE TIED CARD OF 'storemanlaw22.PoolDoes'. -/
def poolDoesCard : Claim7 := { stood := { row := poolDoesRow, standIns := [], harness := (true, "3cc10b5a971bc116d99a2e7a5e0cea07301e5b5897d7ceeb4fd892d97829c141"), looks := false }, kinds := [], alts := [], laidByText := true, laidKinds := [.data, .sentinel, .pinned], laidTests := true, laidLooks := .later }
def PoolDoesCardSaid : Prop := Claim7.holds Tryz.pinned (.plain (OpenSpec.ofChange poolDoesSpec)) poolDoesCard

/-- THE TIED CARD OF 'storemanlaw22.PoolNone'. -/
def poolNoneCard : Claim7 := { stood := { row := poolNoneRow, standIns := [], harness := (true, "3cc10b5a971bc116d99a2e7a5e0cea07301e5b5897d7ceeb4fd892d97829c141"), looks := false }, kinds := [], alts := [], laidByText := true, laidKinds := [.data, .sentinel, .pinned], laidTests := true, laidLooks := .later }
def PoolNoneCardSaid : Prop := Claim7.holds Tryz.pinned (.plain (OpenSpec.ofChange poolNoneSpec)) poolNoneCard

/-- THE TIED CARD OF 'storemanlaw23.TableHeads'. -/
def tableHeadsCard : Claim7 := { stood := { row := tableHeadsRow, standIns := [], harness := (true, "3cc10b5a971bc116d99a2e7a5e0cea07301e5b5897d7ceeb4fd892d97829c141"), looks := false }, kinds := [], alts := [], laidByText := true, laidKinds := [.data, .sentinel, .pinned], laidTests := true, laidLooks := .later }
def TableHeadsCardSaid : Prop := Claim7.holds Tryz.pinned (.plain (OpenSpec.ofChange tableHeadsSpec)) tableHeadsCard

/-- THE TIED CARD OF 'storemanlaw23.TableLives'. -/
def tableLivesCard : Claim7 := { stood := { row := tableLivesRow, standIns := [], harness := (true, "3cc10b5a971bc116d99a2e7a5e0cea07301e5b5897d7ceeb4fd892d97829c141"), looks := false }, kinds := [], alts := [], laidByText := true, laidKinds := [.data, .sentinel, .pinned], laidTests := true, laidLooks := .later }
def TableLivesCardSaid : Prop := Claim7.holds Tryz.pinned (.plain (OpenSpec.ofChange tableLivesSpec)) tableLivesCard

/-- THE TIED CARD OF 'storemanlaw23.TableRaw'. -/
def tableRawCard : Claim7 := { stood := { row := tableRawRow, standIns := [], harness := (true, "3cc10b5a971bc116d99a2e7a5e0cea07301e5b5897d7ceeb4fd892d97829c141"), looks := false }, kinds := [], alts := [], laidByText := true, laidKinds := [.data, .sentinel, .pinned], laidTests := true, laidLooks := .later }
def TableRawCardSaid : Prop := Claim7.holds Tryz.pinned (.plain (OpenSpec.ofChange tableRawSpec)) tableRawCard

/-- THE TIED CARD OF 'storemanlaw23.TableNil'. -/
def tableNilCard : Claim7 := { stood := { row := tableNilRow, standIns := [], harness := (true, "3cc10b5a971bc116d99a2e7a5e0cea07301e5b5897d7ceeb4fd892d97829c141"), looks := false }, kinds := [], alts := [], laidByText := true, laidKinds := [.data, .sentinel, .pinned], laidTests := true, laidLooks := .later }
def TableNilCardSaid : Prop := Claim7.holds Tryz.pinned (.plain (OpenSpec.ofChange tableNilSpec)) tableNilCard

/-- THE TIED CARD OF 'storemanlaw23.TableNumbers'. -/
def tableNumbersCard : Claim7 := { stood := { row := tableNumbersRow, standIns := [], harness := (true, "3cc10b5a971bc116d99a2e7a5e0cea07301e5b5897d7ceeb4fd892d97829c141"), looks := false }, kinds := [], alts := [], laidByText := true, laidKinds := [.data, .sentinel, .pinned], laidTests := true, laidLooks := .later }
def TableNumbersCardSaid : Prop := Claim7.holds Tryz.pinned (.plain (OpenSpec.ofChange tableNumbersSpec)) tableNumbersCard

/-- THE TIED CARD OF 'storemanlaw23.TableHolds'. -/
def tableHoldsCard : Claim7 := { stood := { row := tableHoldsRow, standIns := [], harness := (true, "3cc10b5a971bc116d99a2e7a5e0cea07301e5b5897d7ceeb4fd892d97829c141"), looks := false }, kinds := [], alts := [], laidByText := true, laidKinds := [.data, .sentinel, .pinned], laidTests := true, laidLooks := .later }
def TableHoldsCardSaid : Prop := Claim7.holds Tryz.pinned (.plain (OpenSpec.ofChange tableHoldsSpec)) tableHoldsCard

/-- THE TIED CARD OF 'storemanlaw23.TableStill'. -/
def tableStillCard : Claim7 := { stood := { row := tableStillRow, standIns := [], harness := (true, "3cc10b5a971bc116d99a2e7a5e0cea07301e5b5897d7ceeb4fd892d97829c141"), looks := false }, kinds := [], alts := [], laidByText := true, laidKinds := [.data, .sentinel, .pinned], laidTests := true, laidLooks := .later }
def TableStillCardSaid : Prop := Claim7.holds Tryz.pinned (.plain (OpenSpec.ofChange tableStillSpec)) tableStillCard

/-- THE SECOND FORM's CARD OF 'storemanlaw22.PoolFew'. -/
def poolFewUptoCard : Claim7 := { stood := { row := poolFewUptoRow, standIns := [], harness := (true, "3cc10b5a971bc116d99a2e7a5e0cea07301e5b5897d7ceeb4fd892d97829c141"), looks := false }, kinds := [], alts := [], laidByText := true, laidKinds := [.data, .sentinel, .pinned], laidTests := true, laidLooks := .later }
def PoolFewUptoCardSaid : Prop := Claim7.holds Tryz.pinned (.plain (OpenSpec.upto poolFewSpec)) poolFewUptoCard

/-- THE SECOND FORM's CARD OF 'storemanlaw22.PoolAgain'. -/
def poolAgainUptoCard : Claim7 := { stood := { row := poolAgainUptoRow, standIns := [], harness := (true, "3cc10b5a971bc116d99a2e7a5e0cea07301e5b5897d7ceeb4fd892d97829c141"), looks := false }, kinds := [], alts := [], laidByText := true, laidKinds := [.data, .sentinel, .pinned], laidTests := true, laidLooks := .later }
def PoolAgainUptoCardSaid : Prop := Claim7.holds Tryz.pinned (.plain (OpenSpec.upto poolAgainSpec)) poolAgainUptoCard

/-- THE SECOND FORM's CARD OF 'storemanlaw22.PoolDoes'. -/
def poolDoesUptoCard : Claim7 := { stood := { row := poolDoesUptoRow, standIns := [], harness := (true, "3cc10b5a971bc116d99a2e7a5e0cea07301e5b5897d7ceeb4fd892d97829c141"), looks := false }, kinds := [], alts := [], laidByText := true, laidKinds := [.data, .sentinel, .pinned], laidTests := true, laidLooks := .later }
def PoolDoesUptoCardSaid : Prop := Claim7.holds Tryz.pinned (.plain (OpenSpec.upto poolDoesSpec)) poolDoesUptoCard

/-- THE SECOND FORM's CARD OF 'storemanlaw22.PoolNone'. -/
def poolNoneUptoCard : Claim7 := { stood := { row := poolNoneUptoRow, standIns := [], harness := (true, "3cc10b5a971bc116d99a2e7a5e0cea07301e5b5897d7ceeb4fd892d97829c141"), looks := false }, kinds := [], alts := [], laidByText := true, laidKinds := [.data, .sentinel, .pinned], laidTests := true, laidLooks := .later }
def PoolNoneUptoCardSaid : Prop := Claim7.holds Tryz.pinned (.plain (OpenSpec.upto poolNoneSpec)) poolNoneUptoCard

/-- THE SECOND FORM's CARD OF 'storemanlaw23.TableHeads'. -/
def tableHeadsUptoCard : Claim7 := { stood := { row := tableHeadsUptoRow, standIns := [], harness := (true, "3cc10b5a971bc116d99a2e7a5e0cea07301e5b5897d7ceeb4fd892d97829c141"), looks := false }, kinds := [], alts := [], laidByText := true, laidKinds := [.data, .sentinel, .pinned], laidTests := true, laidLooks := .later }
def TableHeadsUptoCardSaid : Prop := Claim7.holds Tryz.pinned (.plain (OpenSpec.upto tableHeadsSpec)) tableHeadsUptoCard

/-- THE SECOND FORM's CARD OF 'storemanlaw23.TableLives'. -/
def tableLivesUptoCard : Claim7 := { stood := { row := tableLivesUptoRow, standIns := [], harness := (true, "3cc10b5a971bc116d99a2e7a5e0cea07301e5b5897d7ceeb4fd892d97829c141"), looks := false }, kinds := [], alts := [], laidByText := true, laidKinds := [.data, .sentinel, .pinned], laidTests := true, laidLooks := .later }
def TableLivesUptoCardSaid : Prop := Claim7.holds Tryz.pinned (.plain (OpenSpec.upto tableLivesSpec)) tableLivesUptoCard

/-- THE SECOND FORM's CARD OF 'storemanlaw23.TableRaw'. -/
def tableRawUptoCard : Claim7 := { stood := { row := tableRawUptoRow, standIns := [], harness := (true, "3cc10b5a971bc116d99a2e7a5e0cea07301e5b5897d7ceeb4fd892d97829c141"), looks := false }, kinds := [], alts := [], laidByText := true, laidKinds := [.data, .sentinel, .pinned], laidTests := true, laidLooks := .later }
def TableRawUptoCardSaid : Prop := Claim7.holds Tryz.pinned (.plain (OpenSpec.upto tableRawSpec)) tableRawUptoCard

/-- THE SECOND FORM's CARD OF 'storemanlaw23.TableNil'. -/
def tableNilUptoCard : Claim7 := { stood := { row := tableNilUptoRow, standIns := [], harness := (true, "3cc10b5a971bc116d99a2e7a5e0cea07301e5b5897d7ceeb4fd892d97829c141"), looks := false }, kinds := [], alts := [], laidByText := true, laidKinds := [.data, .sentinel, .pinned], laidTests := true, laidLooks := .later }
def TableNilUptoCardSaid : Prop := Claim7.holds Tryz.pinned (.plain (OpenSpec.upto tableNilSpec)) tableNilUptoCard

/-- THE SECOND FORM's CARD OF 'storemanlaw23.TableNumbers'. -/
def tableNumbersUptoCard : Claim7 := { stood := { row := tableNumbersUptoRow, standIns := [], harness := (true, "3cc10b5a971bc116d99a2e7a5e0cea07301e5b5897d7ceeb4fd892d97829c141"), looks := false }, kinds := [], alts := [], laidByText := true, laidKinds := [.data, .sentinel, .pinned], laidTests := true, laidLooks := .later }
def TableNumbersUptoCardSaid : Prop := Claim7.holds Tryz.pinned (.plain (OpenSpec.upto tableNumbersSpec)) tableNumbersUptoCard

/-- THE SECOND FORM's CARD OF 'storemanlaw23.TableHolds'. -/
def tableHoldsUptoCard : Claim7 := { stood := { row := tableHoldsUptoRow, standIns := [], harness := (true, "3cc10b5a971bc116d99a2e7a5e0cea07301e5b5897d7ceeb4fd892d97829c141"), looks := false }, kinds := [], alts := [], laidByText := true, laidKinds := [.data, .sentinel, .pinned], laidTests := true, laidLooks := .later }
def TableHoldsUptoCardSaid : Prop := Claim7.holds Tryz.pinned (.plain (OpenSpec.upto tableHoldsSpec)) tableHoldsUptoCard

/-- THE SECOND FORM's CARD OF 'storemanlaw23.TableStill'. -/
def tableStillUptoCard : Claim7 := { stood := { row := tableStillUptoRow, standIns := [], harness := (true, "3cc10b5a971bc116d99a2e7a5e0cea07301e5b5897d7ceeb4fd892d97829c141"), looks := false }, kinds := [], alts := [], laidByText := true, laidKinds := [.data, .sentinel, .pinned], laidTests := true, laidLooks := .later }
def TableStillUptoCardSaid : Prop := Claim7.holds Tryz.pinned (.plain (OpenSpec.upto tableStillSpec)) tableStillUptoCard
end Rows
end Go.Proofs.YtfdbmpokhfjdoaaGreatDoor
