/-
  DERIVED. GIVEN WITH THE SEED: THE CARDS: each row of YtheacfnopahmjaaGreatDoorRows.lean that lists a variable, with what it lists TIED to the program's text (the seventh form; the later family's looks); each row that meets fmt, with fmt's text TOLD by the authors' own Lean function (tested against real Go, not proved from fmt's source: count such statements apart). THE CARD IS WHAT COUNTS. Prove the row's statement (the work); the ties are given (YtheacfnopahmjaaGreatDoorTie.lean); close each card by the builder's one call (the guide's Derived/Test/ToyasCard.lean, 'card_holds'). Laid BY PROGRAM, IN A SANDBOX (cutbox-door.mjs). By AI agents, Wed Nov 11 2026. No macro, syntax, notation, axiom, sorry.
-/
import Derived.Test.YtheacfnopahmjaaGreatDoorRows
import GoSem.ClaimSeven
namespace Go.Proofs.YtheacfnopahmjaaGreatDoor
namespace Rows

/-- THE TIED CARD OF 'wreckagelaw40.ReportOrder'. -/
def reportOrderCard : Claim7 := { stood := { row := reportOrderRow, standIns := [], harness := (true, "7754283d7d2aa53d68f672087f55f7cc4332f55f723f6abf0f59cd83e0be1448"), looks := false }, kinds := [], alts := [], laidByText := true, laidKinds := [.data, .pinned], laidTests := true, laidLooks := .later }
def ReportOrderCardSaid : Prop := Claim7.holds Tryz.pinned (.plain (OpenSpec.ofChange reportOrderSpec)) reportOrderCard

/-- THE TIED CARD OF 'wreckagelaw40.ReportNames'. -/
def reportNamesCard : Claim7 := { stood := { row := reportNamesRow, standIns := [], harness := (true, "7754283d7d2aa53d68f672087f55f7cc4332f55f723f6abf0f59cd83e0be1448"), looks := false }, kinds := [], alts := [], laidByText := true, laidKinds := [.data, .pinned], laidTests := true, laidLooks := .later }
def ReportNamesCardSaid : Prop := Claim7.holds Tryz.pinned (.plain (OpenSpec.ofChange reportNamesSpec)) reportNamesCard

/-- THE TIED CARD OF 'wreckagelaw40.ReportReads'. -/
def reportReadsCard : Claim7 := { stood := { row := reportReadsRow, standIns := [], harness := (true, "7754283d7d2aa53d68f672087f55f7cc4332f55f723f6abf0f59cd83e0be1448"), looks := false }, kinds := [], alts := [], laidByText := true, laidKinds := [.data, .pinned], laidTests := true, laidLooks := .later }
def ReportReadsCardSaid : Prop := Claim7.holds Tryz.pinned (.plain (OpenSpec.ofChange reportReadsSpec)) reportReadsCard

/-- THE TIED CARD OF 'wreckagelaw40.ReportOne'. -/
def reportOneCard : Claim7 := { stood := { row := reportOneRow, standIns := [], harness := (true, "7754283d7d2aa53d68f672087f55f7cc4332f55f723f6abf0f59cd83e0be1448"), looks := false }, kinds := [], alts := [], laidByText := true, laidKinds := [.data, .pinned], laidTests := true, laidLooks := .later }
def ReportOneCardSaid : Prop := Claim7.holds Tryz.pinned (.plain (OpenSpec.ofChange reportOneSpec)) reportOneCard

/-- THE SECOND FORM's CARD OF 'wreckagelaw40.ReportOrder'. -/
def reportOrderUptoCard : Claim7 := { stood := { row := reportOrderUptoRow, standIns := [], harness := (true, "7754283d7d2aa53d68f672087f55f7cc4332f55f723f6abf0f59cd83e0be1448"), looks := false }, kinds := [], alts := [], laidByText := true, laidKinds := [.data, .pinned], laidTests := true, laidLooks := .later }
def ReportOrderUptoCardSaid : Prop := Claim7.holds Tryz.pinned (.plain (OpenSpec.upto reportOrderSpec)) reportOrderUptoCard

/-- THE SECOND FORM's CARD OF 'wreckagelaw40.ReportNames'. -/
def reportNamesUptoCard : Claim7 := { stood := { row := reportNamesUptoRow, standIns := [], harness := (true, "7754283d7d2aa53d68f672087f55f7cc4332f55f723f6abf0f59cd83e0be1448"), looks := false }, kinds := [], alts := [], laidByText := true, laidKinds := [.data, .pinned], laidTests := true, laidLooks := .later }
def ReportNamesUptoCardSaid : Prop := Claim7.holds Tryz.pinned (.plain (OpenSpec.upto reportNamesSpec)) reportNamesUptoCard

/-- THE SECOND FORM's CARD OF 'wreckagelaw40.ReportReads'. -/
def reportReadsUptoCard : Claim7 := { stood := { row := reportReadsUptoRow, standIns := [], harness := (true, "7754283d7d2aa53d68f672087f55f7cc4332f55f723f6abf0f59cd83e0be1448"), looks := false }, kinds := [], alts := [], laidByText := true, laidKinds := [.data, .pinned], laidTests := true, laidLooks := .later }
def ReportReadsUptoCardSaid : Prop := Claim7.holds Tryz.pinned (.plain (OpenSpec.upto reportReadsSpec)) reportReadsUptoCard

/-- THE SECOND FORM's CARD OF 'wreckagelaw40.ReportOne'. -/
def reportOneUptoCard : Claim7 := { stood := { row := reportOneUptoRow, standIns := [], harness := (true, "7754283d7d2aa53d68f672087f55f7cc4332f55f723f6abf0f59cd83e0be1448"), looks := false }, kinds := [], alts := [], laidByText := true, laidKinds := [.data, .pinned], laidTests := true, laidLooks := .later }
def ReportOneUptoCardSaid : Prop := Claim7.holds Tryz.pinned (.plain (OpenSpec.upto reportOneSpec)) reportOneUptoCard
end Rows
end Go.Proofs.YtheacfnopahmjaaGreatDoor
