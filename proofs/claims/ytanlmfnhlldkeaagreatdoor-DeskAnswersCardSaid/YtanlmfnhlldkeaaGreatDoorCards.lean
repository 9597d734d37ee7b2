/-
  DERIVED. GIVEN WITH THE SEED: THE CARDS: each row of YtanlmfnhlldkeaaGreatDoorRows.lean that lists a variable, with what it lists TIED to the program's text (the seventh form; the later family's looks); each row that meets fmt, with fmt's text TOLD by the authors' own Lean function (tested against real Go, not proved from fmt's source: count such statements apart). THE CARD IS WHAT COUNTS. Prove the row's statement (the work); the ties are given (YtanlmfnhlldkeaaGreatDoorTie.lean); close each card by the builder's one call (the guide's Derived/Test/ToyasCard.lean, 'card_holds'). Laid BY PROGRAM, IN A SANDBOX (cutbox-door.mjs). By AI agents, Wed Nov 11 2026. No macro, syntax, notation, axiom, sorry.
-/
import Derived.Test.YtanlmfnhlldkeaaGreatDoorRows
import GoSem.ClaimSeven
namespace Go.Proofs.YtanlmfnhlldkeaaGreatDoor
namespace Rows

/-- THE TIED CARD OF 'quietwinglaw6.KernelLoads'. -/
def kernelLoadsCard : Claim7 := { stood := { row := kernelLoadsRow, standIns := [], harness := (true, "9ecc1be3ad67df57e0a5c646dbbdff757bbf5d630610e940c8817daf4f13885c"), looks := true }, kinds := [], alts := [], laidByText := true, laidKinds := [.data, .data, .data, .data, .handle, .sentinel, .sentinel, .pinned], laidTests := true, laidLooks := .later }
def KernelLoadsCardSaid : Prop := Claim7.holds Tryz.pinned (.plain (OpenSpec.ofChange kernelLoadsSpec)) kernelLoadsCard

/-- THE TIED CARD OF 'quietwinglaw6.KernelAgain'. -/
def kernelAgainCard : Claim7 := { stood := { row := kernelAgainRow, standIns := [], harness := (true, "9ecc1be3ad67df57e0a5c646dbbdff757bbf5d630610e940c8817daf4f13885c"), looks := true }, kinds := [], alts := [], laidByText := true, laidKinds := [.data, .data, .data, .data, .handle, .sentinel, .sentinel, .pinned], laidTests := true, laidLooks := .later }
def KernelAgainCardSaid : Prop := Claim7.holds Tryz.pinned (.plain (OpenSpec.ofChange kernelAgainSpec)) kernelAgainCard

/-- THE TIED CARD OF 'quietwinglaw6.DeskAnswers'. -/
def deskAnswersCard : Claim7 := { stood := { row := deskAnswersRow, standIns := [], harness := (true, "9ecc1be3ad67df57e0a5c646dbbdff757bbf5d630610e940c8817daf4f13885c"), looks := true }, kinds := [], alts := [], laidByText := true, laidKinds := [.data, .data, .data, .data, .handle, .sentinel, .sentinel, .pinned], laidTests := true, laidLooks := .later }
def DeskAnswersCardSaid : Prop := Claim7.holds Tryz.pinned (.plain (OpenSpec.ofChange deskAnswersSpec)) deskAnswersCard

/-- THE TIED CARD OF 'quietwinglaw6.DeskBegins'. -/
def deskBeginsCard : Claim7 := { stood := { row := deskBeginsRow, standIns := [], harness := (true, "9ecc1be3ad67df57e0a5c646dbbdff757bbf5d630610e940c8817daf4f13885c"), looks := true }, kinds := [], alts := [], laidByText := true, laidKinds := [.data, .data, .data, .data, .handle, .sentinel, .sentinel, .pinned], laidTests := true, laidLooks := .later }
def DeskBeginsCardSaid : Prop := Claim7.holds Tryz.pinned (.plain (OpenSpec.ofChange deskBeginsSpec)) deskBeginsCard

/-- THE TIED CARD OF 'quietwinglaw6.DeskLines'. -/
def deskLinesCard : Claim7 := { stood := { row := deskLinesRow, standIns := [], harness := (true, "9ecc1be3ad67df57e0a5c646dbbdff757bbf5d630610e940c8817daf4f13885c"), looks := true }, kinds := [], alts := [], laidByText := true, laidKinds := [.data, .data, .data, .data, .handle, .sentinel, .sentinel, .pinned], laidTests := true, laidLooks := .later }
def DeskLinesCardSaid : Prop := Claim7.holds Tryz.pinned (.plain (OpenSpec.ofChange deskLinesSpec)) deskLinesCard

/-- THE TIED CARD OF 'quietwingtop.TopDesk'. -/
def topDeskCard : Claim7 := { stood := { row := topDeskRow, standIns := [], harness := (true, "9ecc1be3ad67df57e0a5c646dbbdff757bbf5d630610e940c8817daf4f13885c"), looks := true }, kinds := [], alts := [], laidByText := true, laidKinds := [.data, .data, .data, .data, .handle, .sentinel, .sentinel, .pinned], laidTests := true, laidLooks := .later }
def TopDeskCardSaid : Prop := Claim7.holds Tryz.pinned (.plain (OpenSpec.ofChange topDeskSpec)) topDeskCard

/-- THE SECOND FORM's CARD OF 'quietwinglaw6.KernelLoads'. -/
def kernelLoadsUptoCard : Claim7 := { stood := { row := kernelLoadsUptoRow, standIns := [], harness := (true, "9ecc1be3ad67df57e0a5c646dbbdff757bbf5d630610e940c8817daf4f13885c"), looks := true }, kinds := [], alts := [], laidByText := true, laidKinds := [.data, .data, .data, .data, .handle, .sentinel, .sentinel, .pinned], laidTests := true, laidLooks := .later }
def KernelLoadsUptoCardSaid : Prop := Claim7.holds Tryz.pinned (.plain (OpenSpec.upto kernelLoadsSpec)) kernelLoadsUptoCard

/-- THE SECOND FORM's CARD OF 'quietwinglaw6.KernelAgain'. -/
def kernelAgainUptoCard : Claim7 := { stood := { row := kernelAgainUptoRow, standIns := [], harness := (true, "9ecc1be3ad67df57e0a5c646dbbdff757bbf5d630610e940c8817daf4f13885c"), looks := true }, kinds := [], alts := [], laidByText := true, laidKinds := [.data, .data, .data, .data, .handle, .sentinel, .sentinel, .pinned], laidTests := true, laidLooks := .later }
def KernelAgainUptoCardSaid : Prop := Claim7.holds Tryz.pinned (.plain (OpenSpec.upto kernelAgainSpec)) kernelAgainUptoCard

/-- THE SECOND FORM's CARD OF 'quietwinglaw6.DeskAnswers'. -/
def deskAnswersUptoCard : Claim7 := { stood := { row := deskAnswersUptoRow, standIns := [], harness := (true, "9ecc1be3ad67df57e0a5c646dbbdff757bbf5d630610e940c8817daf4f13885c"), looks := true }, kinds := [], alts := [], laidByText := true, laidKinds := [.data, .data, .data, .data, .handle, .sentinel, .sentinel, .pinned], laidTests := true, laidLooks := .later }
def DeskAnswersUptoCardSaid : Prop := Claim7.holds Tryz.pinned (.plain (OpenSpec.upto deskAnswersSpec)) deskAnswersUptoCard

/-- THE SECOND FORM's CARD OF 'quietwinglaw6.DeskBegins'. -/
def deskBeginsUptoCard : Claim7 := { stood := { row := deskBeginsUptoRow, standIns := [], harness := (true, "9ecc1be3ad67df57e0a5c646dbbdff757bbf5d630610e940c8817daf4f13885c"), looks := true }, kinds := [], alts := [], laidByText := true, laidKinds := [.data, .data, .data, .data, .handle, .sentinel, .sentinel, .pinned], laidTests := true, laidLooks := .later }
def DeskBeginsUptoCardSaid : Prop := Claim7.holds Tryz.pinned (.plain (OpenSpec.upto deskBeginsSpec)) deskBeginsUptoCard

/-- THE SECOND FORM's CARD OF 'quietwinglaw6.DeskLines'. -/
def deskLinesUptoCard : Claim7 := { stood := { row := deskLinesUptoRow, standIns := [], harness := (true, "9ecc1be3ad67df57e0a5c646dbbdff757bbf5d630610e940c8817daf4f13885c"), looks := true }, kinds := [], alts := [], laidByText := true, laidKinds := [.data, .data, .data, .data, .handle, .sentinel, .sentinel, .pinned], laidTests := true, laidLooks := .later }
def DeskLinesUptoCardSaid : Prop := Claim7.holds Tryz.pinned (.plain (OpenSpec.upto deskLinesSpec)) deskLinesUptoCard

/-- THE SECOND FORM's CARD OF 'quietwingtop.TopDesk'. -/
def topDeskUptoCard : Claim7 := { stood := { row := topDeskUptoRow, standIns := [], harness := (true, "9ecc1be3ad67df57e0a5c646dbbdff757bbf5d630610e940c8817daf4f13885c"), looks := true }, kinds := [], alts := [], laidByText := true, laidKinds := [.data, .data, .data, .data, .handle, .sentinel, .sentinel, .pinned], laidTests := true, laidLooks := .later }
def TopDeskUptoCardSaid : Prop := Claim7.holds Tryz.pinned (.plain (OpenSpec.upto topDeskSpec)) topDeskUptoCard
end Rows
end Go.Proofs.YtanlmfnhlldkeaaGreatDoor
