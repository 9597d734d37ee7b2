/-
  DERIVED. GIVEN WITH THE SEED: THE CARDS: each row of YtncokblinocgaaaGreatDoorRows.lean that lists a variable, with what it lists TIED to the program's text (the seventh form; the later family's looks); each row that meets fmt, with fmt's text TOLD by the authors' own Lean function (tested against real Go, not proved from fmt's source: count such statements apart). THE CARD IS WHAT COUNTS. Prove the row's statement (the work); the ties are given (YtncokblinocgaaaGreatDoorTie.lean); close each card by the builder's one call (the guide's Derived/Test/ToyasCard.lean, 'card_holds'). Laid BY PROGRAM, IN A SANDBOX (cutbox-door.mjs). By AI agents, Wed Nov 11 2026. No macro, syntax, notation, axiom, sorry.
-/
import Derived.Test.YtncokblinocgaaaGreatDoorRows
import GoSem.ClaimSeven
namespace Go.Proofs.YtncokblinocgaaaGreatDoor
namespace Rows

/-- THE TIED CARD OF 'quietwinglaw6.KernelLoads'. -/
def kernelLoadsCard : Claim7 := { stood := { row := kernelLoadsRow, standIns := [], harness := (true, "f3f9364ad26f7046e84523d1bf76a1b445391661a58c9c7d74979476a09a6a58"), looks := true }, kinds := [], alts := [], laidByText := true, laidKinds := [.data, .data, .data, .data, .handle, .sentinel, .sentinel, .pinned], laidTests := true, laidLooks := .later }
def KernelLoadsCardSaid : Prop := Claim7.holds Tryz.pinned (.plain (OpenSpec.ofChange kernelLoadsSpec)) kernelLoadsCard

/-- THE TIED CARD OF 'quietwinglaw6.KernelAgain'. -/
def kernelAgainCard : Claim7 := { stood := { row := kernelAgainRow, standIns := [], harness := (true, "f3f9364ad26f7046e84523d1bf76a1b445391661a58c9c7d74979476a09a6a58"), looks := true }, kinds := [], alts := [], laidByText := true, laidKinds := [.data, .data, .data, .data, .handle, .sentinel, .sentinel, .pinned], laidTests := true, laidLooks := .later }
def KernelAgainCardSaid : Prop := Claim7.holds Tryz.pinned (.plain (OpenSpec.ofChange kernelAgainSpec)) kernelAgainCard

/-- THE TIED CARD OF 'quietwinglaw6.TrailOpens'. -/
def trailOpensCard : Claim7 := { stood := { row := trailOpensRow, standIns := [], harness := (true, "f3f9364ad26f7046e84523d1bf76a1b445391661a58c9c7d74979476a09a6a58"), looks := true }, kinds := [], alts := [], laidByText := true, laidKinds := [.data, .data, .data, .data, .handle, .sentinel, .sentinel, .pinned], laidTests := true, laidLooks := .later }
def TrailOpensCardSaid : Prop := Claim7.holds Tryz.pinned (.plain (OpenSpec.ofChange trailOpensSpec)) trailOpensCard

/-- THE TIED CARD OF 'quietwinglaw6.TrailTurned'. -/
def trailTurnedCard : Claim7 := { stood := { row := trailTurnedRow, standIns := [], harness := (true, "f3f9364ad26f7046e84523d1bf76a1b445391661a58c9c7d74979476a09a6a58"), looks := true }, kinds := [], alts := [], laidByText := true, laidKinds := [.data, .data, .data, .data, .handle, .sentinel, .sentinel, .pinned], laidTests := true, laidLooks := .later }
def TrailTurnedCardSaid : Prop := Claim7.holds Tryz.pinned (.plain (OpenSpec.ofChange trailTurnedSpec)) trailTurnedCard

/-- THE TIED CARD OF 'quietwinglaw6.TrailAgain'. -/
def trailAgainCard : Claim7 := { stood := { row := trailAgainRow, standIns := [], harness := (true, "f3f9364ad26f7046e84523d1bf76a1b445391661a58c9c7d74979476a09a6a58"), looks := true }, kinds := [], alts := [], laidByText := true, laidKinds := [.data, .data, .data, .data, .handle, .sentinel, .sentinel, .pinned], laidTests := true, laidLooks := .later }
def TrailAgainCardSaid : Prop := Claim7.holds Tryz.pinned (.plain (OpenSpec.ofChange trailAgainSpec)) trailAgainCard

/-- THE TIED CARD OF 'quietwinglaw6.TrailTorn'. -/
def trailTornCard : Claim7 := { stood := { row := trailTornRow, standIns := [], harness := (true, "f3f9364ad26f7046e84523d1bf76a1b445391661a58c9c7d74979476a09a6a58"), looks := true }, kinds := [], alts := [], laidByText := true, laidKinds := [.data, .data, .data, .data, .handle, .sentinel, .sentinel, .pinned], laidTests := true, laidLooks := .later }
def TrailTornCardSaid : Prop := Claim7.holds Tryz.pinned (.plain (OpenSpec.ofChange trailTornSpec)) trailTornCard

/-- THE TIED CARD OF 'quietwingtop.TopTrail'. -/
def topTrailCard : Claim7 := { stood := { row := topTrailRow, standIns := [], harness := (true, "f3f9364ad26f7046e84523d1bf76a1b445391661a58c9c7d74979476a09a6a58"), looks := true }, kinds := [], alts := [], laidByText := true, laidKinds := [.data, .data, .data, .data, .handle, .sentinel, .sentinel, .pinned], laidTests := true, laidLooks := .later }
def TopTrailCardSaid : Prop := Claim7.holds Tryz.pinned (.plain (OpenSpec.ofChange topTrailSpec)) topTrailCard

/-- THE TIED CARD OF 'quietwinglaw6.DeskAnswers'. -/
def deskAnswersCard : Claim7 := { stood := { row := deskAnswersRow, standIns := [], harness := (true, "f3f9364ad26f7046e84523d1bf76a1b445391661a58c9c7d74979476a09a6a58"), looks := true }, kinds := [], alts := [], laidByText := true, laidKinds := [.data, .data, .data, .data, .handle, .sentinel, .sentinel, .pinned], laidTests := true, laidLooks := .later }
def DeskAnswersCardSaid : Prop := Claim7.holds Tryz.pinned (.plain (OpenSpec.ofChange deskAnswersSpec)) deskAnswersCard

/-- THE TIED CARD OF 'quietwinglaw6.DeskBegins'. -/
def deskBeginsCard : Claim7 := { stood := { row := deskBeginsRow, standIns := [], harness := (true, "f3f9364ad26f7046e84523d1bf76a1b445391661a58c9c7d74979476a09a6a58"), looks := true }, kinds := [], alts := [], laidByText := true, laidKinds := [.data, .data, .data, .data, .handle, .sentinel, .sentinel, .pinned], laidTests := true, laidLooks := .later }
def DeskBeginsCardSaid : Prop := Claim7.holds Tryz.pinned (.plain (OpenSpec.ofChange deskBeginsSpec)) deskBeginsCard

/-- THE TIED CARD OF 'quietwinglaw6.DeskLines'. -/
def deskLinesCard : Claim7 := { stood := { row := deskLinesRow, standIns := [], harness := (true, "f3f9364ad26f7046e84523d1bf76a1b445391661a58c9c7d74979476a09a6a58"), looks := true }, kinds := [], alts := [], laidByText := true, laidKinds := [.data, .data, .data, .data, .handle, .sentinel, .sentinel, .pinned], laidTests := true, laidLooks := .later }
def DeskLinesCardSaid : Prop := Claim7.holds Tryz.pinned (.plain (OpenSpec.ofChange deskLinesSpec)) deskLinesCard

/-- THE TIED CARD OF 'quietwingtop.TopDesk'. -/
def topDeskCard : Claim7 := { stood := { row := topDeskRow, standIns := [], harness := (true, "f3f9364ad26f7046e84523d1bf76a1b445391661a58c9c7d74979476a09a6a58"), looks := true }, kinds := [], alts := [], laidByText := true, laidKinds := [.data, .data, .data, .data, .handle, .sentinel, .sentinel, .pinned], laidTests := true, laidLooks := .later }
def TopDeskCardSaid : Prop := Claim7.holds Tryz.pinned (.plain (OpenSpec.ofChange topDeskSpec)) topDeskCard

/-- THE SECOND FORM's CARD OF 'quietwinglaw6.KernelLoads'. -/
def kernelLoadsUptoCard : Claim7 := { stood := { row := kernelLoadsUptoRow, standIns := [], harness := (true, "f3f9364ad26f7046e84523d1bf76a1b445391661a58c9c7d74979476a09a6a58"), looks := true }, kinds := [], alts := [], laidByText := true, laidKinds := [.data, .data, .data, .data, .handle, .sentinel, .sentinel, .pinned], laidTests := true, laidLooks := .later }
def KernelLoadsUptoCardSaid : Prop := Claim7.holds Tryz.pinned (.plain (OpenSpec.upto kernelLoadsSpec)) kernelLoadsUptoCard

/-- THE SECOND FORM's CARD OF 'quietwinglaw6.KernelAgain'. -/
def kernelAgainUptoCard : Claim7 := { stood := { row := kernelAgainUptoRow, standIns := [], harness := (true, "f3f9364ad26f7046e84523d1bf76a1b445391661a58c9c7d74979476a09a6a58"), looks := true }, kinds := [], alts := [], laidByText := true, laidKinds := [.data, .data, .data, .data, .handle, .sentinel, .sentinel, .pinned], laidTests := true, laidLooks := .later }
def KernelAgainUptoCardSaid : Prop := Claim7.holds Tryz.pinned (.plain (OpenSpec.upto kernelAgainSpec)) kernelAgainUptoCard

/-- THE SECOND FORM's CARD OF 'quietwinglaw6.TrailOpens'. -/
def trailOpensUptoCard : Claim7 := { stood := { row := trailOpensUptoRow, standIns := [], harness := (true, "f3f9364ad26f7046e84523d1bf76a1b445391661a58c9c7d74979476a09a6a58"), looks := true }, kinds := [], alts := [], laidByText := true, laidKinds := [.data, .data, .data, .data, .handle, .sentinel, .sentinel, .pinned], laidTests := true, laidLooks := .later }
def TrailOpensUptoCardSaid : Prop := Claim7.holds Tryz.pinned (.plain (OpenSpec.upto trailOpensSpec)) trailOpensUptoCard

/-- THE SECOND FORM's CARD OF 'quietwinglaw6.TrailTurned'. -/
def trailTurnedUptoCard : Claim7 := { stood := { row := trailTurnedUptoRow, standIns := [], harness := (true, "f3f9364ad26f7046e84523d1bf76a1b445391661a58c9c7d74979476a09a6a58"), looks := true }, kinds := [], alts := [], laidByText := true, laidKinds := [.data, .data, .data, .data, .handle, .sentinel, .sentinel, .pinned], laidTests := true, laidLooks := .later }
def TrailTurnedUptoCardSaid : Prop := Claim7.holds Tryz.pinned (.plain (OpenSpec.upto trailTurnedSpec)) trailTurnedUptoCard

/-- THE SECOND FORM's CARD OF 'quietwinglaw6.TrailAgain'. -/
def trailAgainUptoCard : Claim7 := { stood := { row := trailAgainUptoRow, standIns := [], harness := (true, "f3f9364ad26f7046e84523d1bf76a1b445391661a58c9c7d74979476a09a6a58"), looks := true }, kinds := [], alts := [], laidByText := true, laidKinds := [.data, .data, .data, .data, .handle, .sentinel, .sentinel, .pinned], laidTests := true, laidLooks := .later }
def TrailAgainUptoCardSaid : Prop := Claim7.holds Tryz.pinned (.plain (OpenSpec.upto trailAgainSpec)) trailAgainUptoCard

/-- THE SECOND FORM's CARD OF 'quietwinglaw6.TrailTorn'. -/
def trailTornUptoCard : Claim7 := { stood := { row := trailTornUptoRow, standIns := [], harness := (true, "f3f9364ad26f7046e84523d1bf76a1b445391661a58c9c7d74979476a09a6a58"), looks := true }, kinds := [], alts := [], laidByText := true, laidKinds := [.data, .data, .data, .data, .handle, .sentinel, .sentinel, .pinned], laidTests := true, laidLooks := .later }
def TrailTornUptoCardSaid : Prop := Claim7.holds Tryz.pinned (.plain (OpenSpec.upto trailTornSpec)) trailTornUptoCard

/-- THE SECOND FORM's CARD OF 'quietwingtop.TopTrail'. -/
def topTrailUptoCard : Claim7 := { stood := { row := topTrailUptoRow, standIns := [], harness := (true, "f3f9364ad26f7046e84523d1bf76a1b445391661a58c9c7d74979476a09a6a58"), looks := true }, kinds := [], alts := [], laidByText := true, laidKinds := [.data, .data, .data, .data, .handle, .sentinel, .sentinel, .pinned], laidTests := true, laidLooks := .later }
def TopTrailUptoCardSaid : Prop := Claim7.holds Tryz.pinned (.plain (OpenSpec.upto topTrailSpec)) topTrailUptoCard

/-- THE SECOND FORM's CARD OF 'quietwinglaw6.DeskAnswers'. -/
def deskAnswersUptoCard : Claim7 := { stood := { row := deskAnswersUptoRow, standIns := [], harness := (true, "f3f9364ad26f7046e84523d1bf76a1b445391661a58c9c7d74979476a09a6a58"), looks := true }, kinds := [], alts := [], laidByText := true, laidKinds := [.data, .data, .data, .data, .handle, .sentinel, .sentinel, .pinned], laidTests := true, laidLooks := .later }
def DeskAnswersUptoCardSaid : Prop := Claim7.holds Tryz.pinned (.plain (OpenSpec.upto deskAnswersSpec)) deskAnswersUptoCard

/-- THE SECOND FORM's CARD OF 'quietwinglaw6.DeskBegins'. -/
def deskBeginsUptoCard : Claim7 := { stood := { row := deskBeginsUptoRow, standIns := [], harness := (true, "f3f9364ad26f7046e84523d1bf76a1b445391661a58c9c7d74979476a09a6a58"), looks := true }, kinds := [], alts := [], laidByText := true, laidKinds := [.data, .data, .data, .data, .handle, .sentinel, .sentinel, .pinned], laidTests := true, laidLooks := .later }
def DeskBeginsUptoCardSaid : Prop := Claim7.holds Tryz.pinned (.plain (OpenSpec.upto deskBeginsSpec)) deskBeginsUptoCard

/-- THE SECOND FORM's CARD OF 'quietwinglaw6.DeskLines'. -/
def deskLinesUptoCard : Claim7 := { stood := { row := deskLinesUptoRow, standIns := [], harness := (true, "f3f9364ad26f7046e84523d1bf76a1b445391661a58c9c7d74979476a09a6a58"), looks := true }, kinds := [], alts := [], laidByText := true, laidKinds := [.data, .data, .data, .data, .handle, .sentinel, .sentinel, .pinned], laidTests := true, laidLooks := .later }
def DeskLinesUptoCardSaid : Prop := Claim7.holds Tryz.pinned (.plain (OpenSpec.upto deskLinesSpec)) deskLinesUptoCard

/-- THE SECOND FORM's CARD OF 'quietwingtop.TopDesk'. -/
def topDeskUptoCard : Claim7 := { stood := { row := topDeskUptoRow, standIns := [], harness := (true, "f3f9364ad26f7046e84523d1bf76a1b445391661a58c9c7d74979476a09a6a58"), looks := true }, kinds := [], alts := [], laidByText := true, laidKinds := [.data, .data, .data, .data, .handle, .sentinel, .sentinel, .pinned], laidTests := true, laidLooks := .later }
def TopDeskUptoCardSaid : Prop := Claim7.holds Tryz.pinned (.plain (OpenSpec.upto topDeskSpec)) topDeskUptoCard
end Rows
end Go.Proofs.YtncokblinocgaaaGreatDoor
