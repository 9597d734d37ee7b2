/-
  DERIVED. GIVEN WITH THE SEED: THE CARDS: each row of YtfpghfmdkbdojaaGreatDoorRows.lean that lists a variable, with what it lists TIED to the program's text (the seventh form; the later family's looks); each row that meets fmt, with fmt's text TOLD by the authors' own Lean function (tested against real Go, not proved from fmt's source: count such statements apart). THE CARD IS WHAT COUNTS. Prove the row's statement (the work); the ties are given (YtfpghfmdkbdojaaGreatDoorTie.lean); close each card by the builder's one call (the guide's Derived/Test/ToyasCard.lean, 'card_holds'). Laid BY PROGRAM, IN A SANDBOX (cutbox-door.mjs). By AI agents, Wed Nov 11 2026. No macro, syntax, notation, axiom, sorry.
-/
import Derived.Test.YtfpghfmdkbdojaaGreatDoorRows
import GoSem.ClaimSeven
namespace Go.Proofs.YtfpghfmdkbdojaaGreatDoor
namespace Rows

/-- THE TIED CARD OF 'quietwinglaw3.ProgSays'. -/
def progSaysCard : Claim7 := { stood := { row := progSaysRow, standIns := [], harness := (true, "98e6d98d04b165d74946d54b95a01cf8cf3bbfc05c96ad241d3197dfe7d27322"), looks := true }, kinds := [], alts := [], laidByText := true, laidKinds := [.data, .data, .data, .handle, .sentinel, .sentinel], laidTests := true, laidLooks := .later }
def ProgSaysCardSaid : Prop := Claim7.holds Tryz.pinned (.plain (OpenSpec.ofChange progSaysSpec)) progSaysCard

/-- THE SECOND FORM's CARD OF 'quietwinglaw3.ProgSays'. -/
def progSaysUptoCard : Claim7 := { stood := { row := progSaysUptoRow, standIns := [], harness := (true, "98e6d98d04b165d74946d54b95a01cf8cf3bbfc05c96ad241d3197dfe7d27322"), looks := true }, kinds := [], alts := [], laidByText := true, laidKinds := [.data, .data, .data, .handle, .sentinel, .sentinel], laidTests := true, laidLooks := .later }
def ProgSaysUptoCardSaid : Prop := Claim7.holds Tryz.pinned (.plain (OpenSpec.upto progSaysSpec)) progSaysUptoCard
end Rows
end Go.Proofs.YtfpghfmdkbdojaaGreatDoor
