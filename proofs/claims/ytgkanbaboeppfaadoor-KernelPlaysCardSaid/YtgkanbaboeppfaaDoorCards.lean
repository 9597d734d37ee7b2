/-
  DERIVED. GIVEN WITH THE SEED: THE CARDS: each row of YtgkanbaboeppfaaDoorRows.lean that lists a variable, with what it lists TIED to the program's text (the seventh form; the later family's looks); each row that meets fmt, with fmt's text TOLD by the authors' own Lean function (tested against real Go, not proved from fmt's source: count such statements apart). THE CARD IS WHAT COUNTS. Prove the row's statement (the work); the ties are given (YtgkanbaboeppfaaDoorTie.lean); close each card by the builder's one call (the guide's Derived/Test/ToyasCard.lean, 'card_holds'). Laid BY PROGRAM, IN A SANDBOX (cutbox-door.mjs). By AI agents, Wed Nov 11 2026. No macro, syntax, notation, axiom, sorry.
-/
import Derived.Test.YtgkanbaboeppfaaDoorRows
import GoSem.ClaimSeven
namespace Go.Proofs.YtgkanbaboeppfaaDoor
namespace Rows

/-- THE TIED CARD OF 'quietwinglaw6.KernelTurns'. -/
def kernelTurnsCard : Claim7 := { stood := { row := kernelTurnsRow, standIns := [], harness := (true, "43530ed945c79230d095a719ca07d228bfb53d356f73e61ca5cd5868971423fe"), looks := true }, kinds := [], alts := [], laidByText := true, laidKinds := [.data, .data, .data], laidTests := true, laidLooks := .later }
def KernelTurnsCardSaid : Prop := Claim7.holds Tryd.pinned (.plain (OpenSpec.ofChange kernelTurnsSpec)) kernelTurnsCard

/-- THE TIED CARD OF 'quietwinglaw6.KernelPlays'. -/
def kernelPlaysCard : Claim7 := { stood := { row := kernelPlaysRow, standIns := [], harness := (true, "43530ed945c79230d095a719ca07d228bfb53d356f73e61ca5cd5868971423fe"), looks := true }, kinds := [], alts := [], laidByText := true, laidKinds := [.data, .data, .data, .handle], laidTests := true, laidLooks := .later }
def KernelPlaysCardSaid : Prop := Claim7.holds Tryd.pinned (.plain (OpenSpec.ofChange kernelPlaysSpec)) kernelPlaysCard

/-- THE SECOND FORM's CARD OF 'quietwinglaw6.KernelTurns'. -/
def kernelTurnsUptoCard : Claim7 := { stood := { row := kernelTurnsUptoRow, standIns := [], harness := (true, "43530ed945c79230d095a719ca07d228bfb53d356f73e61ca5cd5868971423fe"), looks := true }, kinds := [], alts := [], laidByText := true, laidKinds := [.data, .data, .data], laidTests := true, laidLooks := .later }
def KernelTurnsUptoCardSaid : Prop := Claim7.holds Tryd.pinned (.plain (OpenSpec.upto kernelTurnsSpec)) kernelTurnsUptoCard

/-- THE SECOND FORM's CARD OF 'quietwinglaw6.KernelPlays'. -/
def kernelPlaysUptoCard : Claim7 := { stood := { row := kernelPlaysUptoRow, standIns := [], harness := (true, "43530ed945c79230d095a719ca07d228bfb53d356f73e61ca5cd5868971423fe"), looks := true }, kinds := [], alts := [], laidByText := true, laidKinds := [.data, .data, .data, .handle], laidTests := true, laidLooks := .later }
def KernelPlaysUptoCardSaid : Prop := Claim7.holds Tryd.pinned (.plain (OpenSpec.upto kernelPlaysSpec)) kernelPlaysUptoCard
end Rows
end Go.Proofs.YtgkanbaboeppfaaDoor
