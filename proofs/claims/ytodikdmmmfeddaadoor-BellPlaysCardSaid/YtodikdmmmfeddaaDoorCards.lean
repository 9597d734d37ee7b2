/-
  DERIVED. GIVEN WITH THE SEED: THE CARDS: each row of YtodikdmmmfeddaaDoorRows.lean that lists a variable, with what it lists TIED to the program's text (the seventh form; the later family's looks); each row that meets fmt, with fmt's text TOLD by the authors' own Lean function (tested against real Go, not proved from fmt's source: count such statements apart). THE CARD IS WHAT COUNTS. Prove the row's statement (the work); the ties are given (YtodikdmmmfeddaaDoorTie.lean); close each card by the builder's one call (the guide's Derived/Test/ToyasCard.lean, 'card_holds'). Laid BY PROGRAM, IN A SANDBOX (cutbox-door.mjs). By AI agents, Wed Nov 11 2026. No macro, syntax, notation, axiom, sorry.
-/
import Derived.Test.YtodikdmmmfeddaaDoorRows
import GoSem.ClaimSeven
namespace Go.Proofs.YtodikdmmmfeddaaDoor
namespace Rows

/-- THE TIED CARD OF 'quietwinglaw2.BibaSinks'. -/
def bibaSinksCard : Claim7 := { stood := { row := bibaSinksRow, standIns := [], harness := (true, "aefd1375fb93936368e2892db6c91986f39c3c0d16a99a561b7c64922973c4b5"), looks := true }, kinds := [], alts := [], laidByText := true, laidKinds := [.handle], laidTests := true, laidLooks := .later }
def BibaSinksCardSaid : Prop := Claim7.holds Tryd.pinned (.plain (OpenSpec.ofChange bibaSinksSpec)) bibaSinksCard

/-- THE TIED CARD OF 'quietwinglaw2.BibaPure'. -/
def bibaPureCard : Claim7 := { stood := { row := bibaPureRow, standIns := [], harness := (true, "aefd1375fb93936368e2892db6c91986f39c3c0d16a99a561b7c64922973c4b5"), looks := true }, kinds := [], alts := [], laidByText := true, laidKinds := [.handle], laidTests := true, laidLooks := .later }
def BibaPureCardSaid : Prop := Claim7.holds Tryd.pinned (.plain (OpenSpec.ofChange bibaPureSpec)) bibaPureCard

/-- THE TIED CARD OF 'quietwinglaw2.BibaPlays'. -/
def bibaPlaysCard : Claim7 := { stood := { row := bibaPlaysRow, standIns := [], harness := (true, "aefd1375fb93936368e2892db6c91986f39c3c0d16a99a561b7c64922973c4b5"), looks := true }, kinds := [], alts := [], laidByText := true, laidKinds := [.handle], laidTests := true, laidLooks := .later }
def BibaPlaysCardSaid : Prop := Claim7.holds Tryd.pinned (.plain (OpenSpec.ofChange bibaPlaysSpec)) bibaPlaysCard

/-- THE TIED CARD OF 'quietwinglaw2.WallRivals'. -/
def wallRivalsCard : Claim7 := { stood := { row := wallRivalsRow, standIns := [], harness := (true, "aefd1375fb93936368e2892db6c91986f39c3c0d16a99a561b7c64922973c4b5"), looks := true }, kinds := [], alts := [], laidByText := true, laidKinds := [.data, .data, .handle], laidTests := true, laidLooks := .later }
def WallRivalsCardSaid : Prop := Claim7.holds Tryd.pinned (.plain (OpenSpec.ofChange wallRivalsSpec)) wallRivalsCard

/-- THE TIED CARD OF 'quietwinglaw2.WallMany'. -/
def wallManyCard : Claim7 := { stood := { row := wallManyRow, standIns := [], harness := (true, "aefd1375fb93936368e2892db6c91986f39c3c0d16a99a561b7c64922973c4b5"), looks := true }, kinds := [], alts := [], laidByText := true, laidKinds := [.data, .data, .handle], laidTests := true, laidLooks := .later }
def WallManyCardSaid : Prop := Claim7.holds Tryd.pinned (.plain (OpenSpec.ofChange wallManySpec)) wallManyCard

/-- THE TIED CARD OF 'quietwinglaw2.WallHolds'. -/
def wallHoldsCard : Claim7 := { stood := { row := wallHoldsRow, standIns := [], harness := (true, "aefd1375fb93936368e2892db6c91986f39c3c0d16a99a561b7c64922973c4b5"), looks := true }, kinds := [], alts := [], laidByText := true, laidKinds := [.data, .data, .handle], laidTests := true, laidLooks := .later }
def WallHoldsCardSaid : Prop := Claim7.holds Tryd.pinned (.plain (OpenSpec.ofChange wallHoldsSpec)) wallHoldsCard

/-- THE TIED CARD OF 'quietwinglaw2.WallPlays'. -/
def wallPlaysCard : Claim7 := { stood := { row := wallPlaysRow, standIns := [], harness := (true, "aefd1375fb93936368e2892db6c91986f39c3c0d16a99a561b7c64922973c4b5"), looks := true }, kinds := [], alts := [], laidByText := true, laidKinds := [.data, .data, .handle], laidTests := true, laidLooks := .later }
def WallPlaysCardSaid : Prop := Claim7.holds Tryd.pinned (.plain (OpenSpec.ofChange wallPlaysSpec)) wallPlaysCard

/-- THE TIED CARD OF 'quietwinglaw2.BellFlows'. -/
def bellFlowsCard : Claim7 := { stood := { row := bellFlowsRow, standIns := [], harness := (true, "aefd1375fb93936368e2892db6c91986f39c3c0d16a99a561b7c64922973c4b5"), looks := true }, kinds := [], alts := [], laidByText := true, laidKinds := [.data, .data, .handle], laidTests := true, laidLooks := .later }
def BellFlowsCardSaid : Prop := Claim7.holds Tryd.pinned (.plain (OpenSpec.ofChange bellFlowsSpec)) bellFlowsCard

/-- THE TIED CARD OF 'quietwinglaw2.BellSecure'. -/
def bellSecureCard : Claim7 := { stood := { row := bellSecureRow, standIns := [], harness := (true, "aefd1375fb93936368e2892db6c91986f39c3c0d16a99a561b7c64922973c4b5"), looks := true }, kinds := [], alts := [], laidByText := true, laidKinds := [.data, .data, .handle], laidTests := true, laidLooks := .later }
def BellSecureCardSaid : Prop := Claim7.holds Tryd.pinned (.plain (OpenSpec.ofChange bellSecureSpec)) bellSecureCard

/-- THE TIED CARD OF 'quietwinglaw2.BellDrop'. -/
def bellDropCard : Claim7 := { stood := { row := bellDropRow, standIns := [], harness := (true, "aefd1375fb93936368e2892db6c91986f39c3c0d16a99a561b7c64922973c4b5"), looks := true }, kinds := [], alts := [], laidByText := true, laidKinds := [.data, .data, .handle], laidTests := true, laidLooks := .later }
def BellDropCardSaid : Prop := Claim7.holds Tryd.pinned (.plain (OpenSpec.ofChange bellDropSpec)) bellDropCard

/-- THE TIED CARD OF 'quietwinglaw2.BellPlays'. -/
def bellPlaysCard : Claim7 := { stood := { row := bellPlaysRow, standIns := [], harness := (true, "aefd1375fb93936368e2892db6c91986f39c3c0d16a99a561b7c64922973c4b5"), looks := true }, kinds := [], alts := [], laidByText := true, laidKinds := [.data, .data, .handle], laidTests := true, laidLooks := .later }
def BellPlaysCardSaid : Prop := Claim7.holds Tryd.pinned (.plain (OpenSpec.ofChange bellPlaysSpec)) bellPlaysCard

/-- THE SECOND FORM's CARD OF 'quietwinglaw2.BibaSinks'. -/
def bibaSinksUptoCard : Claim7 := { stood := { row := bibaSinksUptoRow, standIns := [], harness := (true, "aefd1375fb93936368e2892db6c91986f39c3c0d16a99a561b7c64922973c4b5"), looks := true }, kinds := [], alts := [], laidByText := true, laidKinds := [.handle], laidTests := true, laidLooks := .later }
def BibaSinksUptoCardSaid : Prop := Claim7.holds Tryd.pinned (.plain (OpenSpec.upto bibaSinksSpec)) bibaSinksUptoCard

/-- THE SECOND FORM's CARD OF 'quietwinglaw2.BibaPure'. -/
def bibaPureUptoCard : Claim7 := { stood := { row := bibaPureUptoRow, standIns := [], harness := (true, "aefd1375fb93936368e2892db6c91986f39c3c0d16a99a561b7c64922973c4b5"), looks := true }, kinds := [], alts := [], laidByText := true, laidKinds := [.handle], laidTests := true, laidLooks := .later }
def BibaPureUptoCardSaid : Prop := Claim7.holds Tryd.pinned (.plain (OpenSpec.upto bibaPureSpec)) bibaPureUptoCard

/-- THE SECOND FORM's CARD OF 'quietwinglaw2.BibaPlays'. -/
def bibaPlaysUptoCard : Claim7 := { stood := { row := bibaPlaysUptoRow, standIns := [], harness := (true, "aefd1375fb93936368e2892db6c91986f39c3c0d16a99a561b7c64922973c4b5"), looks := true }, kinds := [], alts := [], laidByText := true, laidKinds := [.handle], laidTests := true, laidLooks := .later }
def BibaPlaysUptoCardSaid : Prop := Claim7.holds Tryd.pinned (.plain (OpenSpec.upto bibaPlaysSpec)) bibaPlaysUptoCard

/-- THE SECOND FORM's CARD OF 'quietwinglaw2.WallRivals'. -/
def wallRivalsUptoCard : Claim7 := { stood := { row := wallRivalsUptoRow, standIns := [], harness := (true, "aefd1375fb93936368e2892db6c91986f39c3c0d16a99a561b7c64922973c4b5"), looks := true }, kinds := [], alts := [], laidByText := true, laidKinds := [.data, .data, .handle], laidTests := true, laidLooks := .later }
def WallRivalsUptoCardSaid : Prop := Claim7.holds Tryd.pinned (.plain (OpenSpec.upto wallRivalsSpec)) wallRivalsUptoCard

/-- THE SECOND FORM's CARD OF 'quietwinglaw2.WallMany'. -/
def wallManyUptoCard : Claim7 := { stood := { row := wallManyUptoRow, standIns := [], harness := (true, "aefd1375fb93936368e2892db6c91986f39c3c0d16a99a561b7c64922973c4b5"), looks := true }, kinds := [], alts := [], laidByText := true, laidKinds := [.data, .data, .handle], laidTests := true, laidLooks := .later }
def WallManyUptoCardSaid : Prop := Claim7.holds Tryd.pinned (.plain (OpenSpec.upto wallManySpec)) wallManyUptoCard

/-- THE SECOND FORM's CARD OF 'quietwinglaw2.WallHolds'. -/
def wallHoldsUptoCard : Claim7 := { stood := { row := wallHoldsUptoRow, standIns := [], harness := (true, "aefd1375fb93936368e2892db6c91986f39c3c0d16a99a561b7c64922973c4b5"), looks := true }, kinds := [], alts := [], laidByText := true, laidKinds := [.data, .data, .handle], laidTests := true, laidLooks := .later }
def WallHoldsUptoCardSaid : Prop := Claim7.holds Tryd.pinned (.plain (OpenSpec.upto wallHoldsSpec)) wallHoldsUptoCard

/-- THE SECOND FORM's CARD OF 'quietwinglaw2.WallPlays'. -/
def wallPlaysUptoCard : Claim7 := { stood := { row := wallPlaysUptoRow, standIns := [], harness := (true, "aefd1375fb93936368e2892db6c91986f39c3c0d16a99a561b7c64922973c4b5"), looks := true }, kinds := [], alts := [], laidByText := true, laidKinds := [.data, .data, .handle], laidTests := true, laidLooks := .later }
def WallPlaysUptoCardSaid : Prop := Claim7.holds Tryd.pinned (.plain (OpenSpec.upto wallPlaysSpec)) wallPlaysUptoCard

/-- THE SECOND FORM's CARD OF 'quietwinglaw2.BellFlows'. -/
def bellFlowsUptoCard : Claim7 := { stood := { row := bellFlowsUptoRow, standIns := [], harness := (true, "aefd1375fb93936368e2892db6c91986f39c3c0d16a99a561b7c64922973c4b5"), looks := true }, kinds := [], alts := [], laidByText := true, laidKinds := [.data, .data, .handle], laidTests := true, laidLooks := .later }
def BellFlowsUptoCardSaid : Prop := Claim7.holds Tryd.pinned (.plain (OpenSpec.upto bellFlowsSpec)) bellFlowsUptoCard

/-- THE SECOND FORM's CARD OF 'quietwinglaw2.BellSecure'. -/
def bellSecureUptoCard : Claim7 := { stood := { row := bellSecureUptoRow, standIns := [], harness := (true, "aefd1375fb93936368e2892db6c91986f39c3c0d16a99a561b7c64922973c4b5"), looks := true }, kinds := [], alts := [], laidByText := true, laidKinds := [.data, .data, .handle], laidTests := true, laidLooks := .later }
def BellSecureUptoCardSaid : Prop := Claim7.holds Tryd.pinned (.plain (OpenSpec.upto bellSecureSpec)) bellSecureUptoCard

/-- THE SECOND FORM's CARD OF 'quietwinglaw2.BellDrop'. -/
def bellDropUptoCard : Claim7 := { stood := { row := bellDropUptoRow, standIns := [], harness := (true, "aefd1375fb93936368e2892db6c91986f39c3c0d16a99a561b7c64922973c4b5"), looks := true }, kinds := [], alts := [], laidByText := true, laidKinds := [.data, .data, .handle], laidTests := true, laidLooks := .later }
def BellDropUptoCardSaid : Prop := Claim7.holds Tryd.pinned (.plain (OpenSpec.upto bellDropSpec)) bellDropUptoCard

/-- THE SECOND FORM's CARD OF 'quietwinglaw2.BellPlays'. -/
def bellPlaysUptoCard : Claim7 := { stood := { row := bellPlaysUptoRow, standIns := [], harness := (true, "aefd1375fb93936368e2892db6c91986f39c3c0d16a99a561b7c64922973c4b5"), looks := true }, kinds := [], alts := [], laidByText := true, laidKinds := [.data, .data, .handle], laidTests := true, laidLooks := .later }
def BellPlaysUptoCardSaid : Prop := Claim7.holds Tryd.pinned (.plain (OpenSpec.upto bellPlaysSpec)) bellPlaysUptoCard
end Rows
end Go.Proofs.YtodikdmmmfeddaaDoor
