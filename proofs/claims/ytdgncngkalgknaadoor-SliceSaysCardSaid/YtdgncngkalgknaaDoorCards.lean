/-
  DERIVED. GIVEN WITH THE SEED: THE CARDS: each row of YtdgncngkalgknaaDoorRows.lean that lists a variable, with what it lists TIED to the program's text (the seventh form; the later family's looks); each row that meets fmt, with fmt's text TOLD by the authors' own Lean function (tested against real Go, not proved from fmt's source: count such statements apart). THE CARD IS WHAT COUNTS. Prove the row's statement (the work); the ties are given (YtdgncngkalgknaaDoorTie.lean); close each card by the builder's one call (the guide's Derived/Test/ToyasCard.lean, 'card_holds'). Laid BY PROGRAM, IN A SANDBOX (cutbox-door.mjs). By AI agents, Wed Nov 11 2026. No macro, syntax, notation, axiom, sorry.
-/
import Derived.Test.YtdgncngkalgknaaDoorRows
import GoSem.ClaimSeven
namespace Go.Proofs.YtdgncngkalgknaaDoor
namespace Rows

/-- THE TIED CARD OF 'quietwingtop.TopText'. -/
def topTextCard : Claim7 := { stood := { row := topTextRow, standIns := [], harness := (true, "af20ae863eba49266d5045ee82160f7802ace3390ad9c526bd4d581fd6d87fde"), looks := true }, kinds := [], alts := [], laidByText := true, laidKinds := [.data, .data, .data, .sentinel, .sentinel], laidTests := true, laidLooks := .later }
def TopTextCardSaid : Prop := Claim7.holds Tryd.pinned (.plain (OpenSpec.ofChange topTextSpec)) topTextCard

/-- THE TIED CARD OF 'quietwinglaw3.SliceSays'. -/
def sliceSaysCard : Claim7 := { stood := { row := sliceSaysRow, standIns := [], harness := (true, "af20ae863eba49266d5045ee82160f7802ace3390ad9c526bd4d581fd6d87fde"), looks := true }, kinds := [], alts := [], laidByText := true, laidKinds := [.handle], laidTests := true, laidLooks := .later }
def SliceSaysCardSaid : Prop := Claim7.holds Tryd.pinned (.plain (OpenSpec.ofChange sliceSaysSpec)) sliceSaysCard

/-- THE TIED CARD OF 'quietwinglaw3.ProgAgain'. -/
def progAgainCard : Claim7 := { stood := { row := progAgainRow, standIns := [], harness := (true, "af20ae863eba49266d5045ee82160f7802ace3390ad9c526bd4d581fd6d87fde"), looks := true }, kinds := [], alts := [], laidByText := true, laidKinds := [.data, .data, .data, .sentinel, .sentinel], laidTests := true, laidLooks := .later }
def ProgAgainCardSaid : Prop := Claim7.holds Tryd.pinned (.plain (OpenSpec.ofChange progAgainSpec)) progAgainCard

/-- THE TIED CARD OF 'quietwinglaw3.RunKeeps'. -/
def runKeepsCard : Claim7 := { stood := { row := runKeepsRow, standIns := [], harness := (true, "af20ae863eba49266d5045ee82160f7802ace3390ad9c526bd4d581fd6d87fde"), looks := true }, kinds := [], alts := [], laidByText := true, laidKinds := [.data, .data, .data, .sentinel, .sentinel], laidTests := true, laidLooks := .later }
def RunKeepsCardSaid : Prop := Claim7.holds Tryd.pinned (.plain (OpenSpec.ofChange runKeepsSpec)) runKeepsCard

/-- THE TIED CARD OF 'quietwinglaw3.SliceTwice'. -/
def sliceTwiceCard : Claim7 := { stood := { row := sliceTwiceRow, standIns := [], harness := (true, "af20ae863eba49266d5045ee82160f7802ace3390ad9c526bd4d581fd6d87fde"), looks := true }, kinds := [], alts := [], laidByText := true, laidKinds := [.data, .data, .data, .sentinel, .sentinel], laidTests := true, laidLooks := .later }
def SliceTwiceCardSaid : Prop := Claim7.holds Tryd.pinned (.plain (OpenSpec.ofChange sliceTwiceSpec)) sliceTwiceCard

/-- THE TIED CARD OF 'quietwinglaw3.SliceSame'. -/
def sliceSameCard : Claim7 := { stood := { row := sliceSameRow, standIns := [], harness := (true, "af20ae863eba49266d5045ee82160f7802ace3390ad9c526bd4d581fd6d87fde"), looks := true }, kinds := [], alts := [], laidByText := true, laidKinds := [.data, .data, .data, .sentinel, .sentinel], laidTests := true, laidLooks := .later }
def SliceSameCardSaid : Prop := Claim7.holds Tryd.pinned (.plain (OpenSpec.ofChange sliceSameSpec)) sliceSameCard

/-- THE TIED CARD OF 'quietwinglaw3.ProgJoins'. -/
def progJoinsCard : Claim7 := { stood := { row := progJoinsRow, standIns := [], harness := (true, "af20ae863eba49266d5045ee82160f7802ace3390ad9c526bd4d581fd6d87fde"), looks := true }, kinds := [], alts := [], laidByText := true, laidKinds := [.data, .data, .data, .handle, .sentinel, .sentinel], laidTests := true, laidLooks := .later }
def ProgJoinsCardSaid : Prop := Claim7.holds Tryd.pinned (.plain (OpenSpec.ofChange progJoinsSpec)) progJoinsCard

/-- THE TIED CARD OF 'quietwinglaw3.RunFuel'. -/
def runFuelCard : Claim7 := { stood := { row := runFuelRow, standIns := [], harness := (true, "af20ae863eba49266d5045ee82160f7802ace3390ad9c526bd4d581fd6d87fde"), looks := true }, kinds := [], alts := [], laidByText := true, laidKinds := [.data, .data, .data, .handle, .sentinel, .sentinel], laidTests := true, laidLooks := .later }
def RunFuelCardSaid : Prop := Claim7.holds Tryd.pinned (.plain (OpenSpec.ofChange runFuelSpec)) runFuelCard

/-- THE TIED CARD OF 'quietwinglaw3.SliceNeeds'. -/
def sliceNeedsCard : Claim7 := { stood := { row := sliceNeedsRow, standIns := [], harness := (true, "af20ae863eba49266d5045ee82160f7802ace3390ad9c526bd4d581fd6d87fde"), looks := true }, kinds := [], alts := [], laidByText := true, laidKinds := [.data, .data, .data, .sentinel, .sentinel], laidTests := true, laidLooks := .later }
def SliceNeedsCardSaid : Prop := Claim7.holds Tryd.pinned (.plain (OpenSpec.ofChange sliceNeedsSpec)) sliceNeedsCard

/-- THE TIED CARD OF 'quietwinglaw3.ProgBack'. -/
def progBackCard : Claim7 := { stood := { row := progBackRow, standIns := [], harness := (true, "af20ae863eba49266d5045ee82160f7802ace3390ad9c526bd4d581fd6d87fde"), looks := true }, kinds := [], alts := [], laidByText := true, laidKinds := [.data, .data, .data, .handle, .sentinel, .sentinel], laidTests := true, laidLooks := .later }
def ProgBackCardSaid : Prop := Claim7.holds Tryd.pinned (.plain (OpenSpec.ofChange progBackSpec)) progBackCard

/-- THE SECOND FORM's CARD OF 'quietwingtop.TopText'. -/
def topTextUptoCard : Claim7 := { stood := { row := topTextUptoRow, standIns := [], harness := (true, "af20ae863eba49266d5045ee82160f7802ace3390ad9c526bd4d581fd6d87fde"), looks := true }, kinds := [], alts := [], laidByText := true, laidKinds := [.data, .data, .data, .sentinel, .sentinel], laidTests := true, laidLooks := .later }
def TopTextUptoCardSaid : Prop := Claim7.holds Tryd.pinned (.plain (OpenSpec.upto topTextSpec)) topTextUptoCard

/-- THE SECOND FORM's CARD OF 'quietwinglaw3.SliceSays'. -/
def sliceSaysUptoCard : Claim7 := { stood := { row := sliceSaysUptoRow, standIns := [], harness := (true, "af20ae863eba49266d5045ee82160f7802ace3390ad9c526bd4d581fd6d87fde"), looks := true }, kinds := [], alts := [], laidByText := true, laidKinds := [.handle], laidTests := true, laidLooks := .later }
def SliceSaysUptoCardSaid : Prop := Claim7.holds Tryd.pinned (.plain (OpenSpec.upto sliceSaysSpec)) sliceSaysUptoCard

/-- THE SECOND FORM's CARD OF 'quietwinglaw3.ProgAgain'. -/
def progAgainUptoCard : Claim7 := { stood := { row := progAgainUptoRow, standIns := [], harness := (true, "af20ae863eba49266d5045ee82160f7802ace3390ad9c526bd4d581fd6d87fde"), looks := true }, kinds := [], alts := [], laidByText := true, laidKinds := [.data, .data, .data, .sentinel, .sentinel], laidTests := true, laidLooks := .later }
def ProgAgainUptoCardSaid : Prop := Claim7.holds Tryd.pinned (.plain (OpenSpec.upto progAgainSpec)) progAgainUptoCard

/-- THE SECOND FORM's CARD OF 'quietwinglaw3.RunKeeps'. -/
def runKeepsUptoCard : Claim7 := { stood := { row := runKeepsUptoRow, standIns := [], harness := (true, "af20ae863eba49266d5045ee82160f7802ace3390ad9c526bd4d581fd6d87fde"), looks := true }, kinds := [], alts := [], laidByText := true, laidKinds := [.data, .data, .data, .sentinel, .sentinel], laidTests := true, laidLooks := .later }
def RunKeepsUptoCardSaid : Prop := Claim7.holds Tryd.pinned (.plain (OpenSpec.upto runKeepsSpec)) runKeepsUptoCard

/-- THE SECOND FORM's CARD OF 'quietwinglaw3.SliceTwice'. -/
def sliceTwiceUptoCard : Claim7 := { stood := { row := sliceTwiceUptoRow, standIns := [], harness := (true, "af20ae863eba49266d5045ee82160f7802ace3390ad9c526bd4d581fd6d87fde"), looks := true }, kinds := [], alts := [], laidByText := true, laidKinds := [.data, .data, .data, .sentinel, .sentinel], laidTests := true, laidLooks := .later }
def SliceTwiceUptoCardSaid : Prop := Claim7.holds Tryd.pinned (.plain (OpenSpec.upto sliceTwiceSpec)) sliceTwiceUptoCard

/-- THE SECOND FORM's CARD OF 'quietwinglaw3.SliceSame'. -/
def sliceSameUptoCard : Claim7 := { stood := { row := sliceSameUptoRow, standIns := [], harness := (true, "af20ae863eba49266d5045ee82160f7802ace3390ad9c526bd4d581fd6d87fde"), looks := true }, kinds := [], alts := [], laidByText := true, laidKinds := [.data, .data, .data, .sentinel, .sentinel], laidTests := true, laidLooks := .later }
def SliceSameUptoCardSaid : Prop := Claim7.holds Tryd.pinned (.plain (OpenSpec.upto sliceSameSpec)) sliceSameUptoCard

/-- THE SECOND FORM's CARD OF 'quietwinglaw3.ProgJoins'. -/
def progJoinsUptoCard : Claim7 := { stood := { row := progJoinsUptoRow, standIns := [], harness := (true, "af20ae863eba49266d5045ee82160f7802ace3390ad9c526bd4d581fd6d87fde"), looks := true }, kinds := [], alts := [], laidByText := true, laidKinds := [.data, .data, .data, .handle, .sentinel, .sentinel], laidTests := true, laidLooks := .later }
def ProgJoinsUptoCardSaid : Prop := Claim7.holds Tryd.pinned (.plain (OpenSpec.upto progJoinsSpec)) progJoinsUptoCard

/-- THE SECOND FORM's CARD OF 'quietwinglaw3.RunFuel'. -/
def runFuelUptoCard : Claim7 := { stood := { row := runFuelUptoRow, standIns := [], harness := (true, "af20ae863eba49266d5045ee82160f7802ace3390ad9c526bd4d581fd6d87fde"), looks := true }, kinds := [], alts := [], laidByText := true, laidKinds := [.data, .data, .data, .handle, .sentinel, .sentinel], laidTests := true, laidLooks := .later }
def RunFuelUptoCardSaid : Prop := Claim7.holds Tryd.pinned (.plain (OpenSpec.upto runFuelSpec)) runFuelUptoCard

/-- THE SECOND FORM's CARD OF 'quietwinglaw3.SliceNeeds'. -/
def sliceNeedsUptoCard : Claim7 := { stood := { row := sliceNeedsUptoRow, standIns := [], harness := (true, "af20ae863eba49266d5045ee82160f7802ace3390ad9c526bd4d581fd6d87fde"), looks := true }, kinds := [], alts := [], laidByText := true, laidKinds := [.data, .data, .data, .sentinel, .sentinel], laidTests := true, laidLooks := .later }
def SliceNeedsUptoCardSaid : Prop := Claim7.holds Tryd.pinned (.plain (OpenSpec.upto sliceNeedsSpec)) sliceNeedsUptoCard

/-- THE SECOND FORM's CARD OF 'quietwinglaw3.ProgBack'. -/
def progBackUptoCard : Claim7 := { stood := { row := progBackUptoRow, standIns := [], harness := (true, "af20ae863eba49266d5045ee82160f7802ace3390ad9c526bd4d581fd6d87fde"), looks := true }, kinds := [], alts := [], laidByText := true, laidKinds := [.data, .data, .data, .handle, .sentinel, .sentinel], laidTests := true, laidLooks := .later }
def ProgBackUptoCardSaid : Prop := Claim7.holds Tryd.pinned (.plain (OpenSpec.upto progBackSpec)) progBackUptoCard
end Rows
end Go.Proofs.YtdgncngkalgknaaDoor
