/-
  DERIVED. GIVEN WITH THE SEED: THE CARDS: each row of YtbdochaahbpabaaDoorRows.lean that lists a variable, with what it lists TIED to the program's text (the seventh form; the later family's looks); each row that meets fmt, with fmt's text TOLD by the authors' own Lean function (tested against real Go, not proved from fmt's source: count such statements apart). THE CARD IS WHAT COUNTS. Prove the row's statement (the work); the ties are given (YtbdochaahbpabaaDoorTie.lean); close each card by the builder's one call (the guide's Derived/Test/ToyasCard.lean, 'card_holds'). Laid BY PROGRAM, IN A SANDBOX (cutbox-door.mjs). By AI agents, Wed Nov 11 2026. No macro, syntax, notation, axiom, sorry.
-/
import Derived.Test.YtbdochaahbpabaaDoorRows
import GoSem.ClaimSeven
namespace Go.Proofs.YtbdochaahbpabaaDoor
namespace Rows

/-- THE TIED CARD OF 'quietwinglaw1.LabelOrder'. -/
def labelOrderCard : Claim7 := { stood := { row := labelOrderRow, standIns := [], harness := (true, "64217348e4d4c144e14bde9022d748a1a8fbc8698203b83e225af1a7c91463a3"), looks := true }, kinds := [], alts := [], laidByText := true, laidKinds := [.data, .data], laidTests := true, laidLooks := .later }
def LabelOrderCardSaid : Prop := Claim7.holds Tryd.pinned (.plain (OpenSpec.ofChange labelOrderSpec)) labelOrderCard

/-- THE TIED CARD OF 'quietwinglaw1.RelOrder'. -/
def relOrderCard : Claim7 := { stood := { row := relOrderRow, standIns := [], harness := (true, "64217348e4d4c144e14bde9022d748a1a8fbc8698203b83e225af1a7c91463a3"), looks := true }, kinds := [], alts := [], laidByText := true, laidKinds := [.data, .data], laidTests := true, laidLooks := .later }
def RelOrderCardSaid : Prop := Claim7.holds Tryd.pinned (.plain (OpenSpec.ofChange relOrderSpec)) relOrderCard

/-- THE TIED CARD OF 'quietwinglaw1.LabelBounds'. -/
def labelBoundsCard : Claim7 := { stood := { row := labelBoundsRow, standIns := [], harness := (true, "64217348e4d4c144e14bde9022d748a1a8fbc8698203b83e225af1a7c91463a3"), looks := true }, kinds := [], alts := [], laidByText := true, laidKinds := [.data, .data], laidTests := true, laidLooks := .later }
def LabelBoundsCardSaid : Prop := Claim7.holds Tryd.pinned (.plain (OpenSpec.ofChange labelBoundsSpec)) labelBoundsCard

/-- THE TIED CARD OF 'quietwinglaw1.RelReduces'. -/
def relReducesCard : Claim7 := { stood := { row := relReducesRow, standIns := [], harness := (true, "64217348e4d4c144e14bde9022d748a1a8fbc8698203b83e225af1a7c91463a3"), looks := true }, kinds := [], alts := [], laidByText := true, laidKinds := [.data, .data], laidTests := true, laidLooks := .later }
def RelReducesCardSaid : Prop := Claim7.holds Tryd.pinned (.plain (OpenSpec.ofChange relReducesSpec)) relReducesCard

/-- THE TIED CARD OF 'quietwinglaw1.LatticeBounds'. -/
def latticeBoundsCard : Claim7 := { stood := { row := latticeBoundsRow, standIns := [], harness := (true, "64217348e4d4c144e14bde9022d748a1a8fbc8698203b83e225af1a7c91463a3"), looks := true }, kinds := [], alts := [], laidByText := true, laidKinds := [.data, .data], laidTests := true, laidLooks := .later }
def LatticeBoundsCardSaid : Prop := Claim7.holds Tryd.pinned (.plain (OpenSpec.ofChange latticeBoundsSpec)) latticeBoundsCard

/-- THE TIED CARD OF 'quietwinglaw1.LatticeOrder'. -/
def latticeOrderCard : Claim7 := { stood := { row := latticeOrderRow, standIns := [], harness := (true, "64217348e4d4c144e14bde9022d748a1a8fbc8698203b83e225af1a7c91463a3"), looks := true }, kinds := [], alts := [], laidByText := true, laidKinds := [.data, .data], laidTests := true, laidLooks := .later }
def LatticeOrderCardSaid : Prop := Claim7.holds Tryd.pinned (.plain (OpenSpec.ofChange latticeOrderSpec)) latticeOrderCard

/-- THE TIED CARD OF 'quietwinglaw1.LatticeRules'. -/
def latticeRulesCard : Claim7 := { stood := { row := latticeRulesRow, standIns := [], harness := (true, "64217348e4d4c144e14bde9022d748a1a8fbc8698203b83e225af1a7c91463a3"), looks := true }, kinds := [], alts := [], laidByText := true, laidKinds := [.data, .data], laidTests := true, laidLooks := .later }
def LatticeRulesCardSaid : Prop := Claim7.holds Tryd.pinned (.plain (OpenSpec.ofChange latticeRulesSpec)) latticeRulesCard

/-- THE TIED CARD OF 'quietwingtop.TopLabels'. -/
def topLabelsCard : Claim7 := { stood := { row := topLabelsRow, standIns := [], harness := (true, "64217348e4d4c144e14bde9022d748a1a8fbc8698203b83e225af1a7c91463a3"), looks := true }, kinds := [], alts := [], laidByText := true, laidKinds := [.data, .data], laidTests := true, laidLooks := .later }
def TopLabelsCardSaid : Prop := Claim7.holds Tryd.pinned (.plain (OpenSpec.ofChange topLabelsSpec)) topLabelsCard

/-- THE TIED CARD OF 'quietwinglaw1.LabelBack'. -/
def labelBackCard : Claim7 := { stood := { row := labelBackRow, standIns := [], harness := (true, "64217348e4d4c144e14bde9022d748a1a8fbc8698203b83e225af1a7c91463a3"), looks := true }, kinds := [], alts := [], laidByText := true, laidKinds := [.data, .data, .handle], laidTests := true, laidLooks := .later }
def LabelBackCardSaid : Prop := Claim7.holds Tryd.pinned (.plain (OpenSpec.ofChange labelBackSpec)) labelBackCard

/-- THE TIED CARD OF 'quietwinglaw1.LabelSays'. -/
def labelSaysCard : Claim7 := { stood := { row := labelSaysRow, standIns := [], harness := (true, "64217348e4d4c144e14bde9022d748a1a8fbc8698203b83e225af1a7c91463a3"), looks := true }, kinds := [], alts := [], laidByText := true, laidKinds := [.data, .data, .handle], laidTests := true, laidLooks := .later }
def LabelSaysCardSaid : Prop := Claim7.holds Tryd.pinned (.plain (OpenSpec.ofChange labelSaysSpec)) labelSaysCard

/-- THE TIED CARD OF 'quietwinglaw1.RelWay'. -/
def relWayCard : Claim7 := { stood := { row := relWayRow, standIns := [], harness := (true, "64217348e4d4c144e14bde9022d748a1a8fbc8698203b83e225af1a7c91463a3"), looks := true }, kinds := [], alts := [], laidByText := true, laidKinds := [.data, .data, .handle], laidTests := true, laidLooks := .later }
def RelWayCardSaid : Prop := Claim7.holds Tryd.pinned (.plain (OpenSpec.ofChange relWaySpec)) relWayCard

/-- THE TIED CARD OF 'quietwinglaw1.LatticeSays'. -/
def latticeSaysCard : Claim7 := { stood := { row := latticeSaysRow, standIns := [], harness := (true, "64217348e4d4c144e14bde9022d748a1a8fbc8698203b83e225af1a7c91463a3"), looks := true }, kinds := [], alts := [], laidByText := true, laidKinds := [.data, .data, .handle], laidTests := true, laidLooks := .later }
def LatticeSaysCardSaid : Prop := Claim7.holds Tryd.pinned (.plain (OpenSpec.ofChange latticeSaysSpec)) latticeSaysCard

/-- THE TIED CARD OF 'quietwinglaw1.RelSays'. -/
def relSaysCard : Claim7 := { stood := { row := relSaysRow, standIns := [], harness := (true, "64217348e4d4c144e14bde9022d748a1a8fbc8698203b83e225af1a7c91463a3"), looks := true }, kinds := [], alts := [], laidByText := true, laidKinds := [.data, .data, .handle], laidTests := true, laidLooks := .later }
def RelSaysCardSaid : Prop := Claim7.holds Tryd.pinned (.plain (OpenSpec.ofChange relSaysSpec)) relSaysCard

/-- THE SECOND FORM's CARD OF 'quietwinglaw1.LabelOrder'. -/
def labelOrderUptoCard : Claim7 := { stood := { row := labelOrderUptoRow, standIns := [], harness := (true, "64217348e4d4c144e14bde9022d748a1a8fbc8698203b83e225af1a7c91463a3"), looks := true }, kinds := [], alts := [], laidByText := true, laidKinds := [.data, .data], laidTests := true, laidLooks := .later }
def LabelOrderUptoCardSaid : Prop := Claim7.holds Tryd.pinned (.plain (OpenSpec.upto labelOrderSpec)) labelOrderUptoCard

/-- THE SECOND FORM's CARD OF 'quietwinglaw1.RelOrder'. -/
def relOrderUptoCard : Claim7 := { stood := { row := relOrderUptoRow, standIns := [], harness := (true, "64217348e4d4c144e14bde9022d748a1a8fbc8698203b83e225af1a7c91463a3"), looks := true }, kinds := [], alts := [], laidByText := true, laidKinds := [.data, .data], laidTests := true, laidLooks := .later }
def RelOrderUptoCardSaid : Prop := Claim7.holds Tryd.pinned (.plain (OpenSpec.upto relOrderSpec)) relOrderUptoCard

/-- THE SECOND FORM's CARD OF 'quietwinglaw1.LabelBounds'. -/
def labelBoundsUptoCard : Claim7 := { stood := { row := labelBoundsUptoRow, standIns := [], harness := (true, "64217348e4d4c144e14bde9022d748a1a8fbc8698203b83e225af1a7c91463a3"), looks := true }, kinds := [], alts := [], laidByText := true, laidKinds := [.data, .data], laidTests := true, laidLooks := .later }
def LabelBoundsUptoCardSaid : Prop := Claim7.holds Tryd.pinned (.plain (OpenSpec.upto labelBoundsSpec)) labelBoundsUptoCard

/-- THE SECOND FORM's CARD OF 'quietwinglaw1.RelReduces'. -/
def relReducesUptoCard : Claim7 := { stood := { row := relReducesUptoRow, standIns := [], harness := (true, "64217348e4d4c144e14bde9022d748a1a8fbc8698203b83e225af1a7c91463a3"), looks := true }, kinds := [], alts := [], laidByText := true, laidKinds := [.data, .data], laidTests := true, laidLooks := .later }
def RelReducesUptoCardSaid : Prop := Claim7.holds Tryd.pinned (.plain (OpenSpec.upto relReducesSpec)) relReducesUptoCard

/-- THE SECOND FORM's CARD OF 'quietwinglaw1.LatticeBounds'. -/
def latticeBoundsUptoCard : Claim7 := { stood := { row := latticeBoundsUptoRow, standIns := [], harness := (true, "64217348e4d4c144e14bde9022d748a1a8fbc8698203b83e225af1a7c91463a3"), looks := true }, kinds := [], alts := [], laidByText := true, laidKinds := [.data, .data], laidTests := true, laidLooks := .later }
def LatticeBoundsUptoCardSaid : Prop := Claim7.holds Tryd.pinned (.plain (OpenSpec.upto latticeBoundsSpec)) latticeBoundsUptoCard

/-- THE SECOND FORM's CARD OF 'quietwinglaw1.LatticeOrder'. -/
def latticeOrderUptoCard : Claim7 := { stood := { row := latticeOrderUptoRow, standIns := [], harness := (true, "64217348e4d4c144e14bde9022d748a1a8fbc8698203b83e225af1a7c91463a3"), looks := true }, kinds := [], alts := [], laidByText := true, laidKinds := [.data, .data], laidTests := true, laidLooks := .later }
def LatticeOrderUptoCardSaid : Prop := Claim7.holds Tryd.pinned (.plain (OpenSpec.upto latticeOrderSpec)) latticeOrderUptoCard

/-- THE SECOND FORM's CARD OF 'quietwinglaw1.LatticeRules'. -/
def latticeRulesUptoCard : Claim7 := { stood := { row := latticeRulesUptoRow, standIns := [], harness := (true, "64217348e4d4c144e14bde9022d748a1a8fbc8698203b83e225af1a7c91463a3"), looks := true }, kinds := [], alts := [], laidByText := true, laidKinds := [.data, .data], laidTests := true, laidLooks := .later }
def LatticeRulesUptoCardSaid : Prop := Claim7.holds Tryd.pinned (.plain (OpenSpec.upto latticeRulesSpec)) latticeRulesUptoCard

/-- THE SECOND FORM's CARD OF 'quietwingtop.TopLabels'. -/
def topLabelsUptoCard : Claim7 := { stood := { row := topLabelsUptoRow, standIns := [], harness := (true, "64217348e4d4c144e14bde9022d748a1a8fbc8698203b83e225af1a7c91463a3"), looks := true }, kinds := [], alts := [], laidByText := true, laidKinds := [.data, .data], laidTests := true, laidLooks := .later }
def TopLabelsUptoCardSaid : Prop := Claim7.holds Tryd.pinned (.plain (OpenSpec.upto topLabelsSpec)) topLabelsUptoCard

/-- THE SECOND FORM's CARD OF 'quietwinglaw1.LabelBack'. -/
def labelBackUptoCard : Claim7 := { stood := { row := labelBackUptoRow, standIns := [], harness := (true, "64217348e4d4c144e14bde9022d748a1a8fbc8698203b83e225af1a7c91463a3"), looks := true }, kinds := [], alts := [], laidByText := true, laidKinds := [.data, .data, .handle], laidTests := true, laidLooks := .later }
def LabelBackUptoCardSaid : Prop := Claim7.holds Tryd.pinned (.plain (OpenSpec.upto labelBackSpec)) labelBackUptoCard

/-- THE SECOND FORM's CARD OF 'quietwinglaw1.LabelSays'. -/
def labelSaysUptoCard : Claim7 := { stood := { row := labelSaysUptoRow, standIns := [], harness := (true, "64217348e4d4c144e14bde9022d748a1a8fbc8698203b83e225af1a7c91463a3"), looks := true }, kinds := [], alts := [], laidByText := true, laidKinds := [.data, .data, .handle], laidTests := true, laidLooks := .later }
def LabelSaysUptoCardSaid : Prop := Claim7.holds Tryd.pinned (.plain (OpenSpec.upto labelSaysSpec)) labelSaysUptoCard

/-- THE SECOND FORM's CARD OF 'quietwinglaw1.RelWay'. -/
def relWayUptoCard : Claim7 := { stood := { row := relWayUptoRow, standIns := [], harness := (true, "64217348e4d4c144e14bde9022d748a1a8fbc8698203b83e225af1a7c91463a3"), looks := true }, kinds := [], alts := [], laidByText := true, laidKinds := [.data, .data, .handle], laidTests := true, laidLooks := .later }
def RelWayUptoCardSaid : Prop := Claim7.holds Tryd.pinned (.plain (OpenSpec.upto relWaySpec)) relWayUptoCard

/-- THE SECOND FORM's CARD OF 'quietwinglaw1.LatticeSays'. -/
def latticeSaysUptoCard : Claim7 := { stood := { row := latticeSaysUptoRow, standIns := [], harness := (true, "64217348e4d4c144e14bde9022d748a1a8fbc8698203b83e225af1a7c91463a3"), looks := true }, kinds := [], alts := [], laidByText := true, laidKinds := [.data, .data, .handle], laidTests := true, laidLooks := .later }
def LatticeSaysUptoCardSaid : Prop := Claim7.holds Tryd.pinned (.plain (OpenSpec.upto latticeSaysSpec)) latticeSaysUptoCard

/-- THE SECOND FORM's CARD OF 'quietwinglaw1.RelSays'. -/
def relSaysUptoCard : Claim7 := { stood := { row := relSaysUptoRow, standIns := [], harness := (true, "64217348e4d4c144e14bde9022d748a1a8fbc8698203b83e225af1a7c91463a3"), looks := true }, kinds := [], alts := [], laidByText := true, laidKinds := [.data, .data, .handle], laidTests := true, laidLooks := .later }
def RelSaysUptoCardSaid : Prop := Claim7.holds Tryd.pinned (.plain (OpenSpec.upto relSaysSpec)) relSaysUptoCard
end Rows
end Go.Proofs.YtbdochaahbpabaaDoor
