/-
  DERIVED. GIVEN WITH THE SEED: THE CARDS: each row of YtndeplakkhfmlaaDoorRows.lean that lists a variable, with what it lists TIED to the program's text (the seventh form; the later family's looks); each row that meets fmt, with fmt's text TOLD by the authors' own Lean function (tested against real Go, not proved from fmt's source: count such statements apart). THE CARD IS WHAT COUNTS. Prove the row's statement (the work); the ties are given (YtndeplakkhfmlaaDoorTie.lean); close each card by the builder's one call (the guide's Derived/Test/ToyasCard.lean, 'card_holds'). Laid BY PROGRAM, IN A SANDBOX (cutbox-door.mjs). By AI agents, Wed Nov 11 2026. No macro, syntax, notation, axiom, sorry.
-/
import Derived.Test.YtndeplakkhfmlaaDoorRows
import GoSem.ClaimSeven
namespace Go.Proofs.YtndeplakkhfmlaaDoor
namespace Rows

/-- THE TIED CARD OF 'quietwingtop.TopLabels'. -/
def topLabelsCard : Claim7 := { stood := { row := topLabelsRow, standIns := [], harness := (true, "0ccaa70cf98bf6854f5426dfb82de377a31f4ee4d4e0c2ee981caa5abe02342d"), looks := true }, kinds := [], alts := [], laidByText := true, laidKinds := [.data, .data], laidTests := true, laidLooks := .later }
def TopLabelsCardSaid : Prop := Claim7.holds Tryd.pinned (.plain (OpenSpec.ofChange topLabelsSpec)) topLabelsCard

/-- THE TIED CARD OF 'quietwinglaw1.LabelSays'. -/
def labelSaysCard : Claim7 := { stood := { row := labelSaysRow, standIns := [], harness := (true, "0ccaa70cf98bf6854f5426dfb82de377a31f4ee4d4e0c2ee981caa5abe02342d"), looks := true }, kinds := [], alts := [], laidByText := true, laidKinds := [.data, .data, .handle], laidTests := true, laidLooks := .later }
def LabelSaysCardSaid : Prop := Claim7.holds Tryd.pinned (.plain (OpenSpec.ofChange labelSaysSpec)) labelSaysCard

/-- THE TIED CARD OF 'quietwinglaw1.RelWay'. -/
def relWayCard : Claim7 := { stood := { row := relWayRow, standIns := [], harness := (true, "0ccaa70cf98bf6854f5426dfb82de377a31f4ee4d4e0c2ee981caa5abe02342d"), looks := true }, kinds := [], alts := [], laidByText := true, laidKinds := [.data, .data, .handle], laidTests := true, laidLooks := .later }
def RelWayCardSaid : Prop := Claim7.holds Tryd.pinned (.plain (OpenSpec.ofChange relWaySpec)) relWayCard

/-- THE TIED CARD OF 'quietwinglaw1.RelSays'. -/
def relSaysCard : Claim7 := { stood := { row := relSaysRow, standIns := [], harness := (true, "0ccaa70cf98bf6854f5426dfb82de377a31f4ee4d4e0c2ee981caa5abe02342d"), looks := true }, kinds := [], alts := [], laidByText := true, laidKinds := [.data, .data, .handle], laidTests := true, laidLooks := .later }
def RelSaysCardSaid : Prop := Claim7.holds Tryd.pinned (.plain (OpenSpec.ofChange relSaysSpec)) relSaysCard

/-- THE SECOND FORM's CARD OF 'quietwingtop.TopLabels'. -/
def topLabelsUptoCard : Claim7 := { stood := { row := topLabelsUptoRow, standIns := [], harness := (true, "0ccaa70cf98bf6854f5426dfb82de377a31f4ee4d4e0c2ee981caa5abe02342d"), looks := true }, kinds := [], alts := [], laidByText := true, laidKinds := [.data, .data], laidTests := true, laidLooks := .later }
def TopLabelsUptoCardSaid : Prop := Claim7.holds Tryd.pinned (.plain (OpenSpec.upto topLabelsSpec)) topLabelsUptoCard

/-- THE SECOND FORM's CARD OF 'quietwinglaw1.LabelSays'. -/
def labelSaysUptoCard : Claim7 := { stood := { row := labelSaysUptoRow, standIns := [], harness := (true, "0ccaa70cf98bf6854f5426dfb82de377a31f4ee4d4e0c2ee981caa5abe02342d"), looks := true }, kinds := [], alts := [], laidByText := true, laidKinds := [.data, .data, .handle], laidTests := true, laidLooks := .later }
def LabelSaysUptoCardSaid : Prop := Claim7.holds Tryd.pinned (.plain (OpenSpec.upto labelSaysSpec)) labelSaysUptoCard

/-- THE SECOND FORM's CARD OF 'quietwinglaw1.RelWay'. -/
def relWayUptoCard : Claim7 := { stood := { row := relWayUptoRow, standIns := [], harness := (true, "0ccaa70cf98bf6854f5426dfb82de377a31f4ee4d4e0c2ee981caa5abe02342d"), looks := true }, kinds := [], alts := [], laidByText := true, laidKinds := [.data, .data, .handle], laidTests := true, laidLooks := .later }
def RelWayUptoCardSaid : Prop := Claim7.holds Tryd.pinned (.plain (OpenSpec.upto relWaySpec)) relWayUptoCard

/-- THE SECOND FORM's CARD OF 'quietwinglaw1.RelSays'. -/
def relSaysUptoCard : Claim7 := { stood := { row := relSaysUptoRow, standIns := [], harness := (true, "0ccaa70cf98bf6854f5426dfb82de377a31f4ee4d4e0c2ee981caa5abe02342d"), looks := true }, kinds := [], alts := [], laidByText := true, laidKinds := [.data, .data, .handle], laidTests := true, laidLooks := .later }
def RelSaysUptoCardSaid : Prop := Claim7.holds Tryd.pinned (.plain (OpenSpec.upto relSaysSpec)) relSaysUptoCard
end Rows
end Go.Proofs.YtndeplakkhfmlaaDoor
