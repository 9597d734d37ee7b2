/-
  DERIVED. GIVEN WITH THE SEED: THE CARDS: each row of YthaaekpnemhjoaaDoorRows.lean that lists a variable, with what it lists TIED to the program's text (the seventh form; the later family's looks); each row that meets fmt, with fmt's text TOLD by the authors' own Lean function (tested against real Go, not proved from fmt's source: count such statements apart). THE CARD IS WHAT COUNTS. Prove the row's statement (the work); the ties are given (YthaaekpnemhjoaaDoorTie.lean); close each card by the builder's one call (the guide's Derived/Test/ToyasCard.lean, 'card_holds'). Laid BY PROGRAM, IN A SANDBOX (cutbox-door.mjs). By AI agents, Wed Nov 11 2026. No macro, syntax, notation, axiom, sorry.
-/
import Derived.Test.YthaaekpnemhjoaaDoorRows
import GoSem.ClaimSeven
namespace Go.Proofs.YthaaekpnemhjoaaDoor
namespace Rows

/-- THE TIED CARD OF 'quietwinglaw3.FlowLevels'. -/
def flowLevelsCard : Claim7 := { stood := { row := flowLevelsRow, standIns := [], harness := (true, "a9e87996930f0e189fcc3104e2f7be5198ce510d5ac7a4af94acaf69e794caf2"), looks := true }, kinds := [], alts := [], laidByText := true, laidKinds := [.data, .data], laidTests := true, laidLooks := .later }
def FlowLevelsCardSaid : Prop := Claim7.holds Tryd.pinned (.plain (OpenSpec.ofChange flowLevelsSpec)) flowLevelsCard

/-- THE TIED CARD OF 'quietwinglaw3.FlowQuiet'. -/
def flowQuietCard : Claim7 := { stood := { row := flowQuietRow, standIns := [], harness := (true, "a9e87996930f0e189fcc3104e2f7be5198ce510d5ac7a4af94acaf69e794caf2"), looks := true }, kinds := [], alts := [], laidByText := true, laidKinds := [.data, .data], laidTests := true, laidLooks := .later }
def FlowQuietCardSaid : Prop := Claim7.holds Tryd.pinned (.plain (OpenSpec.ofChange flowQuietSpec)) flowQuietCard

/-- THE TIED CARD OF 'quietwinglaw3.FlowFrom'. -/
def flowFromCard : Claim7 := { stood := { row := flowFromRow, standIns := [], harness := (true, "a9e87996930f0e189fcc3104e2f7be5198ce510d5ac7a4af94acaf69e794caf2"), looks := true }, kinds := [], alts := [], laidByText := true, laidKinds := [.data, .data], laidTests := true, laidLooks := .later }
def FlowFromCardSaid : Prop := Claim7.holds Tryd.pinned (.plain (OpenSpec.ofChange flowFromSpec)) flowFromCard

/-- THE TIED CARD OF 'quietwinglaw3.RunSays'. -/
def runSaysCard : Claim7 := { stood := { row := runSaysRow, standIns := [], harness := (true, "a9e87996930f0e189fcc3104e2f7be5198ce510d5ac7a4af94acaf69e794caf2"), looks := true }, kinds := [], alts := [], laidByText := true, laidKinds := [.handle], laidTests := true, laidLooks := .later }
def RunSaysCardSaid : Prop := Claim7.holds Tryd.pinned (.plain (OpenSpec.ofChange runSaysSpec)) runSaysCard

/-- THE TIED CARD OF 'quietwinglaw3.FlowLeast'. -/
def flowLeastCard : Claim7 := { stood := { row := flowLeastRow, standIns := [], harness := (true, "a9e87996930f0e189fcc3104e2f7be5198ce510d5ac7a4af94acaf69e794caf2"), looks := true }, kinds := [], alts := [], laidByText := true, laidKinds := [.data, .data, .handle], laidTests := true, laidLooks := .later }
def FlowLeastCardSaid : Prop := Claim7.holds Tryd.pinned (.plain (OpenSpec.ofChange flowLeastSpec)) flowLeastCard

/-- THE TIED CARD OF 'quietwinglaw3.FlowSays'. -/
def flowSaysCard : Claim7 := { stood := { row := flowSaysRow, standIns := [], harness := (true, "a9e87996930f0e189fcc3104e2f7be5198ce510d5ac7a4af94acaf69e794caf2"), looks := true }, kinds := [], alts := [], laidByText := true, laidKinds := [.data, .data, .handle], laidTests := true, laidLooks := .later }
def FlowSaysCardSaid : Prop := Claim7.holds Tryd.pinned (.plain (OpenSpec.ofChange flowSaysSpec)) flowSaysCard

/-- THE SECOND FORM's CARD OF 'quietwinglaw3.FlowLevels'. -/
def flowLevelsUptoCard : Claim7 := { stood := { row := flowLevelsUptoRow, standIns := [], harness := (true, "a9e87996930f0e189fcc3104e2f7be5198ce510d5ac7a4af94acaf69e794caf2"), looks := true }, kinds := [], alts := [], laidByText := true, laidKinds := [.data, .data], laidTests := true, laidLooks := .later }
def FlowLevelsUptoCardSaid : Prop := Claim7.holds Tryd.pinned (.plain (OpenSpec.upto flowLevelsSpec)) flowLevelsUptoCard

/-- THE SECOND FORM's CARD OF 'quietwinglaw3.FlowQuiet'. -/
def flowQuietUptoCard : Claim7 := { stood := { row := flowQuietUptoRow, standIns := [], harness := (true, "a9e87996930f0e189fcc3104e2f7be5198ce510d5ac7a4af94acaf69e794caf2"), looks := true }, kinds := [], alts := [], laidByText := true, laidKinds := [.data, .data], laidTests := true, laidLooks := .later }
def FlowQuietUptoCardSaid : Prop := Claim7.holds Tryd.pinned (.plain (OpenSpec.upto flowQuietSpec)) flowQuietUptoCard

/-- THE SECOND FORM's CARD OF 'quietwinglaw3.FlowFrom'. -/
def flowFromUptoCard : Claim7 := { stood := { row := flowFromUptoRow, standIns := [], harness := (true, "a9e87996930f0e189fcc3104e2f7be5198ce510d5ac7a4af94acaf69e794caf2"), looks := true }, kinds := [], alts := [], laidByText := true, laidKinds := [.data, .data], laidTests := true, laidLooks := .later }
def FlowFromUptoCardSaid : Prop := Claim7.holds Tryd.pinned (.plain (OpenSpec.upto flowFromSpec)) flowFromUptoCard

/-- THE SECOND FORM's CARD OF 'quietwinglaw3.RunSays'. -/
def runSaysUptoCard : Claim7 := { stood := { row := runSaysUptoRow, standIns := [], harness := (true, "a9e87996930f0e189fcc3104e2f7be5198ce510d5ac7a4af94acaf69e794caf2"), looks := true }, kinds := [], alts := [], laidByText := true, laidKinds := [.handle], laidTests := true, laidLooks := .later }
def RunSaysUptoCardSaid : Prop := Claim7.holds Tryd.pinned (.plain (OpenSpec.upto runSaysSpec)) runSaysUptoCard

/-- THE SECOND FORM's CARD OF 'quietwinglaw3.FlowLeast'. -/
def flowLeastUptoCard : Claim7 := { stood := { row := flowLeastUptoRow, standIns := [], harness := (true, "a9e87996930f0e189fcc3104e2f7be5198ce510d5ac7a4af94acaf69e794caf2"), looks := true }, kinds := [], alts := [], laidByText := true, laidKinds := [.data, .data, .handle], laidTests := true, laidLooks := .later }
def FlowLeastUptoCardSaid : Prop := Claim7.holds Tryd.pinned (.plain (OpenSpec.upto flowLeastSpec)) flowLeastUptoCard

/-- THE SECOND FORM's CARD OF 'quietwinglaw3.FlowSays'. -/
def flowSaysUptoCard : Claim7 := { stood := { row := flowSaysUptoRow, standIns := [], harness := (true, "a9e87996930f0e189fcc3104e2f7be5198ce510d5ac7a4af94acaf69e794caf2"), looks := true }, kinds := [], alts := [], laidByText := true, laidKinds := [.data, .data, .handle], laidTests := true, laidLooks := .later }
def FlowSaysUptoCardSaid : Prop := Claim7.holds Tryd.pinned (.plain (OpenSpec.upto flowSaysSpec)) flowSaysUptoCard
end Rows
end Go.Proofs.YthaaekpnemhjoaaDoor
