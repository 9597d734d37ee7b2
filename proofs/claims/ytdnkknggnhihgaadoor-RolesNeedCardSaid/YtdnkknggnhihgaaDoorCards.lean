/-
  DERIVED. GIVEN WITH THE SEED: THE CARDS: each row of YtdnkknggnhihgaaDoorRows.lean that lists a variable, with what it lists TIED to the program's text (the seventh form; the later family's looks); each row that meets fmt, with fmt's text TOLD by the authors' own Lean function (tested against real Go, not proved from fmt's source: count such statements apart). THE CARD IS WHAT COUNTS. Prove the row's statement (the work); the ties are given (YtdnkknggnhihgaaDoorTie.lean); close each card by the builder's one call (the guide's Derived/Test/ToyasCard.lean, 'card_holds'). Laid BY PROGRAM, IN A SANDBOX (cutbox-door.mjs). By AI agents, Wed Nov 11 2026. No macro, syntax, notation, axiom, sorry.
-/
import Derived.Test.YtdnkknggnhihgaaDoorRows
import GoSem.ClaimSeven
namespace Go.Proofs.YtdnkknggnhihgaaDoor
namespace Rows

/-- THE TIED CARD OF 'quietwinglaw2.RolesAbove'. -/
def rolesAboveCard : Claim7 := { stood := { row := rolesAboveRow, standIns := [], harness := (true, "8d1ec54aecb1f4dd1d821c6ae61b0548c4548ebc7d3c922797d44da7ae1b7ab4"), looks := true }, kinds := [], alts := [], laidByText := true, laidKinds := [.data, .data], laidTests := true, laidLooks := .later }
def RolesAboveCardSaid : Prop := Claim7.holds Tryd.pinned (.plain (OpenSpec.ofChange rolesAboveSpec)) rolesAboveCard

/-- THE TIED CARD OF 'quietwinglaw2.RolesFew'. -/
def rolesFewCard : Claim7 := { stood := { row := rolesFewRow, standIns := [], harness := (true, "8d1ec54aecb1f4dd1d821c6ae61b0548c4548ebc7d3c922797d44da7ae1b7ab4"), looks := true }, kinds := [], alts := [], laidByText := true, laidKinds := [.data, .data], laidTests := true, laidLooks := .later }
def RolesFewCardSaid : Prop := Claim7.holds Tryd.pinned (.plain (OpenSpec.ofChange rolesFewSpec)) rolesFewCard

/-- THE TIED CARD OF 'quietwinglaw2.RolesNeed'. -/
def rolesNeedCard : Claim7 := { stood := { row := rolesNeedRow, standIns := [], harness := (true, "8d1ec54aecb1f4dd1d821c6ae61b0548c4548ebc7d3c922797d44da7ae1b7ab4"), looks := true }, kinds := [], alts := [], laidByText := true, laidKinds := [.data, .data], laidTests := true, laidLooks := .later }
def RolesNeedCardSaid : Prop := Claim7.holds Tryd.pinned (.plain (OpenSpec.ofChange rolesNeedSpec)) rolesNeedCard

/-- THE TIED CARD OF 'quietwinglaw2.TakeSays'. -/
def takeSaysCard : Claim7 := { stood := { row := takeSaysRow, standIns := [], harness := (true, "8d1ec54aecb1f4dd1d821c6ae61b0548c4548ebc7d3c922797d44da7ae1b7ab4"), looks := true }, kinds := [], alts := [], laidByText := true, laidKinds := [.handle], laidTests := true, laidLooks := .later }
def TakeSaysCardSaid : Prop := Claim7.holds Tryd.pinned (.plain (OpenSpec.ofChange takeSaysSpec)) takeSaysCard

/-- THE TIED CARD OF 'quietwinglaw2.GrantLeft'. -/
def grantLeftCard : Claim7 := { stood := { row := grantLeftRow, standIns := [], harness := (true, "8d1ec54aecb1f4dd1d821c6ae61b0548c4548ebc7d3c922797d44da7ae1b7ab4"), looks := true }, kinds := [], alts := [], laidByText := true, laidKinds := [.handle], laidTests := true, laidLooks := .later }
def GrantLeftCardSaid : Prop := Claim7.holds Tryd.pinned (.plain (OpenSpec.ofChange grantLeftSpec)) grantLeftCard

/-- THE TIED CARD OF 'quietwinglaw2.GrantOrder'. -/
def grantOrderCard : Claim7 := { stood := { row := grantOrderRow, standIns := [], harness := (true, "8d1ec54aecb1f4dd1d821c6ae61b0548c4548ebc7d3c922797d44da7ae1b7ab4"), looks := true }, kinds := [], alts := [], laidByText := true, laidKinds := [.handle], laidTests := true, laidLooks := .later }
def GrantOrderCardSaid : Prop := Claim7.holds Tryd.pinned (.plain (OpenSpec.ofChange grantOrderSpec)) grantOrderCard

/-- THE TIED CARD OF 'quietwinglaw2.GrantSays'. -/
def grantSaysCard : Claim7 := { stood := { row := grantSaysRow, standIns := [], harness := (true, "8d1ec54aecb1f4dd1d821c6ae61b0548c4548ebc7d3c922797d44da7ae1b7ab4"), looks := true }, kinds := [], alts := [], laidByText := true, laidKinds := [.handle], laidTests := true, laidLooks := .later }
def GrantSaysCardSaid : Prop := Claim7.holds Tryd.pinned (.plain (OpenSpec.ofChange grantSaysSpec)) grantSaysCard

/-- THE TIED CARD OF 'quietwinglaw2.GrantPath'. -/
def grantPathCard : Claim7 := { stood := { row := grantPathRow, standIns := [], harness := (true, "8d1ec54aecb1f4dd1d821c6ae61b0548c4548ebc7d3c922797d44da7ae1b7ab4"), looks := true }, kinds := [], alts := [], laidByText := true, laidKinds := [.handle], laidTests := true, laidLooks := .later }
def GrantPathCardSaid : Prop := Claim7.holds Tryd.pinned (.plain (OpenSpec.ofChange grantPathSpec)) grantPathCard

/-- THE TIED CARD OF 'quietwinglaw2.TakeTells'. -/
def takeTellsCard : Claim7 := { stood := { row := takeTellsRow, standIns := [], harness := (true, "8d1ec54aecb1f4dd1d821c6ae61b0548c4548ebc7d3c922797d44da7ae1b7ab4"), looks := true }, kinds := [], alts := [], laidByText := true, laidKinds := [.handle], laidTests := true, laidLooks := .later }
def TakeTellsCardSaid : Prop := Claim7.holds Tryd.pinned (.plain (OpenSpec.ofChange takeTellsSpec)) takeTellsCard

/-- THE TIED CARD OF 'quietwinglaw2.RolesSays'. -/
def rolesSaysCard : Claim7 := { stood := { row := rolesSaysRow, standIns := [], harness := (true, "8d1ec54aecb1f4dd1d821c6ae61b0548c4548ebc7d3c922797d44da7ae1b7ab4"), looks := true }, kinds := [], alts := [], laidByText := true, laidKinds := [.data, .data, .handle], laidTests := true, laidLooks := .later }
def RolesSaysCardSaid : Prop := Claim7.holds Tryd.pinned (.plain (OpenSpec.ofChange rolesSaysSpec)) rolesSaysCard

/-- THE TIED CARD OF 'quietwinglaw2.TakePlan'. -/
def takePlanCard : Claim7 := { stood := { row := takePlanRow, standIns := [], harness := (true, "8d1ec54aecb1f4dd1d821c6ae61b0548c4548ebc7d3c922797d44da7ae1b7ab4"), looks := true }, kinds := [], alts := [], laidByText := true, laidKinds := [.handle], laidTests := true, laidLooks := .later }
def TakePlanCardSaid : Prop := Claim7.holds Tryd.pinned (.plain (OpenSpec.ofChange takePlanSpec)) takePlanCard

/-- THE SECOND FORM's CARD OF 'quietwinglaw2.RolesAbove'. -/
def rolesAboveUptoCard : Claim7 := { stood := { row := rolesAboveUptoRow, standIns := [], harness := (true, "8d1ec54aecb1f4dd1d821c6ae61b0548c4548ebc7d3c922797d44da7ae1b7ab4"), looks := true }, kinds := [], alts := [], laidByText := true, laidKinds := [.data, .data], laidTests := true, laidLooks := .later }
def RolesAboveUptoCardSaid : Prop := Claim7.holds Tryd.pinned (.plain (OpenSpec.upto rolesAboveSpec)) rolesAboveUptoCard

/-- THE SECOND FORM's CARD OF 'quietwinglaw2.RolesFew'. -/
def rolesFewUptoCard : Claim7 := { stood := { row := rolesFewUptoRow, standIns := [], harness := (true, "8d1ec54aecb1f4dd1d821c6ae61b0548c4548ebc7d3c922797d44da7ae1b7ab4"), looks := true }, kinds := [], alts := [], laidByText := true, laidKinds := [.data, .data], laidTests := true, laidLooks := .later }
def RolesFewUptoCardSaid : Prop := Claim7.holds Tryd.pinned (.plain (OpenSpec.upto rolesFewSpec)) rolesFewUptoCard

/-- THE SECOND FORM's CARD OF 'quietwinglaw2.RolesNeed'. -/
def rolesNeedUptoCard : Claim7 := { stood := { row := rolesNeedUptoRow, standIns := [], harness := (true, "8d1ec54aecb1f4dd1d821c6ae61b0548c4548ebc7d3c922797d44da7ae1b7ab4"), looks := true }, kinds := [], alts := [], laidByText := true, laidKinds := [.data, .data], laidTests := true, laidLooks := .later }
def RolesNeedUptoCardSaid : Prop := Claim7.holds Tryd.pinned (.plain (OpenSpec.upto rolesNeedSpec)) rolesNeedUptoCard

/-- THE SECOND FORM's CARD OF 'quietwinglaw2.TakeSays'. -/
def takeSaysUptoCard : Claim7 := { stood := { row := takeSaysUptoRow, standIns := [], harness := (true, "8d1ec54aecb1f4dd1d821c6ae61b0548c4548ebc7d3c922797d44da7ae1b7ab4"), looks := true }, kinds := [], alts := [], laidByText := true, laidKinds := [.handle], laidTests := true, laidLooks := .later }
def TakeSaysUptoCardSaid : Prop := Claim7.holds Tryd.pinned (.plain (OpenSpec.upto takeSaysSpec)) takeSaysUptoCard

/-- THE SECOND FORM's CARD OF 'quietwinglaw2.GrantLeft'. -/
def grantLeftUptoCard : Claim7 := { stood := { row := grantLeftUptoRow, standIns := [], harness := (true, "8d1ec54aecb1f4dd1d821c6ae61b0548c4548ebc7d3c922797d44da7ae1b7ab4"), looks := true }, kinds := [], alts := [], laidByText := true, laidKinds := [.handle], laidTests := true, laidLooks := .later }
def GrantLeftUptoCardSaid : Prop := Claim7.holds Tryd.pinned (.plain (OpenSpec.upto grantLeftSpec)) grantLeftUptoCard

/-- THE SECOND FORM's CARD OF 'quietwinglaw2.GrantOrder'. -/
def grantOrderUptoCard : Claim7 := { stood := { row := grantOrderUptoRow, standIns := [], harness := (true, "8d1ec54aecb1f4dd1d821c6ae61b0548c4548ebc7d3c922797d44da7ae1b7ab4"), looks := true }, kinds := [], alts := [], laidByText := true, laidKinds := [.handle], laidTests := true, laidLooks := .later }
def GrantOrderUptoCardSaid : Prop := Claim7.holds Tryd.pinned (.plain (OpenSpec.upto grantOrderSpec)) grantOrderUptoCard

/-- THE SECOND FORM's CARD OF 'quietwinglaw2.GrantSays'. -/
def grantSaysUptoCard : Claim7 := { stood := { row := grantSaysUptoRow, standIns := [], harness := (true, "8d1ec54aecb1f4dd1d821c6ae61b0548c4548ebc7d3c922797d44da7ae1b7ab4"), looks := true }, kinds := [], alts := [], laidByText := true, laidKinds := [.handle], laidTests := true, laidLooks := .later }
def GrantSaysUptoCardSaid : Prop := Claim7.holds Tryd.pinned (.plain (OpenSpec.upto grantSaysSpec)) grantSaysUptoCard

/-- THE SECOND FORM's CARD OF 'quietwinglaw2.GrantPath'. -/
def grantPathUptoCard : Claim7 := { stood := { row := grantPathUptoRow, standIns := [], harness := (true, "8d1ec54aecb1f4dd1d821c6ae61b0548c4548ebc7d3c922797d44da7ae1b7ab4"), looks := true }, kinds := [], alts := [], laidByText := true, laidKinds := [.handle], laidTests := true, laidLooks := .later }
def GrantPathUptoCardSaid : Prop := Claim7.holds Tryd.pinned (.plain (OpenSpec.upto grantPathSpec)) grantPathUptoCard

/-- THE SECOND FORM's CARD OF 'quietwinglaw2.TakeTells'. -/
def takeTellsUptoCard : Claim7 := { stood := { row := takeTellsUptoRow, standIns := [], harness := (true, "8d1ec54aecb1f4dd1d821c6ae61b0548c4548ebc7d3c922797d44da7ae1b7ab4"), looks := true }, kinds := [], alts := [], laidByText := true, laidKinds := [.handle], laidTests := true, laidLooks := .later }
def TakeTellsUptoCardSaid : Prop := Claim7.holds Tryd.pinned (.plain (OpenSpec.upto takeTellsSpec)) takeTellsUptoCard

/-- THE SECOND FORM's CARD OF 'quietwinglaw2.RolesSays'. -/
def rolesSaysUptoCard : Claim7 := { stood := { row := rolesSaysUptoRow, standIns := [], harness := (true, "8d1ec54aecb1f4dd1d821c6ae61b0548c4548ebc7d3c922797d44da7ae1b7ab4"), looks := true }, kinds := [], alts := [], laidByText := true, laidKinds := [.data, .data, .handle], laidTests := true, laidLooks := .later }
def RolesSaysUptoCardSaid : Prop := Claim7.holds Tryd.pinned (.plain (OpenSpec.upto rolesSaysSpec)) rolesSaysUptoCard

/-- THE SECOND FORM's CARD OF 'quietwinglaw2.TakePlan'. -/
def takePlanUptoCard : Claim7 := { stood := { row := takePlanUptoRow, standIns := [], harness := (true, "8d1ec54aecb1f4dd1d821c6ae61b0548c4548ebc7d3c922797d44da7ae1b7ab4"), looks := true }, kinds := [], alts := [], laidByText := true, laidKinds := [.handle], laidTests := true, laidLooks := .later }
def TakePlanUptoCardSaid : Prop := Claim7.holds Tryd.pinned (.plain (OpenSpec.upto takePlanSpec)) takePlanUptoCard
end Rows
end Go.Proofs.YtdnkknggnhihgaaDoor
