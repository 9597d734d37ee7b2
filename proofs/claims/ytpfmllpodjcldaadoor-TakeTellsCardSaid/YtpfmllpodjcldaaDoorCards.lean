/-
  DERIVED. GIVEN WITH THE SEED: THE CARDS: each row of YtpfmllpodjcldaaDoorRows.lean that lists a variable, with what it lists TIED to the program's text (the seventh form; the later family's looks); each row that meets fmt, with fmt's text TOLD by the authors' own Lean function (tested against real Go, not proved from fmt's source: count such statements apart). THE CARD IS WHAT COUNTS. Prove the row's statement (the work); the ties are given (YtpfmllpodjcldaaDoorTie.lean); close each card by the builder's one call (the guide's Derived/Test/ToyasCard.lean, 'card_holds'). Laid BY PROGRAM, IN A SANDBOX (cutbox-door.mjs). By AI agents, Wed Nov 11 2026. No macro, syntax, notation, axiom, sorry.
-/
import Derived.Test.YtpfmllpodjcldaaDoorRows
import GoSem.ClaimSeven
namespace Go.Proofs.YtpfmllpodjcldaaDoor
namespace Rows

/-- THE TIED CARD OF 'quietwinglaw2.TakeSays'. -/
def takeSaysCard : Claim7 := { stood := { row := takeSaysRow, standIns := [], harness := (true, "51edc77e733c60124d7eea04d0af92941615c69cc7de727a273cf7f917ed30b9"), looks := true }, kinds := [], alts := [], laidByText := true, laidKinds := [.handle], laidTests := true, laidLooks := .later }
def TakeSaysCardSaid : Prop := Claim7.holds Tryd.pinned (.plain (OpenSpec.ofChange takeSaysSpec)) takeSaysCard

/-- THE TIED CARD OF 'quietwinglaw2.TakeTells'. -/
def takeTellsCard : Claim7 := { stood := { row := takeTellsRow, standIns := [], harness := (true, "51edc77e733c60124d7eea04d0af92941615c69cc7de727a273cf7f917ed30b9"), looks := true }, kinds := [], alts := [], laidByText := true, laidKinds := [.handle], laidTests := true, laidLooks := .later }
def TakeTellsCardSaid : Prop := Claim7.holds Tryd.pinned (.plain (OpenSpec.ofChange takeTellsSpec)) takeTellsCard

/-- THE TIED CARD OF 'quietwinglaw2.RolesSays'. -/
def rolesSaysCard : Claim7 := { stood := { row := rolesSaysRow, standIns := [], harness := (true, "51edc77e733c60124d7eea04d0af92941615c69cc7de727a273cf7f917ed30b9"), looks := true }, kinds := [], alts := [], laidByText := true, laidKinds := [.data, .data, .handle], laidTests := true, laidLooks := .later }
def RolesSaysCardSaid : Prop := Claim7.holds Tryd.pinned (.plain (OpenSpec.ofChange rolesSaysSpec)) rolesSaysCard

/-- THE TIED CARD OF 'quietwinglaw2.TakePlan'. -/
def takePlanCard : Claim7 := { stood := { row := takePlanRow, standIns := [], harness := (true, "51edc77e733c60124d7eea04d0af92941615c69cc7de727a273cf7f917ed30b9"), looks := true }, kinds := [], alts := [], laidByText := true, laidKinds := [.handle], laidTests := true, laidLooks := .later }
def TakePlanCardSaid : Prop := Claim7.holds Tryd.pinned (.plain (OpenSpec.ofChange takePlanSpec)) takePlanCard

/-- THE SECOND FORM's CARD OF 'quietwinglaw2.TakeSays'. -/
def takeSaysUptoCard : Claim7 := { stood := { row := takeSaysUptoRow, standIns := [], harness := (true, "51edc77e733c60124d7eea04d0af92941615c69cc7de727a273cf7f917ed30b9"), looks := true }, kinds := [], alts := [], laidByText := true, laidKinds := [.handle], laidTests := true, laidLooks := .later }
def TakeSaysUptoCardSaid : Prop := Claim7.holds Tryd.pinned (.plain (OpenSpec.upto takeSaysSpec)) takeSaysUptoCard

/-- THE SECOND FORM's CARD OF 'quietwinglaw2.TakeTells'. -/
def takeTellsUptoCard : Claim7 := { stood := { row := takeTellsUptoRow, standIns := [], harness := (true, "51edc77e733c60124d7eea04d0af92941615c69cc7de727a273cf7f917ed30b9"), looks := true }, kinds := [], alts := [], laidByText := true, laidKinds := [.handle], laidTests := true, laidLooks := .later }
def TakeTellsUptoCardSaid : Prop := Claim7.holds Tryd.pinned (.plain (OpenSpec.upto takeTellsSpec)) takeTellsUptoCard

/-- THE SECOND FORM's CARD OF 'quietwinglaw2.RolesSays'. -/
def rolesSaysUptoCard : Claim7 := { stood := { row := rolesSaysUptoRow, standIns := [], harness := (true, "51edc77e733c60124d7eea04d0af92941615c69cc7de727a273cf7f917ed30b9"), looks := true }, kinds := [], alts := [], laidByText := true, laidKinds := [.data, .data, .handle], laidTests := true, laidLooks := .later }
def RolesSaysUptoCardSaid : Prop := Claim7.holds Tryd.pinned (.plain (OpenSpec.upto rolesSaysSpec)) rolesSaysUptoCard

/-- THE SECOND FORM's CARD OF 'quietwinglaw2.TakePlan'. -/
def takePlanUptoCard : Claim7 := { stood := { row := takePlanUptoRow, standIns := [], harness := (true, "51edc77e733c60124d7eea04d0af92941615c69cc7de727a273cf7f917ed30b9"), looks := true }, kinds := [], alts := [], laidByText := true, laidKinds := [.handle], laidTests := true, laidLooks := .later }
def TakePlanUptoCardSaid : Prop := Claim7.holds Tryd.pinned (.plain (OpenSpec.upto takePlanSpec)) takePlanUptoCard
end Rows
end Go.Proofs.YtpfmllpodjcldaaDoor
