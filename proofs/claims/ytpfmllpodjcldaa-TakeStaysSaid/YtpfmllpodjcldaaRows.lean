/-
  No cell of these rows narrows 'for every input' (looked for: loops, veiled, ifaces, maps, wideKeys, modest, calm, conditions, laid).
  DERIVED. THE GIVEN ROWS OF THIS SEAT. 2 by the template 'for every input the law returns true; each argument reads behind the call as it read before'; 0 by the template 'total and deterministic' (their statements: YtpfmllpodjcldaaTotals.lean).
  GIVEN WITH THE SEED: the statements are not yours to turn. If you find one false, say at which input.
  Laid BY PROGRAM, IN A SANDBOX (cutbox-rows.mjs): the forced cells as the released guide's own fill.sh prints them over the translation 186a1f43e020f803… (all of the seat's roots in one cut). By AI agents, Wed Nov 11 2026. No macro, syntax, notation, axiom, sorry.
-/
import Derived.Test.YtpfmllpodjcldaaChecked
import GoSem.Claim
import GoSem.ClaimJoined
import GoSem.ClaimMapViews
import Derived.JoinedTies
import Derived.KernelRfl
namespace Go.Proofs.Ytpfmllpodjcldaa
/- THE CELL 'sum', in the pinned program and in every row, IS THE sha256 OF THE DUMP (.gsa) THAT YtpfmllpodjcldaaProg.lean LOADS. Nothing in Lean hashes anything: it is a label: what it is worth is what the hold of that sum in a sandbox is worth. -/
noncomputable def Try.pinned : Pinned := { name := "ytpfmllpodjcldaa", sum := "186a1f43e020f803c3dbb9d47c789d732c89d857c49ffc7a4726d03e948a2e34", checked := Try.checked }
namespace Rows
def none {H : Type} : Left H := { results := [], args := [] }

/-- 'quietwinglaw2.TakeSound': WHATEVER THE INPUT: true; the input reads as it did. -/
def takeSoundSpec : ChangeSpec := { name := "takeSound", fn := fun _ => fun
  | [d1, d2, d3, d4, d5] => { results := [.lit (.bool true)], args := [d1, d2, d3, d4, d5] }
  | _ => none }
def takeSoundRow : OpenClaim := { program := "ytpfmllpodjcldaa", sum := "186a1f43e020f803c3dbb9d47c789d732c89d857c49ffc7a4726d03e948a2e34", func := "quietwing/quietwinglaw2.TakeSound", spec := "takeSound", apart := false }
def TakeSoundSaid : Prop := takeSoundRow.holds Try.pinned (OpenSpec.ofChange takeSoundSpec)

/-- ITS FALSE NEIGHBOUR: 'it returns false'. Refute it at one input. -/
def takeSoundWrong : ChangeSpec := { name := "takeSound", fn := fun _ => fun
  | [d1, d2, d3, d4, d5] => { results := [.lit (.bool false)], args := [d1, d2, d3, d4, d5] }
  | _ => none }
def TakeSoundWrongFalsely : Prop := takeSoundRow.holds Try.pinned (OpenSpec.ofChange takeSoundWrong)

/-- 'quietwinglaw2.TakeStays': WHATEVER THE INPUT: true; the input reads as it did. -/
def takeStaysSpec : ChangeSpec := { name := "takeStays", fn := fun _ => fun
  | [d1, d2, d3, d4, d5] => { results := [.lit (.bool true)], args := [d1, d2, d3, d4, d5] }
  | _ => none }
def takeStaysRow : OpenClaim := { program := "ytpfmllpodjcldaa", sum := "186a1f43e020f803c3dbb9d47c789d732c89d857c49ffc7a4726d03e948a2e34", func := "quietwing/quietwinglaw2.TakeStays", spec := "takeStays", apart := false }
def TakeStaysSaid : Prop := takeStaysRow.holds Try.pinned (OpenSpec.ofChange takeStaysSpec)

/-- ITS FALSE NEIGHBOUR: 'it returns false'. Refute it at one input. -/
def takeStaysWrong : ChangeSpec := { name := "takeStays", fn := fun _ => fun
  | [d1, d2, d3, d4, d5] => { results := [.lit (.bool false)], args := [d1, d2, d3, d4, d5] }
  | _ => none }
def TakeStaysWrongFalsely : Prop := takeStaysRow.holds Try.pinned (OpenSpec.ofChange takeStaysWrong)

/- THE SECOND FORM. 'bulk': how many values and letters a reading holds, each counted each time it is reached (what is shared counts as often as it is met; a slice's spare places count too). A statement '..UptoSaid' is the law's where the arguments, and the package variables that the reading takes, are together of bulk at most 1048576: NARROWER than '..Said'. Prove '..Said' where nothing that the law and all that it calls make is longer than what came in: it says more and counts as full. Else prove '..UptoSaid'. A law counts once. -/
mutual
def uptoBulk {H : Type} : DataW H → Nat
  | .lit (.string bytes) => bytes.length + 1
  | .lit _ => 1
  | .nil => 1
  | .ptr d => uptoBulk d + 1
  | .slice elems spare => uptoBulkAll elems + uptoBulkAll spare + 1
  | .agg parts => uptoBulkAll parts + 1
  | .iface _ d => uptoBulk d + 1
  | .map entries => uptoBulkEntries entries + 1
  | .held _ => 1
def uptoBulkAll {H : Type} : List (DataW H) → Nat
  | [] => 0
  | d :: r => uptoBulk d + uptoBulkAll r
def uptoBulkEntries {H : Type} : List (Lit × DataW H) → Nat
  | [] => 0
  | x :: r => uptoBulkEntry x + uptoBulkEntries r
def uptoBulkEntry {H : Type} : Lit × DataW H → Nat
  | (.string bytes, d) => bytes.length + uptoBulk d + 1
  | (_, d) => uptoBulk d + 1
 end
def uptoSmall : (H : Type) → List (DataW H) → Bool := fun _ ds => decide (uptoBulkAll ds ≤ 1048576)
def OpenSpec.upto (s : _root_.Go.ChangeSpec) : _root_.Go.OpenSpec := { _root_.Go.OpenSpec.ofChange s with cond := some uptoSmall }

/-- 'quietwinglaw2.TakeSound', WHERE WHAT IT READS IS OF BULK AT MOST 1048576: true; the input reads as it did. -/
def takeSoundUptoRow : OpenClaim := { program := "ytpfmllpodjcldaa", sum := "186a1f43e020f803c3dbb9d47c789d732c89d857c49ffc7a4726d03e948a2e34", func := "quietwing/quietwinglaw2.TakeSound", spec := "takeSound", apart := false, narrowed := true }
def TakeSoundUptoSaid : Prop := takeSoundUptoRow.holds Try.pinned (OpenSpec.upto takeSoundSpec)

/-- 'quietwinglaw2.TakeStays', WHERE WHAT IT READS IS OF BULK AT MOST 1048576: true; the input reads as it did. -/
def takeStaysUptoRow : OpenClaim := { program := "ytpfmllpodjcldaa", sum := "186a1f43e020f803c3dbb9d47c789d732c89d857c49ffc7a4726d03e948a2e34", func := "quietwing/quietwinglaw2.TakeStays", spec := "takeStays", apart := false, narrowed := true }
def TakeStaysUptoSaid : Prop := takeStaysUptoRow.holds Try.pinned (OpenSpec.upto takeStaysSpec)

end Rows
end Go.Proofs.Ytpfmllpodjcldaa
