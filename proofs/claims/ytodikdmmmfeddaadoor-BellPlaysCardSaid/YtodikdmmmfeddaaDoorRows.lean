/-
  NARROWER THAN 'FOR EVERY INPUT', by the rows' own cells (each row's printed sentence says how): BibaSinks: laid · BibaPure: laid · BibaPlays: laid · WallRivals: laid · WallMany: laid · WallHolds: laid · WallPlays: laid · BellFlows: laid · BellSecure: laid · BellDrop: laid · BellPlays: laid.
  DERIVED. THE GIVEN ROWS OF THIS SEAT. 11 by the template 'for every input the law returns true; each argument reads behind the call as it read before'; 0 by the template 'total and deterministic' (their statements: YtodikdmmmfeddaaDoorTotals.lean).
  GIVEN WITH THE SEED: the statements are not yours to turn. If you find one false, say at which input.
  Laid BY PROGRAM, IN A SANDBOX (cutbox-rows.mjs): the forced cells as the released guide's own fill.sh prints them over the translation 85ef6817df941708… (all of the seat's roots in one cut). By AI agents, Wed Nov 11 2026. No macro, syntax, notation, axiom, sorry.
-/
import Derived.Test.YtodikdmmmfeddaaDoorChecked
import GoSem.Claim
import GoSem.ClaimJoined
import GoSem.ClaimMapViews
import Derived.JoinedTies
import Derived.KernelRfl
namespace Go.Proofs.YtodikdmmmfeddaaDoor
/- THE CELL 'sum', in the pinned program and in every row, IS THE sha256 OF THE DUMP (.gsa) THAT YtodikdmmmfeddaaDoorProg.lean LOADS. Nothing in Lean hashes anything: it is a label: what it is worth is what the hold of that sum in a sandbox is worth. -/
noncomputable def Tryd.pinned : Pinned := { name := "ytodikdmmmfeddaadoor", sum := "85ef6817df94170802b88e0971fd25c2cad7e4c1dacab67469ac251880ea493c", checked := Tryd.checked }
namespace Rows
def none {H : Type} : Left H := { results := [], args := [] }

/- WHAT THE LISTED PACKAGE-LEVEL VARIABLES READ AS WHEN THE CALL BEGINS. Each datum BY PROGRAM (the guide's laid-datum.mjs) off the statement by which the dump's own 'gosem.cut.vars' lays the variable. In a bare row this is a premise. The card (YtodikdmmmfeddaaDoorCards.lean) ties it to the program's text. -/
def laid_errors_errorType {H : Type} : DataW H := .iface "internal/reflectlite.rtype" (.agg [.ptr (.lit (.string [101, 114, 114, 111, 114]))])
def laid_math_bits_deBruijn32tab {H : Type} : DataW H := .agg [.lit (.int .u8 0), .lit (.int .u8 1), .lit (.int .u8 28), .lit (.int .u8 2), .lit (.int .u8 29), .lit (.int .u8 14), .lit (.int .u8 24), .lit (.int .u8 3), .lit (.int .u8 30), .lit (.int .u8 22), .lit (.int .u8 20), .lit (.int .u8 15), .lit (.int .u8 25), .lit (.int .u8 17), .lit (.int .u8 4), .lit (.int .u8 8), .lit (.int .u8 31), .lit (.int .u8 27), .lit (.int .u8 13), .lit (.int .u8 23), .lit (.int .u8 21), .lit (.int .u8 19), .lit (.int .u8 16), .lit (.int .u8 7), .lit (.int .u8 26), .lit (.int .u8 12), .lit (.int .u8 18), .lit (.int .u8 6), .lit (.int .u8 11), .lit (.int .u8 5), .lit (.int .u8 10), .lit (.int .u8 9)]
def laid_math_bits_deBruijn64tab {H : Type} : DataW H := .agg [.lit (.int .u8 0), .lit (.int .u8 1), .lit (.int .u8 56), .lit (.int .u8 2), .lit (.int .u8 57), .lit (.int .u8 49), .lit (.int .u8 28), .lit (.int .u8 3), .lit (.int .u8 61), .lit (.int .u8 58), .lit (.int .u8 42), .lit (.int .u8 50), .lit (.int .u8 38), .lit (.int .u8 29), .lit (.int .u8 17), .lit (.int .u8 4), .lit (.int .u8 62), .lit (.int .u8 47), .lit (.int .u8 59), .lit (.int .u8 36), .lit (.int .u8 45), .lit (.int .u8 43), .lit (.int .u8 51), .lit (.int .u8 22), .lit (.int .u8 53), .lit (.int .u8 39), .lit (.int .u8 33), .lit (.int .u8 30), .lit (.int .u8 24), .lit (.int .u8 18), .lit (.int .u8 12), .lit (.int .u8 5), .lit (.int .u8 63), .lit (.int .u8 55), .lit (.int .u8 48), .lit (.int .u8 27), .lit (.int .u8 60), .lit (.int .u8 41), .lit (.int .u8 37), .lit (.int .u8 16), .lit (.int .u8 46), .lit (.int .u8 35), .lit (.int .u8 44), .lit (.int .u8 21), .lit (.int .u8 52), .lit (.int .u8 32), .lit (.int .u8 23), .lit (.int .u8 11), .lit (.int .u8 54), .lit (.int .u8 26), .lit (.int .u8 40), .lit (.int .u8 15), .lit (.int .u8 34), .lit (.int .u8 20), .lit (.int .u8 31), .lit (.int .u8 10), .lit (.int .u8 25), .lit (.int .u8 14), .lit (.int .u8 19), .lit (.int .u8 9), .lit (.int .u8 13), .lit (.int .u8 8), .lit (.int .u8 7), .lit (.int .u8 6)]

/-- 'quietwinglaw2.BibaSinks': WHATEVER THE INPUT: true; the input reads as it did. -/
def bibaSinksSpec : ChangeSpec := { name := "bibaSinks", fn := fun _ => fun
  | [d1, d2, d3] => { results := [.lit (.bool true)], args := [d1, d2, d3] }
  | _ => none }
def bibaSinksRow : OpenClaim := { program := "ytodikdmmmfeddaadoor", sum := "85ef6817df94170802b88e0971fd25c2cad7e4c1dacab67469ac251880ea493c", func := "quietwing/quietwinglaw2.BibaSinks", spec := "bibaSinks", inPlace := ["internal/reflectlite.ValueOf", "(internal/reflectlite.Value).Type", "(internal/reflectlite.Value).IsNil", "internal/reflectlite.TypeOf", "(internal/reflectlite.Value).Elem", "(internal/reflectlite.Value).Set"], unfollowed := true, recurses := true, named := ["errors.errorType"], apart := false, laid := [("errors.errorType", laid_errors_errorType)] }
def BibaSinksSaid : Prop := bibaSinksRow.holds Tryd.pinned (OpenSpec.ofChange bibaSinksSpec)

/-- ITS FALSE NEIGHBOUR: 'it returns false'. Refute it at one input. -/
def bibaSinksWrong : ChangeSpec := { name := "bibaSinks", fn := fun _ => fun
  | [d1, d2, d3] => { results := [.lit (.bool false)], args := [d1, d2, d3] }
  | _ => none }
def BibaSinksWrongFalsely : Prop := bibaSinksRow.holds Tryd.pinned (OpenSpec.ofChange bibaSinksWrong)

/-- 'quietwinglaw2.BibaPure': WHATEVER THE INPUT: true; the input reads as it did. -/
def bibaPureSpec : ChangeSpec := { name := "bibaPure", fn := fun _ => fun
  | [d1, d2, d3] => { results := [.lit (.bool true)], args := [d1, d2, d3] }
  | _ => none }
def bibaPureRow : OpenClaim := { program := "ytodikdmmmfeddaadoor", sum := "85ef6817df94170802b88e0971fd25c2cad7e4c1dacab67469ac251880ea493c", func := "quietwing/quietwinglaw2.BibaPure", spec := "bibaPure", inPlace := ["internal/reflectlite.ValueOf", "(internal/reflectlite.Value).Type", "(internal/reflectlite.Value).IsNil", "internal/reflectlite.TypeOf", "(internal/reflectlite.Value).Elem", "(internal/reflectlite.Value).Set"], unfollowed := true, recurses := true, named := ["errors.errorType"], apart := false, laid := [("errors.errorType", laid_errors_errorType)] }
def BibaPureSaid : Prop := bibaPureRow.holds Tryd.pinned (OpenSpec.ofChange bibaPureSpec)

/-- ITS FALSE NEIGHBOUR: 'it returns false'. Refute it at one input. -/
def bibaPureWrong : ChangeSpec := { name := "bibaPure", fn := fun _ => fun
  | [d1, d2, d3] => { results := [.lit (.bool false)], args := [d1, d2, d3] }
  | _ => none }
def BibaPureWrongFalsely : Prop := bibaPureRow.holds Tryd.pinned (OpenSpec.ofChange bibaPureWrong)

/-- 'quietwinglaw2.BibaPlays': WHATEVER THE INPUT: true; the input reads as it did. -/
def bibaPlaysSpec : ChangeSpec := { name := "bibaPlays", fn := fun _ => fun
  | [d1, d2, d3] => { results := [.lit (.bool true)], args := [d1, d2, d3] }
  | _ => none }
def bibaPlaysRow : OpenClaim := { program := "ytodikdmmmfeddaadoor", sum := "85ef6817df94170802b88e0971fd25c2cad7e4c1dacab67469ac251880ea493c", func := "quietwing/quietwinglaw2.BibaPlays", spec := "bibaPlays", inPlace := ["internal/reflectlite.ValueOf", "(internal/reflectlite.Value).Type", "(internal/reflectlite.Value).IsNil", "internal/reflectlite.TypeOf", "(internal/reflectlite.Value).Elem", "(internal/reflectlite.Value).Set"], unfollowed := true, recurses := true, named := ["errors.errorType"], apart := false, laid := [("errors.errorType", laid_errors_errorType)] }
def BibaPlaysSaid : Prop := bibaPlaysRow.holds Tryd.pinned (OpenSpec.ofChange bibaPlaysSpec)

/-- ITS FALSE NEIGHBOUR: 'it returns false'. Refute it at one input. -/
def bibaPlaysWrong : ChangeSpec := { name := "bibaPlays", fn := fun _ => fun
  | [d1, d2, d3] => { results := [.lit (.bool false)], args := [d1, d2, d3] }
  | _ => none }
def BibaPlaysWrongFalsely : Prop := bibaPlaysRow.holds Tryd.pinned (OpenSpec.ofChange bibaPlaysWrong)

/-- 'quietwinglaw2.WallRivals': WHATEVER THE INPUT: true; the input reads as it did. -/
def wallRivalsSpec : ChangeSpec := { name := "wallRivals", fn := fun _ => fun
  | [d1, d2, d3] => { results := [.lit (.bool true)], args := [d1, d2, d3] }
  | _ => none }
def wallRivalsRow : OpenClaim := { program := "ytodikdmmmfeddaadoor", sum := "85ef6817df94170802b88e0971fd25c2cad7e4c1dacab67469ac251880ea493c", func := "quietwing/quietwinglaw2.WallRivals", spec := "wallRivals", inPlace := ["internal/reflectlite.ValueOf", "(internal/reflectlite.Value).Type", "(internal/reflectlite.Value).IsNil", "internal/reflectlite.TypeOf", "(internal/reflectlite.Value).Elem", "(internal/reflectlite.Value).Set"], unfollowed := true, recurses := true, named := ["math/bits.deBruijn32tab", "math/bits.deBruijn64tab", "errors.errorType"], apart := false, laid := [("math/bits.deBruijn32tab", laid_math_bits_deBruijn32tab), ("math/bits.deBruijn64tab", laid_math_bits_deBruijn64tab), ("errors.errorType", laid_errors_errorType)] }
def WallRivalsSaid : Prop := wallRivalsRow.holds Tryd.pinned (OpenSpec.ofChange wallRivalsSpec)

/-- ITS FALSE NEIGHBOUR: 'it returns false'. Refute it at one input. -/
def wallRivalsWrong : ChangeSpec := { name := "wallRivals", fn := fun _ => fun
  | [d1, d2, d3] => { results := [.lit (.bool false)], args := [d1, d2, d3] }
  | _ => none }
def WallRivalsWrongFalsely : Prop := wallRivalsRow.holds Tryd.pinned (OpenSpec.ofChange wallRivalsWrong)

/-- 'quietwinglaw2.WallMany': WHATEVER THE INPUT: true; the input reads as it did. -/
def wallManySpec : ChangeSpec := { name := "wallMany", fn := fun _ => fun
  | [d1, d2, d3, d4] => { results := [.lit (.bool true)], args := [d1, d2, d3, d4] }
  | _ => none }
def wallManyRow : OpenClaim := { program := "ytodikdmmmfeddaadoor", sum := "85ef6817df94170802b88e0971fd25c2cad7e4c1dacab67469ac251880ea493c", func := "quietwing/quietwinglaw2.WallMany", spec := "wallMany", inPlace := ["internal/reflectlite.ValueOf", "(internal/reflectlite.Value).Type", "(internal/reflectlite.Value).IsNil", "internal/reflectlite.TypeOf", "(internal/reflectlite.Value).Elem", "(internal/reflectlite.Value).Set"], unfollowed := true, recurses := true, named := ["math/bits.deBruijn32tab", "math/bits.deBruijn64tab", "errors.errorType"], apart := false, laid := [("math/bits.deBruijn32tab", laid_math_bits_deBruijn32tab), ("math/bits.deBruijn64tab", laid_math_bits_deBruijn64tab), ("errors.errorType", laid_errors_errorType)] }
def WallManySaid : Prop := wallManyRow.holds Tryd.pinned (OpenSpec.ofChange wallManySpec)

/-- ITS FALSE NEIGHBOUR: 'it returns false'. Refute it at one input. -/
def wallManyWrong : ChangeSpec := { name := "wallMany", fn := fun _ => fun
  | [d1, d2, d3, d4] => { results := [.lit (.bool false)], args := [d1, d2, d3, d4] }
  | _ => none }
def WallManyWrongFalsely : Prop := wallManyRow.holds Tryd.pinned (OpenSpec.ofChange wallManyWrong)

/-- 'quietwinglaw2.WallHolds': WHATEVER THE INPUT: true; the input reads as it did. -/
def wallHoldsSpec : ChangeSpec := { name := "wallHolds", fn := fun _ => fun
  | [d1, d2, d3] => { results := [.lit (.bool true)], args := [d1, d2, d3] }
  | _ => none }
def wallHoldsRow : OpenClaim := { program := "ytodikdmmmfeddaadoor", sum := "85ef6817df94170802b88e0971fd25c2cad7e4c1dacab67469ac251880ea493c", func := "quietwing/quietwinglaw2.WallHolds", spec := "wallHolds", inPlace := ["internal/reflectlite.ValueOf", "(internal/reflectlite.Value).Type", "(internal/reflectlite.Value).IsNil", "internal/reflectlite.TypeOf", "(internal/reflectlite.Value).Elem", "(internal/reflectlite.Value).Set"], unfollowed := true, recurses := true, named := ["math/bits.deBruijn32tab", "math/bits.deBruijn64tab", "errors.errorType"], apart := false, laid := [("math/bits.deBruijn32tab", laid_math_bits_deBruijn32tab), ("math/bits.deBruijn64tab", laid_math_bits_deBruijn64tab), ("errors.errorType", laid_errors_errorType)] }
def WallHoldsSaid : Prop := wallHoldsRow.holds Tryd.pinned (OpenSpec.ofChange wallHoldsSpec)

/-- ITS FALSE NEIGHBOUR: 'it returns false'. Refute it at one input. -/
def wallHoldsWrong : ChangeSpec := { name := "wallHolds", fn := fun _ => fun
  | [d1, d2, d3] => { results := [.lit (.bool false)], args := [d1, d2, d3] }
  | _ => none }
def WallHoldsWrongFalsely : Prop := wallHoldsRow.holds Tryd.pinned (OpenSpec.ofChange wallHoldsWrong)

/-- 'quietwinglaw2.WallPlays': WHATEVER THE INPUT: true; the input reads as it did. -/
def wallPlaysSpec : ChangeSpec := { name := "wallPlays", fn := fun _ => fun
  | [d1, d2, d3] => { results := [.lit (.bool true)], args := [d1, d2, d3] }
  | _ => none }
def wallPlaysRow : OpenClaim := { program := "ytodikdmmmfeddaadoor", sum := "85ef6817df94170802b88e0971fd25c2cad7e4c1dacab67469ac251880ea493c", func := "quietwing/quietwinglaw2.WallPlays", spec := "wallPlays", inPlace := ["internal/reflectlite.ValueOf", "(internal/reflectlite.Value).Type", "(internal/reflectlite.Value).IsNil", "internal/reflectlite.TypeOf", "(internal/reflectlite.Value).Elem", "(internal/reflectlite.Value).Set"], unfollowed := true, recurses := true, named := ["errors.errorType", "math/bits.deBruijn32tab", "math/bits.deBruijn64tab"], apart := false, laid := [("math/bits.deBruijn32tab", laid_math_bits_deBruijn32tab), ("math/bits.deBruijn64tab", laid_math_bits_deBruijn64tab), ("errors.errorType", laid_errors_errorType)] }
def WallPlaysSaid : Prop := wallPlaysRow.holds Tryd.pinned (OpenSpec.ofChange wallPlaysSpec)

/-- ITS FALSE NEIGHBOUR: 'it returns false'. Refute it at one input. -/
def wallPlaysWrong : ChangeSpec := { name := "wallPlays", fn := fun _ => fun
  | [d1, d2, d3] => { results := [.lit (.bool false)], args := [d1, d2, d3] }
  | _ => none }
def WallPlaysWrongFalsely : Prop := wallPlaysRow.holds Tryd.pinned (OpenSpec.ofChange wallPlaysWrong)

/-- 'quietwinglaw2.BellFlows': WHATEVER THE INPUT: true; the input reads as it did. -/
def bellFlowsSpec : ChangeSpec := { name := "bellFlows", fn := fun _ => fun
  | [d1, d2, d3] => { results := [.lit (.bool true)], args := [d1, d2, d3] }
  | _ => none }
def bellFlowsRow : OpenClaim := { program := "ytodikdmmmfeddaadoor", sum := "85ef6817df94170802b88e0971fd25c2cad7e4c1dacab67469ac251880ea493c", func := "quietwing/quietwinglaw2.BellFlows", spec := "bellFlows", inPlace := ["internal/reflectlite.ValueOf", "(internal/reflectlite.Value).Type", "(internal/reflectlite.Value).IsNil", "internal/reflectlite.TypeOf", "(internal/reflectlite.Value).Elem", "(internal/reflectlite.Value).Set"], unfollowed := true, recurses := true, named := ["math/bits.deBruijn32tab", "math/bits.deBruijn64tab", "errors.errorType"], apart := false, laid := [("math/bits.deBruijn32tab", laid_math_bits_deBruijn32tab), ("math/bits.deBruijn64tab", laid_math_bits_deBruijn64tab), ("errors.errorType", laid_errors_errorType)] }
def BellFlowsSaid : Prop := bellFlowsRow.holds Tryd.pinned (OpenSpec.ofChange bellFlowsSpec)

/-- ITS FALSE NEIGHBOUR: 'it returns false'. Refute it at one input. -/
def bellFlowsWrong : ChangeSpec := { name := "bellFlows", fn := fun _ => fun
  | [d1, d2, d3] => { results := [.lit (.bool false)], args := [d1, d2, d3] }
  | _ => none }
def BellFlowsWrongFalsely : Prop := bellFlowsRow.holds Tryd.pinned (OpenSpec.ofChange bellFlowsWrong)

/-- 'quietwinglaw2.BellSecure': WHATEVER THE INPUT: true; the input reads as it did. -/
def bellSecureSpec : ChangeSpec := { name := "bellSecure", fn := fun _ => fun
  | [d1, d2, d3] => { results := [.lit (.bool true)], args := [d1, d2, d3] }
  | _ => none }
def bellSecureRow : OpenClaim := { program := "ytodikdmmmfeddaadoor", sum := "85ef6817df94170802b88e0971fd25c2cad7e4c1dacab67469ac251880ea493c", func := "quietwing/quietwinglaw2.BellSecure", spec := "bellSecure", inPlace := ["internal/reflectlite.ValueOf", "(internal/reflectlite.Value).Type", "(internal/reflectlite.Value).IsNil", "internal/reflectlite.TypeOf", "(internal/reflectlite.Value).Elem", "(internal/reflectlite.Value).Set"], unfollowed := true, recurses := true, named := ["math/bits.deBruijn32tab", "math/bits.deBruijn64tab", "errors.errorType"], apart := false, laid := [("math/bits.deBruijn32tab", laid_math_bits_deBruijn32tab), ("math/bits.deBruijn64tab", laid_math_bits_deBruijn64tab), ("errors.errorType", laid_errors_errorType)] }
def BellSecureSaid : Prop := bellSecureRow.holds Tryd.pinned (OpenSpec.ofChange bellSecureSpec)

/-- ITS FALSE NEIGHBOUR: 'it returns false'. Refute it at one input. -/
def bellSecureWrong : ChangeSpec := { name := "bellSecure", fn := fun _ => fun
  | [d1, d2, d3] => { results := [.lit (.bool false)], args := [d1, d2, d3] }
  | _ => none }
def BellSecureWrongFalsely : Prop := bellSecureRow.holds Tryd.pinned (OpenSpec.ofChange bellSecureWrong)

/-- 'quietwinglaw2.BellDrop': WHATEVER THE INPUT: true; the input reads as it did. -/
def bellDropSpec : ChangeSpec := { name := "bellDrop", fn := fun _ => fun
  | [d1, d2, d3, d4, d5] => { results := [.lit (.bool true)], args := [d1, d2, d3, d4, d5] }
  | _ => none }
def bellDropRow : OpenClaim := { program := "ytodikdmmmfeddaadoor", sum := "85ef6817df94170802b88e0971fd25c2cad7e4c1dacab67469ac251880ea493c", func := "quietwing/quietwinglaw2.BellDrop", spec := "bellDrop", inPlace := ["internal/reflectlite.ValueOf", "(internal/reflectlite.Value).Type", "(internal/reflectlite.Value).IsNil", "internal/reflectlite.TypeOf", "(internal/reflectlite.Value).Elem", "(internal/reflectlite.Value).Set"], unfollowed := true, recurses := true, named := ["math/bits.deBruijn32tab", "math/bits.deBruijn64tab", "errors.errorType"], apart := false, laid := [("math/bits.deBruijn32tab", laid_math_bits_deBruijn32tab), ("math/bits.deBruijn64tab", laid_math_bits_deBruijn64tab), ("errors.errorType", laid_errors_errorType)] }
def BellDropSaid : Prop := bellDropRow.holds Tryd.pinned (OpenSpec.ofChange bellDropSpec)

/-- ITS FALSE NEIGHBOUR: 'it returns false'. Refute it at one input. -/
def bellDropWrong : ChangeSpec := { name := "bellDrop", fn := fun _ => fun
  | [d1, d2, d3, d4, d5] => { results := [.lit (.bool false)], args := [d1, d2, d3, d4, d5] }
  | _ => none }
def BellDropWrongFalsely : Prop := bellDropRow.holds Tryd.pinned (OpenSpec.ofChange bellDropWrong)

/-- 'quietwinglaw2.BellPlays': WHATEVER THE INPUT: true; the input reads as it did. -/
def bellPlaysSpec : ChangeSpec := { name := "bellPlays", fn := fun _ => fun
  | [d1, d2, d3] => { results := [.lit (.bool true)], args := [d1, d2, d3] }
  | _ => none }
def bellPlaysRow : OpenClaim := { program := "ytodikdmmmfeddaadoor", sum := "85ef6817df94170802b88e0971fd25c2cad7e4c1dacab67469ac251880ea493c", func := "quietwing/quietwinglaw2.BellPlays", spec := "bellPlays", inPlace := ["internal/reflectlite.ValueOf", "(internal/reflectlite.Value).Type", "(internal/reflectlite.Value).IsNil", "internal/reflectlite.TypeOf", "(internal/reflectlite.Value).Elem", "(internal/reflectlite.Value).Set"], unfollowed := true, recurses := true, named := ["errors.errorType", "math/bits.deBruijn32tab", "math/bits.deBruijn64tab"], apart := false, laid := [("math/bits.deBruijn32tab", laid_math_bits_deBruijn32tab), ("math/bits.deBruijn64tab", laid_math_bits_deBruijn64tab), ("errors.errorType", laid_errors_errorType)] }
def BellPlaysSaid : Prop := bellPlaysRow.holds Tryd.pinned (OpenSpec.ofChange bellPlaysSpec)

/-- ITS FALSE NEIGHBOUR: 'it returns false'. Refute it at one input. -/
def bellPlaysWrong : ChangeSpec := { name := "bellPlays", fn := fun _ => fun
  | [d1, d2, d3] => { results := [.lit (.bool false)], args := [d1, d2, d3] }
  | _ => none }
def BellPlaysWrongFalsely : Prop := bellPlaysRow.holds Tryd.pinned (OpenSpec.ofChange bellPlaysWrong)

/- THE SECOND FORM. 'bulk': how many values and letters a reading holds, each counted each time it is reached (what is shared counts as often as it is met; a slice's spare places count too). A statement '..UptoSaid' is the law's where the arguments, and the package variables that the reading takes, are together of bulk at most 1048576: NARROWER than '..Said'. Prove '..Said' where nothing that the law and all that it calls make is longer than what came in: it says more and counts as full. Else prove '..UptoSaid'. A law counts once. -/
mutual
def uptoBulk {H : Type} : DataW H → Nat
  | .lit (.string bytes) => bytes.length + 1
  | .lit _ => 1
  | .nil => 1
  | .ptr d => uptoBulk d + 1
  | .slice elems spare => uptoBulkAll elems + uptoBulkAll spare + 1
  | .agg parts => uptoBulkAll parts + 1
  | .iface _ d => uptoBulk d + 1
  | .map entries => uptoBulkEntries entries + 1
  | .held _ => 1
def uptoBulkAll {H : Type} : List (DataW H) → Nat
  | [] => 0
  | d :: r => uptoBulk d + uptoBulkAll r
def uptoBulkEntries {H : Type} : List (Lit × DataW H) → Nat
  | [] => 0
  | x :: r => uptoBulkEntry x + uptoBulkEntries r
def uptoBulkEntry {H : Type} : Lit × DataW H → Nat
  | (.string bytes, d) => bytes.length + uptoBulk d + 1
  | (_, d) => uptoBulk d + 1
 end
def uptoSmall : (H : Type) → List (DataW H) → Bool := fun _ ds => decide (uptoBulkAll ds ≤ 1048576)
def OpenSpec.upto (s : _root_.Go.ChangeSpec) : _root_.Go.OpenSpec := { _root_.Go.OpenSpec.ofChange s with cond := some uptoSmall }

/-- 'quietwinglaw2.BibaSinks', WHERE WHAT IT READS IS OF BULK AT MOST 1048576: true; the input reads as it did. -/
def bibaSinksUptoRow : OpenClaim := { program := "ytodikdmmmfeddaadoor", sum := "85ef6817df94170802b88e0971fd25c2cad7e4c1dacab67469ac251880ea493c", func := "quietwing/quietwinglaw2.BibaSinks", spec := "bibaSinks", inPlace := ["internal/reflectlite.ValueOf", "(internal/reflectlite.Value).Type", "(internal/reflectlite.Value).IsNil", "internal/reflectlite.TypeOf", "(internal/reflectlite.Value).Elem", "(internal/reflectlite.Value).Set"], unfollowed := true, recurses := true, named := ["errors.errorType"], apart := false, laid := [("errors.errorType", laid_errors_errorType)], narrowed := true }
def BibaSinksUptoSaid : Prop := bibaSinksUptoRow.holds Tryd.pinned (OpenSpec.upto bibaSinksSpec)

/-- 'quietwinglaw2.BibaPure', WHERE WHAT IT READS IS OF BULK AT MOST 1048576: true; the input reads as it did. -/
def bibaPureUptoRow : OpenClaim := { program := "ytodikdmmmfeddaadoor", sum := "85ef6817df94170802b88e0971fd25c2cad7e4c1dacab67469ac251880ea493c", func := "quietwing/quietwinglaw2.BibaPure", spec := "bibaPure", inPlace := ["internal/reflectlite.ValueOf", "(internal/reflectlite.Value).Type", "(internal/reflectlite.Value).IsNil", "internal/reflectlite.TypeOf", "(internal/reflectlite.Value).Elem", "(internal/reflectlite.Value).Set"], unfollowed := true, recurses := true, named := ["errors.errorType"], apart := false, laid := [("errors.errorType", laid_errors_errorType)], narrowed := true }
def BibaPureUptoSaid : Prop := bibaPureUptoRow.holds Tryd.pinned (OpenSpec.upto bibaPureSpec)

/-- 'quietwinglaw2.BibaPlays', WHERE WHAT IT READS IS OF BULK AT MOST 1048576: true; the input reads as it did. -/
def bibaPlaysUptoRow : OpenClaim := { program := "ytodikdmmmfeddaadoor", sum := "85ef6817df94170802b88e0971fd25c2cad7e4c1dacab67469ac251880ea493c", func := "quietwing/quietwinglaw2.BibaPlays", spec := "bibaPlays", inPlace := ["internal/reflectlite.ValueOf", "(internal/reflectlite.Value).Type", "(internal/reflectlite.Value).IsNil", "internal/reflectlite.TypeOf", "(internal/reflectlite.Value).Elem", "(internal/reflectlite.Value).Set"], unfollowed := true, recurses := true, named := ["errors.errorType"], apart := false, laid := [("errors.errorType", laid_errors_errorType)], narrowed := true }
def BibaPlaysUptoSaid : Prop := bibaPlaysUptoRow.holds Tryd.pinned (OpenSpec.upto bibaPlaysSpec)

/-- 'quietwinglaw2.WallRivals', WHERE WHAT IT READS IS OF BULK AT MOST 1048576: true; the input reads as it did. -/
def wallRivalsUptoRow : OpenClaim := { program := "ytodikdmmmfeddaadoor", sum := "85ef6817df94170802b88e0971fd25c2cad7e4c1dacab67469ac251880ea493c", func := "quietwing/quietwinglaw2.WallRivals", spec := "wallRivals", inPlace := ["internal/reflectlite.ValueOf", "(internal/reflectlite.Value).Type", "(internal/reflectlite.Value).IsNil", "internal/reflectlite.TypeOf", "(internal/reflectlite.Value).Elem", "(internal/reflectlite.Value).Set"], unfollowed := true, recurses := true, named := ["math/bits.deBruijn32tab", "math/bits.deBruijn64tab", "errors.errorType"], apart := false, laid := [("math/bits.deBruijn32tab", laid_math_bits_deBruijn32tab), ("math/bits.deBruijn64tab", laid_math_bits_deBruijn64tab), ("errors.errorType", laid_errors_errorType)], narrowed := true }
def WallRivalsUptoSaid : Prop := wallRivalsUptoRow.holds Tryd.pinned (OpenSpec.upto wallRivalsSpec)

/-- 'quietwinglaw2.WallMany', WHERE WHAT IT READS IS OF BULK AT MOST 1048576: true; the input reads as it did. -/
def wallManyUptoRow : OpenClaim := { program := "ytodikdmmmfeddaadoor", sum := "85ef6817df94170802b88e0971fd25c2cad7e4c1dacab67469ac251880ea493c", func := "quietwing/quietwinglaw2.WallMany", spec := "wallMany", inPlace := ["internal/reflectlite.ValueOf", "(internal/reflectlite.Value).Type", "(internal/reflectlite.Value).IsNil", "internal/reflectlite.TypeOf", "(internal/reflectlite.Value).Elem", "(internal/reflectlite.Value).Set"], unfollowed := true, recurses := true, named := ["math/bits.deBruijn32tab", "math/bits.deBruijn64tab", "errors.errorType"], apart := false, laid := [("math/bits.deBruijn32tab", laid_math_bits_deBruijn32tab), ("math/bits.deBruijn64tab", laid_math_bits_deBruijn64tab), ("errors.errorType", laid_errors_errorType)], narrowed := true }
def WallManyUptoSaid : Prop := wallManyUptoRow.holds Tryd.pinned (OpenSpec.upto wallManySpec)

/-- 'quietwinglaw2.WallHolds', WHERE WHAT IT READS IS OF BULK AT MOST 1048576: true; the input reads as it did. -/
def wallHoldsUptoRow : OpenClaim := { program := "ytodikdmmmfeddaadoor", sum := "85ef6817df94170802b88e0971fd25c2cad7e4c1dacab67469ac251880ea493c", func := "quietwing/quietwinglaw2.WallHolds", spec := "wallHolds", inPlace := ["internal/reflectlite.ValueOf", "(internal/reflectlite.Value).Type", "(internal/reflectlite.Value).IsNil", "internal/reflectlite.TypeOf", "(internal/reflectlite.Value).Elem", "(internal/reflectlite.Value).Set"], unfollowed := true, recurses := true, named := ["math/bits.deBruijn32tab", "math/bits.deBruijn64tab", "errors.errorType"], apart := false, laid := [("math/bits.deBruijn32tab", laid_math_bits_deBruijn32tab), ("math/bits.deBruijn64tab", laid_math_bits_deBruijn64tab), ("errors.errorType", laid_errors_errorType)], narrowed := true }
def WallHoldsUptoSaid : Prop := wallHoldsUptoRow.holds Tryd.pinned (OpenSpec.upto wallHoldsSpec)

/-- 'quietwinglaw2.WallPlays', WHERE WHAT IT READS IS OF BULK AT MOST 1048576: true; the input reads as it did. -/
def wallPlaysUptoRow : OpenClaim := { program := "ytodikdmmmfeddaadoor", sum := "85ef6817df94170802b88e0971fd25c2cad7e4c1dacab67469ac251880ea493c", func := "quietwing/quietwinglaw2.WallPlays", spec := "wallPlays", inPlace := ["internal/reflectlite.ValueOf", "(internal/reflectlite.Value).Type", "(internal/reflectlite.Value).IsNil", "internal/reflectlite.TypeOf", "(internal/reflectlite.Value).Elem", "(internal/reflectlite.Value).Set"], unfollowed := true, recurses := true, named := ["errors.errorType", "math/bits.deBruijn32tab", "math/bits.deBruijn64tab"], apart := false, laid := [("math/bits.deBruijn32tab", laid_math_bits_deBruijn32tab), ("math/bits.deBruijn64tab", laid_math_bits_deBruijn64tab), ("errors.errorType", laid_errors_errorType)], narrowed := true }
def WallPlaysUptoSaid : Prop := wallPlaysUptoRow.holds Tryd.pinned (OpenSpec.upto wallPlaysSpec)

/-- 'quietwinglaw2.BellFlows', WHERE WHAT IT READS IS OF BULK AT MOST 1048576: true; the input reads as it did. -/
def bellFlowsUptoRow : OpenClaim := { program := "ytodikdmmmfeddaadoor", sum := "85ef6817df94170802b88e0971fd25c2cad7e4c1dacab67469ac251880ea493c", func := "quietwing/quietwinglaw2.BellFlows", spec := "bellFlows", inPlace := ["internal/reflectlite.ValueOf", "(internal/reflectlite.Value).Type", "(internal/reflectlite.Value).IsNil", "internal/reflectlite.TypeOf", "(internal/reflectlite.Value).Elem", "(internal/reflectlite.Value).Set"], unfollowed := true, recurses := true, named := ["math/bits.deBruijn32tab", "math/bits.deBruijn64tab", "errors.errorType"], apart := false, laid := [("math/bits.deBruijn32tab", laid_math_bits_deBruijn32tab), ("math/bits.deBruijn64tab", laid_math_bits_deBruijn64tab), ("errors.errorType", laid_errors_errorType)], narrowed := true }
def BellFlowsUptoSaid : Prop := bellFlowsUptoRow.holds Tryd.pinned (OpenSpec.upto bellFlowsSpec)

/-- 'quietwinglaw2.BellSecure', WHERE WHAT IT READS IS OF BULK AT MOST 1048576: true; the input reads as it did. -/
def bellSecureUptoRow : OpenClaim := { program := "ytodikdmmmfeddaadoor", sum := "85ef6817df94170802b88e0971fd25c2cad7e4c1dacab67469ac251880ea493c", func := "quietwing/quietwinglaw2.BellSecure", spec := "bellSecure", inPlace := ["internal/reflectlite.ValueOf", "(internal/reflectlite.Value).Type", "(internal/reflectlite.Value).IsNil", "internal/reflectlite.TypeOf", "(internal/reflectlite.Value).Elem", "(internal/reflectlite.Value).Set"], unfollowed := true, recurses := true, named := ["math/bits.deBruijn32tab", "math/bits.deBruijn64tab", "errors.errorType"], apart := false, laid := [("math/bits.deBruijn32tab", laid_math_bits_deBruijn32tab), ("math/bits.deBruijn64tab", laid_math_bits_deBruijn64tab), ("errors.errorType", laid_errors_errorType)], narrowed := true }
def BellSecureUptoSaid : Prop := bellSecureUptoRow.holds Tryd.pinned (OpenSpec.upto bellSecureSpec)

/-- 'quietwinglaw2.BellDrop', WHERE WHAT IT READS IS OF BULK AT MOST 1048576: true; the input reads as it did. -/
def bellDropUptoRow : OpenClaim := { program := "ytodikdmmmfeddaadoor", sum := "85ef6817df94170802b88e0971fd25c2cad7e4c1dacab67469ac251880ea493c", func := "quietwing/quietwinglaw2.BellDrop", spec := "bellDrop", inPlace := ["internal/reflectlite.ValueOf", "(internal/reflectlite.Value).Type", "(internal/reflectlite.Value).IsNil", "internal/reflectlite.TypeOf", "(internal/reflectlite.Value).Elem", "(internal/reflectlite.Value).Set"], unfollowed := true, recurses := true, named := ["math/bits.deBruijn32tab", "math/bits.deBruijn64tab", "errors.errorType"], apart := false, laid := [("math/bits.deBruijn32tab", laid_math_bits_deBruijn32tab), ("math/bits.deBruijn64tab", laid_math_bits_deBruijn64tab), ("errors.errorType", laid_errors_errorType)], narrowed := true }
def BellDropUptoSaid : Prop := bellDropUptoRow.holds Tryd.pinned (OpenSpec.upto bellDropSpec)

/-- 'quietwinglaw2.BellPlays', WHERE WHAT IT READS IS OF BULK AT MOST 1048576: true; the input reads as it did. -/
def bellPlaysUptoRow : OpenClaim := { program := "ytodikdmmmfeddaadoor", sum := "85ef6817df94170802b88e0971fd25c2cad7e4c1dacab67469ac251880ea493c", func := "quietwing/quietwinglaw2.BellPlays", spec := "bellPlays", inPlace := ["internal/reflectlite.ValueOf", "(internal/reflectlite.Value).Type", "(internal/reflectlite.Value).IsNil", "internal/reflectlite.TypeOf", "(internal/reflectlite.Value).Elem", "(internal/reflectlite.Value).Set"], unfollowed := true, recurses := true, named := ["errors.errorType", "math/bits.deBruijn32tab", "math/bits.deBruijn64tab"], apart := false, laid := [("math/bits.deBruijn32tab", laid_math_bits_deBruijn32tab), ("math/bits.deBruijn64tab", laid_math_bits_deBruijn64tab), ("errors.errorType", laid_errors_errorType)], narrowed := true }
def BellPlaysUptoSaid : Prop := bellPlaysUptoRow.holds Tryd.pinned (OpenSpec.upto bellPlaysSpec)

end Rows
end Go.Proofs.YtodikdmmmfeddaaDoor
