/-
  NARROWER THAN 'FOR EVERY INPUT', by the rows' own cells (each row's printed sentence says how): LabelOrder: laid · RelOrder: laid · LabelBounds: laid · RelReduces: laid · LatticeBounds: laid · LatticeOrder: laid · LatticeRules: laid · TopLabels: laid · LabelBack: laid · LabelSays: laid · RelWay: laid · LatticeSays: laid · RelSays: laid.
  DERIVED. THE GIVEN ROWS OF THIS SEAT. 13 by the template 'for every input the law returns true; each argument reads behind the call as it read before'; 0 by the template 'total and deterministic' (their statements: YtbdochaahbpabaaDoorTotals.lean).
  GIVEN WITH THE SEED: the statements are not yours to turn. If you find one false, say at which input.
  Laid BY PROGRAM, IN A SANDBOX (cutbox-rows.mjs): the forced cells as the released guide's own fill.sh prints them over the translation 1e08e912db0f06cb… (all of the seat's roots in one cut). By AI agents, Wed Nov 11 2026. No macro, syntax, notation, axiom, sorry.
-/
import Derived.Test.YtbdochaahbpabaaDoorChecked
import GoSem.Claim
import GoSem.ClaimJoined
import GoSem.ClaimMapViews
import Derived.JoinedTies
import Derived.KernelRfl
namespace Go.Proofs.YtbdochaahbpabaaDoor
/- THE CELL 'sum', in the pinned program and in every row, IS THE sha256 OF THE DUMP (.gsa) THAT YtbdochaahbpabaaDoorProg.lean LOADS. Nothing in Lean hashes anything: it is a label: what it is worth is what the hold of that sum in a sandbox is worth. -/
noncomputable def Tryd.pinned : Pinned := { name := "ytbdochaahbpabaadoor", sum := "1e08e912db0f06cb6f4dcee02a7141ae29328c4288c2ff0c813ab348926c277d", checked := Tryd.checked }
namespace Rows
def none {H : Type} : Left H := { results := [], args := [] }

/- WHAT THE LISTED PACKAGE-LEVEL VARIABLES READ AS WHEN THE CALL BEGINS. Each datum BY PROGRAM (the guide's laid-datum.mjs) off the statement by which the dump's own 'gosem.cut.vars' lays the variable. In a bare row this is a premise. The card (YtbdochaahbpabaaDoorCards.lean) ties it to the program's text. -/
def laid_math_bits_deBruijn32tab {H : Type} : DataW H := .agg [.lit (.int .u8 0), .lit (.int .u8 1), .lit (.int .u8 28), .lit (.int .u8 2), .lit (.int .u8 29), .lit (.int .u8 14), .lit (.int .u8 24), .lit (.int .u8 3), .lit (.int .u8 30), .lit (.int .u8 22), .lit (.int .u8 20), .lit (.int .u8 15), .lit (.int .u8 25), .lit (.int .u8 17), .lit (.int .u8 4), .lit (.int .u8 8), .lit (.int .u8 31), .lit (.int .u8 27), .lit (.int .u8 13), .lit (.int .u8 23), .lit (.int .u8 21), .lit (.int .u8 19), .lit (.int .u8 16), .lit (.int .u8 7), .lit (.int .u8 26), .lit (.int .u8 12), .lit (.int .u8 18), .lit (.int .u8 6), .lit (.int .u8 11), .lit (.int .u8 5), .lit (.int .u8 10), .lit (.int .u8 9)]
def laid_math_bits_deBruijn64tab {H : Type} : DataW H := .agg [.lit (.int .u8 0), .lit (.int .u8 1), .lit (.int .u8 56), .lit (.int .u8 2), .lit (.int .u8 57), .lit (.int .u8 49), .lit (.int .u8 28), .lit (.int .u8 3), .lit (.int .u8 61), .lit (.int .u8 58), .lit (.int .u8 42), .lit (.int .u8 50), .lit (.int .u8 38), .lit (.int .u8 29), .lit (.int .u8 17), .lit (.int .u8 4), .lit (.int .u8 62), .lit (.int .u8 47), .lit (.int .u8 59), .lit (.int .u8 36), .lit (.int .u8 45), .lit (.int .u8 43), .lit (.int .u8 51), .lit (.int .u8 22), .lit (.int .u8 53), .lit (.int .u8 39), .lit (.int .u8 33), .lit (.int .u8 30), .lit (.int .u8 24), .lit (.int .u8 18), .lit (.int .u8 12), .lit (.int .u8 5), .lit (.int .u8 63), .lit (.int .u8 55), .lit (.int .u8 48), .lit (.int .u8 27), .lit (.int .u8 60), .lit (.int .u8 41), .lit (.int .u8 37), .lit (.int .u8 16), .lit (.int .u8 46), .lit (.int .u8 35), .lit (.int .u8 44), .lit (.int .u8 21), .lit (.int .u8 52), .lit (.int .u8 32), .lit (.int .u8 23), .lit (.int .u8 11), .lit (.int .u8 54), .lit (.int .u8 26), .lit (.int .u8 40), .lit (.int .u8 15), .lit (.int .u8 34), .lit (.int .u8 20), .lit (.int .u8 31), .lit (.int .u8 10), .lit (.int .u8 25), .lit (.int .u8 14), .lit (.int .u8 19), .lit (.int .u8 9), .lit (.int .u8 13), .lit (.int .u8 8), .lit (.int .u8 7), .lit (.int .u8 6)]
def laid_errors_errorType {H : Type} : DataW H := .iface "internal/reflectlite.rtype" (.agg [.ptr (.lit (.string [101, 114, 114, 111, 114]))])

/-- 'quietwinglaw1.LabelOrder': WHATEVER THE INPUT: true; the input reads as it did. -/
def labelOrderSpec : ChangeSpec := { name := "labelOrder", fn := fun _ => fun
  | [d1, d2, d3] => { results := [.lit (.bool true)], args := [d1, d2, d3] }
  | _ => none }
def labelOrderRow : OpenClaim := { program := "ytbdochaahbpabaadoor", sum := "1e08e912db0f06cb6f4dcee02a7141ae29328c4288c2ff0c813ab348926c277d", func := "quietwing/quietwinglaw1.LabelOrder", spec := "labelOrder", inPlace := ["internal/abi.NoEscape"], unfollowed := true, recurses := true, named := ["math/bits.deBruijn32tab", "math/bits.deBruijn64tab"], apart := false, laid := [("math/bits.deBruijn32tab", laid_math_bits_deBruijn32tab), ("math/bits.deBruijn64tab", laid_math_bits_deBruijn64tab)] }
def LabelOrderSaid : Prop := labelOrderRow.holds Tryd.pinned (OpenSpec.ofChange labelOrderSpec)

/-- ITS FALSE NEIGHBOUR: 'it returns false'. Refute it at one input. -/
def labelOrderWrong : ChangeSpec := { name := "labelOrder", fn := fun _ => fun
  | [d1, d2, d3] => { results := [.lit (.bool false)], args := [d1, d2, d3] }
  | _ => none }
def LabelOrderWrongFalsely : Prop := labelOrderRow.holds Tryd.pinned (OpenSpec.ofChange labelOrderWrong)

/-- 'quietwinglaw1.RelOrder': WHATEVER THE INPUT: true; the input reads as it did. -/
def relOrderSpec : ChangeSpec := { name := "relOrder", fn := fun _ => fun
  | [d1, d2] => { results := [.lit (.bool true)], args := [d1, d2] }
  | _ => none }
def relOrderRow : OpenClaim := { program := "ytbdochaahbpabaadoor", sum := "1e08e912db0f06cb6f4dcee02a7141ae29328c4288c2ff0c813ab348926c277d", func := "quietwing/quietwinglaw1.RelOrder", spec := "relOrder", unfollowed := true, recurses := true, named := ["math/bits.deBruijn32tab", "math/bits.deBruijn64tab"], apart := false, laid := [("math/bits.deBruijn32tab", laid_math_bits_deBruijn32tab), ("math/bits.deBruijn64tab", laid_math_bits_deBruijn64tab)] }
def RelOrderSaid : Prop := relOrderRow.holds Tryd.pinned (OpenSpec.ofChange relOrderSpec)

/-- ITS FALSE NEIGHBOUR: 'it returns false'. Refute it at one input. -/
def relOrderWrong : ChangeSpec := { name := "relOrder", fn := fun _ => fun
  | [d1, d2] => { results := [.lit (.bool false)], args := [d1, d2] }
  | _ => none }
def RelOrderWrongFalsely : Prop := relOrderRow.holds Tryd.pinned (OpenSpec.ofChange relOrderWrong)

/-- 'quietwinglaw1.LabelBounds': WHATEVER THE INPUT: true; the input reads as it did. -/
def labelBoundsSpec : ChangeSpec := { name := "labelBounds", fn := fun _ => fun
  | [d1, d2, d3] => { results := [.lit (.bool true)], args := [d1, d2, d3] }
  | _ => none }
def labelBoundsRow : OpenClaim := { program := "ytbdochaahbpabaadoor", sum := "1e08e912db0f06cb6f4dcee02a7141ae29328c4288c2ff0c813ab348926c277d", func := "quietwing/quietwinglaw1.LabelBounds", spec := "labelBounds", inPlace := ["internal/abi.NoEscape"], unfollowed := true, recurses := true, named := ["math/bits.deBruijn32tab", "math/bits.deBruijn64tab"], apart := false, laid := [("math/bits.deBruijn32tab", laid_math_bits_deBruijn32tab), ("math/bits.deBruijn64tab", laid_math_bits_deBruijn64tab)] }
def LabelBoundsSaid : Prop := labelBoundsRow.holds Tryd.pinned (OpenSpec.ofChange labelBoundsSpec)

/-- ITS FALSE NEIGHBOUR: 'it returns false'. Refute it at one input. -/
def labelBoundsWrong : ChangeSpec := { name := "labelBounds", fn := fun _ => fun
  | [d1, d2, d3] => { results := [.lit (.bool false)], args := [d1, d2, d3] }
  | _ => none }
def LabelBoundsWrongFalsely : Prop := labelBoundsRow.holds Tryd.pinned (OpenSpec.ofChange labelBoundsWrong)

/-- 'quietwinglaw1.RelReduces': WHATEVER THE INPUT: true; the input reads as it did. -/
def relReducesSpec : ChangeSpec := { name := "relReduces", fn := fun _ => fun
  | [d1, d2, d3] => { results := [.lit (.bool true)], args := [d1, d2, d3] }
  | _ => none }
def relReducesRow : OpenClaim := { program := "ytbdochaahbpabaadoor", sum := "1e08e912db0f06cb6f4dcee02a7141ae29328c4288c2ff0c813ab348926c277d", func := "quietwing/quietwinglaw1.RelReduces", spec := "relReduces", unfollowed := true, recurses := true, named := ["math/bits.deBruijn32tab", "math/bits.deBruijn64tab"], apart := false, laid := [("math/bits.deBruijn32tab", laid_math_bits_deBruijn32tab), ("math/bits.deBruijn64tab", laid_math_bits_deBruijn64tab)] }
def RelReducesSaid : Prop := relReducesRow.holds Tryd.pinned (OpenSpec.ofChange relReducesSpec)

/-- ITS FALSE NEIGHBOUR: 'it returns false'. Refute it at one input. -/
def relReducesWrong : ChangeSpec := { name := "relReduces", fn := fun _ => fun
  | [d1, d2, d3] => { results := [.lit (.bool false)], args := [d1, d2, d3] }
  | _ => none }
def RelReducesWrongFalsely : Prop := relReducesRow.holds Tryd.pinned (OpenSpec.ofChange relReducesWrong)

/-- 'quietwinglaw1.LatticeBounds': WHATEVER THE INPUT: true; the input reads as it did. -/
def latticeBoundsSpec : ChangeSpec := { name := "latticeBounds", fn := fun _ => fun
  | [d1, d2, d3, d4] => { results := [.lit (.bool true)], args := [d1, d2, d3, d4] }
  | _ => none }
def latticeBoundsRow : OpenClaim := { program := "ytbdochaahbpabaadoor", sum := "1e08e912db0f06cb6f4dcee02a7141ae29328c4288c2ff0c813ab348926c277d", func := "quietwing/quietwinglaw1.LatticeBounds", spec := "latticeBounds", unfollowed := true, recurses := true, named := ["math/bits.deBruijn32tab", "math/bits.deBruijn64tab"], apart := false, laid := [("math/bits.deBruijn32tab", laid_math_bits_deBruijn32tab), ("math/bits.deBruijn64tab", laid_math_bits_deBruijn64tab)] }
def LatticeBoundsSaid : Prop := latticeBoundsRow.holds Tryd.pinned (OpenSpec.ofChange latticeBoundsSpec)

/-- ITS FALSE NEIGHBOUR: 'it returns false'. Refute it at one input. -/
def latticeBoundsWrong : ChangeSpec := { name := "latticeBounds", fn := fun _ => fun
  | [d1, d2, d3, d4] => { results := [.lit (.bool false)], args := [d1, d2, d3, d4] }
  | _ => none }
def LatticeBoundsWrongFalsely : Prop := latticeBoundsRow.holds Tryd.pinned (OpenSpec.ofChange latticeBoundsWrong)

/-- 'quietwinglaw1.LatticeOrder': WHATEVER THE INPUT: true; the input reads as it did. -/
def latticeOrderSpec : ChangeSpec := { name := "latticeOrder", fn := fun _ => fun
  | [d1, d2, d3] => { results := [.lit (.bool true)], args := [d1, d2, d3] }
  | _ => none }
def latticeOrderRow : OpenClaim := { program := "ytbdochaahbpabaadoor", sum := "1e08e912db0f06cb6f4dcee02a7141ae29328c4288c2ff0c813ab348926c277d", func := "quietwing/quietwinglaw1.LatticeOrder", spec := "latticeOrder", unfollowed := true, recurses := true, named := ["math/bits.deBruijn32tab", "math/bits.deBruijn64tab"], apart := false, laid := [("math/bits.deBruijn32tab", laid_math_bits_deBruijn32tab), ("math/bits.deBruijn64tab", laid_math_bits_deBruijn64tab)] }
def LatticeOrderSaid : Prop := latticeOrderRow.holds Tryd.pinned (OpenSpec.ofChange latticeOrderSpec)

/-- ITS FALSE NEIGHBOUR: 'it returns false'. Refute it at one input. -/
def latticeOrderWrong : ChangeSpec := { name := "latticeOrder", fn := fun _ => fun
  | [d1, d2, d3] => { results := [.lit (.bool false)], args := [d1, d2, d3] }
  | _ => none }
def LatticeOrderWrongFalsely : Prop := latticeOrderRow.holds Tryd.pinned (OpenSpec.ofChange latticeOrderWrong)

/-- 'quietwinglaw1.LatticeRules': WHATEVER THE INPUT: true; the input reads as it did. -/
def latticeRulesSpec : ChangeSpec := { name := "latticeRules", fn := fun _ => fun
  | [d1, d2, d3, d4] => { results := [.lit (.bool true)], args := [d1, d2, d3, d4] }
  | _ => none }
def latticeRulesRow : OpenClaim := { program := "ytbdochaahbpabaadoor", sum := "1e08e912db0f06cb6f4dcee02a7141ae29328c4288c2ff0c813ab348926c277d", func := "quietwing/quietwinglaw1.LatticeRules", spec := "latticeRules", unfollowed := true, recurses := true, named := ["math/bits.deBruijn32tab", "math/bits.deBruijn64tab"], apart := false, laid := [("math/bits.deBruijn32tab", laid_math_bits_deBruijn32tab), ("math/bits.deBruijn64tab", laid_math_bits_deBruijn64tab)] }
def LatticeRulesSaid : Prop := latticeRulesRow.holds Tryd.pinned (OpenSpec.ofChange latticeRulesSpec)

/-- ITS FALSE NEIGHBOUR: 'it returns false'. Refute it at one input. -/
def latticeRulesWrong : ChangeSpec := { name := "latticeRules", fn := fun _ => fun
  | [d1, d2, d3, d4] => { results := [.lit (.bool false)], args := [d1, d2, d3, d4] }
  | _ => none }
def LatticeRulesWrongFalsely : Prop := latticeRulesRow.holds Tryd.pinned (OpenSpec.ofChange latticeRulesWrong)

/-- 'quietwingtop.TopLabels': WHATEVER THE INPUT: true; the input reads as it did. -/
def topLabelsSpec : ChangeSpec := { name := "topLabels", fn := fun _ => fun
  | [d1, d2, d3] => { results := [.lit (.bool true)], args := [d1, d2, d3] }
  | _ => none }
def topLabelsRow : OpenClaim := { program := "ytbdochaahbpabaadoor", sum := "1e08e912db0f06cb6f4dcee02a7141ae29328c4288c2ff0c813ab348926c277d", func := "quietwing/quietwingtop.TopLabels", spec := "topLabels", unfollowed := true, recurses := true, named := ["math/bits.deBruijn32tab", "math/bits.deBruijn64tab"], apart := false, laid := [("math/bits.deBruijn32tab", laid_math_bits_deBruijn32tab), ("math/bits.deBruijn64tab", laid_math_bits_deBruijn64tab)] }
def TopLabelsSaid : Prop := topLabelsRow.holds Tryd.pinned (OpenSpec.ofChange topLabelsSpec)

/-- ITS FALSE NEIGHBOUR: 'it returns false'. Refute it at one input. -/
def topLabelsWrong : ChangeSpec := { name := "topLabels", fn := fun _ => fun
  | [d1, d2, d3] => { results := [.lit (.bool false)], args := [d1, d2, d3] }
  | _ => none }
def TopLabelsWrongFalsely : Prop := topLabelsRow.holds Tryd.pinned (OpenSpec.ofChange topLabelsWrong)

/-- 'quietwinglaw1.LabelBack': WHATEVER THE INPUT: true; the input reads as it did. -/
def labelBackSpec : ChangeSpec := { name := "labelBack", fn := fun _ => fun
  | [d1, d2] => { results := [.lit (.bool true)], args := [d1, d2] }
  | _ => none }
def labelBackRow : OpenClaim := { program := "ytbdochaahbpabaadoor", sum := "1e08e912db0f06cb6f4dcee02a7141ae29328c4288c2ff0c813ab348926c277d", func := "quietwing/quietwinglaw1.LabelBack", spec := "labelBack", inPlace := ["internal/abi.NoEscape", "internal/reflectlite.ValueOf", "(internal/reflectlite.Value).Type", "(internal/reflectlite.Value).IsNil", "internal/reflectlite.TypeOf", "(internal/reflectlite.Value).Elem", "(internal/reflectlite.Value).Set"], unfollowed := true, recurses := true, named := ["math/bits.deBruijn32tab", "math/bits.deBruijn64tab", "errors.errorType"], apart := false, laid := [("math/bits.deBruijn32tab", laid_math_bits_deBruijn32tab), ("math/bits.deBruijn64tab", laid_math_bits_deBruijn64tab), ("errors.errorType", laid_errors_errorType)] }
def LabelBackSaid : Prop := labelBackRow.holds Tryd.pinned (OpenSpec.ofChange labelBackSpec)

/-- ITS FALSE NEIGHBOUR: 'it returns false'. Refute it at one input. -/
def labelBackWrong : ChangeSpec := { name := "labelBack", fn := fun _ => fun
  | [d1, d2] => { results := [.lit (.bool false)], args := [d1, d2] }
  | _ => none }
def LabelBackWrongFalsely : Prop := labelBackRow.holds Tryd.pinned (OpenSpec.ofChange labelBackWrong)

/-- 'quietwinglaw1.LabelSays': WHATEVER THE INPUT: true; the input reads as it did. -/
def labelSaysSpec : ChangeSpec := { name := "labelSays", fn := fun _ => fun
  | [d1, d2, d3] => { results := [.lit (.bool true)], args := [d1, d2, d3] }
  | _ => none }
def labelSaysRow : OpenClaim := { program := "ytbdochaahbpabaadoor", sum := "1e08e912db0f06cb6f4dcee02a7141ae29328c4288c2ff0c813ab348926c277d", func := "quietwing/quietwinglaw1.LabelSays", spec := "labelSays", inPlace := ["internal/reflectlite.ValueOf", "(internal/reflectlite.Value).Type", "(internal/reflectlite.Value).IsNil", "internal/reflectlite.TypeOf", "(internal/reflectlite.Value).Elem", "(internal/reflectlite.Value).Set", "internal/abi.NoEscape"], unfollowed := true, recurses := true, named := ["errors.errorType", "math/bits.deBruijn32tab", "math/bits.deBruijn64tab"], apart := false, laid := [("math/bits.deBruijn32tab", laid_math_bits_deBruijn32tab), ("math/bits.deBruijn64tab", laid_math_bits_deBruijn64tab), ("errors.errorType", laid_errors_errorType)] }
def LabelSaysSaid : Prop := labelSaysRow.holds Tryd.pinned (OpenSpec.ofChange labelSaysSpec)

/-- ITS FALSE NEIGHBOUR: 'it returns false'. Refute it at one input. -/
def labelSaysWrong : ChangeSpec := { name := "labelSays", fn := fun _ => fun
  | [d1, d2, d3] => { results := [.lit (.bool false)], args := [d1, d2, d3] }
  | _ => none }
def LabelSaysWrongFalsely : Prop := labelSaysRow.holds Tryd.pinned (OpenSpec.ofChange labelSaysWrong)

/-- 'quietwinglaw1.RelWay': WHATEVER THE INPUT: true; the input reads as it did. -/
def relWaySpec : ChangeSpec := { name := "relWay", fn := fun _ => fun
  | [d1, d2, d3, d4] => { results := [.lit (.bool true)], args := [d1, d2, d3, d4] }
  | _ => none }
def relWayRow : OpenClaim := { program := "ytbdochaahbpabaadoor", sum := "1e08e912db0f06cb6f4dcee02a7141ae29328c4288c2ff0c813ab348926c277d", func := "quietwing/quietwinglaw1.RelWay", spec := "relWay", inPlace := ["internal/reflectlite.ValueOf", "(internal/reflectlite.Value).Type", "(internal/reflectlite.Value).IsNil", "internal/reflectlite.TypeOf", "(internal/reflectlite.Value).Elem", "(internal/reflectlite.Value).Set"], unfollowed := true, recurses := true, named := ["math/bits.deBruijn32tab", "math/bits.deBruijn64tab", "errors.errorType"], apart := false, laid := [("math/bits.deBruijn32tab", laid_math_bits_deBruijn32tab), ("math/bits.deBruijn64tab", laid_math_bits_deBruijn64tab), ("errors.errorType", laid_errors_errorType)] }
def RelWaySaid : Prop := relWayRow.holds Tryd.pinned (OpenSpec.ofChange relWaySpec)

/-- ITS FALSE NEIGHBOUR: 'it returns false'. Refute it at one input. -/
def relWayWrong : ChangeSpec := { name := "relWay", fn := fun _ => fun
  | [d1, d2, d3, d4] => { results := [.lit (.bool false)], args := [d1, d2, d3, d4] }
  | _ => none }
def RelWayWrongFalsely : Prop := relWayRow.holds Tryd.pinned (OpenSpec.ofChange relWayWrong)

/-- 'quietwinglaw1.LatticeSays': WHATEVER THE INPUT: true; the input reads as it did. -/
def latticeSaysSpec : ChangeSpec := { name := "latticeSays", fn := fun _ => fun
  | [d1, d2, d3] => { results := [.lit (.bool true)], args := [d1, d2, d3] }
  | _ => none }
def latticeSaysRow : OpenClaim := { program := "ytbdochaahbpabaadoor", sum := "1e08e912db0f06cb6f4dcee02a7141ae29328c4288c2ff0c813ab348926c277d", func := "quietwing/quietwinglaw1.LatticeSays", spec := "latticeSays", inPlace := ["internal/reflectlite.ValueOf", "(internal/reflectlite.Value).Type", "(internal/reflectlite.Value).IsNil", "internal/reflectlite.TypeOf", "(internal/reflectlite.Value).Elem", "(internal/reflectlite.Value).Set"], unfollowed := true, recurses := true, named := ["math/bits.deBruijn32tab", "math/bits.deBruijn64tab", "errors.errorType"], apart := false, laid := [("math/bits.deBruijn32tab", laid_math_bits_deBruijn32tab), ("math/bits.deBruijn64tab", laid_math_bits_deBruijn64tab), ("errors.errorType", laid_errors_errorType)] }
def LatticeSaysSaid : Prop := latticeSaysRow.holds Tryd.pinned (OpenSpec.ofChange latticeSaysSpec)

/-- ITS FALSE NEIGHBOUR: 'it returns false'. Refute it at one input. -/
def latticeSaysWrong : ChangeSpec := { name := "latticeSays", fn := fun _ => fun
  | [d1, d2, d3] => { results := [.lit (.bool false)], args := [d1, d2, d3] }
  | _ => none }
def LatticeSaysWrongFalsely : Prop := latticeSaysRow.holds Tryd.pinned (OpenSpec.ofChange latticeSaysWrong)

/-- 'quietwinglaw1.RelSays': WHATEVER THE INPUT: true; the input reads as it did. -/
def relSaysSpec : ChangeSpec := { name := "relSays", fn := fun _ => fun
  | [d1, d2, d3] => { results := [.lit (.bool true)], args := [d1, d2, d3] }
  | _ => none }
def relSaysRow : OpenClaim := { program := "ytbdochaahbpabaadoor", sum := "1e08e912db0f06cb6f4dcee02a7141ae29328c4288c2ff0c813ab348926c277d", func := "quietwing/quietwinglaw1.RelSays", spec := "relSays", inPlace := ["internal/reflectlite.ValueOf", "(internal/reflectlite.Value).Type", "(internal/reflectlite.Value).IsNil", "internal/reflectlite.TypeOf", "(internal/reflectlite.Value).Elem", "(internal/reflectlite.Value).Set"], unfollowed := true, recurses := true, named := ["errors.errorType", "math/bits.deBruijn32tab", "math/bits.deBruijn64tab"], apart := false, laid := [("math/bits.deBruijn32tab", laid_math_bits_deBruijn32tab), ("math/bits.deBruijn64tab", laid_math_bits_deBruijn64tab), ("errors.errorType", laid_errors_errorType)] }
def RelSaysSaid : Prop := relSaysRow.holds Tryd.pinned (OpenSpec.ofChange relSaysSpec)

/-- ITS FALSE NEIGHBOUR: 'it returns false'. Refute it at one input. -/
def relSaysWrong : ChangeSpec := { name := "relSays", fn := fun _ => fun
  | [d1, d2, d3] => { results := [.lit (.bool false)], args := [d1, d2, d3] }
  | _ => none }
def RelSaysWrongFalsely : Prop := relSaysRow.holds Tryd.pinned (OpenSpec.ofChange relSaysWrong)

/- THE SECOND FORM. 'bulk': how many values and letters a reading holds, each counted each time it is reached (what is shared counts as often as it is met; a slice's spare places count too). A statement '..UptoSaid' is the law's where the arguments, and the package variables that the reading takes, are together of bulk at most 1048576: NARROWER than '..Said'. Prove '..Said' where nothing that the law and all that it calls make is longer than what came in: it says more and counts as full. Else prove '..UptoSaid'. A law counts once. -/
mutual
def uptoBulk {H : Type} : DataW H → Nat
  | .lit (.string bytes) => bytes.length + 1
  | .lit _ => 1
  | .nil => 1
  | .ptr d => uptoBulk d + 1
  | .slice elems spare => uptoBulkAll elems + uptoBulkAll spare + 1
  | .agg parts => uptoBulkAll parts + 1
  | .iface _ d => uptoBulk d + 1
  | .map entries => uptoBulkEntries entries + 1
  | .held _ => 1
def uptoBulkAll {H : Type} : List (DataW H) → Nat
  | [] => 0
  | d :: r => uptoBulk d + uptoBulkAll r
def uptoBulkEntries {H : Type} : List (Lit × DataW H) → Nat
  | [] => 0
  | x :: r => uptoBulkEntry x + uptoBulkEntries r
def uptoBulkEntry {H : Type} : Lit × DataW H → Nat
  | (.string bytes, d) => bytes.length + uptoBulk d + 1
  | (_, d) => uptoBulk d + 1
 end
def uptoSmall : (H : Type) → List (DataW H) → Bool := fun _ ds => decide (uptoBulkAll ds ≤ 1048576)
def OpenSpec.upto (s : _root_.Go.ChangeSpec) : _root_.Go.OpenSpec := { _root_.Go.OpenSpec.ofChange s with cond := some uptoSmall }

/-- 'quietwinglaw1.LabelOrder', WHERE WHAT IT READS IS OF BULK AT MOST 1048576: true; the input reads as it did. -/
def labelOrderUptoRow : OpenClaim := { program := "ytbdochaahbpabaadoor", sum := "1e08e912db0f06cb6f4dcee02a7141ae29328c4288c2ff0c813ab348926c277d", func := "quietwing/quietwinglaw1.LabelOrder", spec := "labelOrder", inPlace := ["internal/abi.NoEscape"], unfollowed := true, recurses := true, named := ["math/bits.deBruijn32tab", "math/bits.deBruijn64tab"], apart := false, laid := [("math/bits.deBruijn32tab", laid_math_bits_deBruijn32tab), ("math/bits.deBruijn64tab", laid_math_bits_deBruijn64tab)], narrowed := true }
def LabelOrderUptoSaid : Prop := labelOrderUptoRow.holds Tryd.pinned (OpenSpec.upto labelOrderSpec)

/-- 'quietwinglaw1.RelOrder', WHERE WHAT IT READS IS OF BULK AT MOST 1048576: true; the input reads as it did. -/
def relOrderUptoRow : OpenClaim := { program := "ytbdochaahbpabaadoor", sum := "1e08e912db0f06cb6f4dcee02a7141ae29328c4288c2ff0c813ab348926c277d", func := "quietwing/quietwinglaw1.RelOrder", spec := "relOrder", unfollowed := true, recurses := true, named := ["math/bits.deBruijn32tab", "math/bits.deBruijn64tab"], apart := false, laid := [("math/bits.deBruijn32tab", laid_math_bits_deBruijn32tab), ("math/bits.deBruijn64tab", laid_math_bits_deBruijn64tab)], narrowed := true }
def RelOrderUptoSaid : Prop := relOrderUptoRow.holds Tryd.pinned (OpenSpec.upto relOrderSpec)

/-- 'quietwinglaw1.LabelBounds', WHERE WHAT IT READS IS OF BULK AT MOST 1048576: true; the input reads as it did. -/
def labelBoundsUptoRow : OpenClaim := { program := "ytbdochaahbpabaadoor", sum := "1e08e912db0f06cb6f4dcee02a7141ae29328c4288c2ff0c813ab348926c277d", func := "quietwing/quietwinglaw1.LabelBounds", spec := "labelBounds", inPlace := ["internal/abi.NoEscape"], unfollowed := true, recurses := true, named := ["math/bits.deBruijn32tab", "math/bits.deBruijn64tab"], apart := false, laid := [("math/bits.deBruijn32tab", laid_math_bits_deBruijn32tab), ("math/bits.deBruijn64tab", laid_math_bits_deBruijn64tab)], narrowed := true }
def LabelBoundsUptoSaid : Prop := labelBoundsUptoRow.holds Tryd.pinned (OpenSpec.upto labelBoundsSpec)

/-- 'quietwinglaw1.RelReduces', WHERE WHAT IT READS IS OF BULK AT MOST 1048576: true; the input reads as it did. -/
def relReducesUptoRow : OpenClaim := { program := "ytbdochaahbpabaadoor", sum := "1e08e912db0f06cb6f4dcee02a7141ae29328c4288c2ff0c813ab348926c277d", func := "quietwing/quietwinglaw1.RelReduces", spec := "relReduces", unfollowed := true, recurses := true, named := ["math/bits.deBruijn32tab", "math/bits.deBruijn64tab"], apart := false, laid := [("math/bits.deBruijn32tab", laid_math_bits_deBruijn32tab), ("math/bits.deBruijn64tab", laid_math_bits_deBruijn64tab)], narrowed := true }
def RelReducesUptoSaid : Prop := relReducesUptoRow.holds Tryd.pinned (OpenSpec.upto relReducesSpec)

/-- 'quietwinglaw1.LatticeBounds', WHERE WHAT IT READS IS OF BULK AT MOST 1048576: true; the input reads as it did. -/
def latticeBoundsUptoRow : OpenClaim := { program := "ytbdochaahbpabaadoor", sum := "1e08e912db0f06cb6f4dcee02a7141ae29328c4288c2ff0c813ab348926c277d", func := "quietwing/quietwinglaw1.LatticeBounds", spec := "latticeBounds", unfollowed := true, recurses := true, named := ["math/bits.deBruijn32tab", "math/bits.deBruijn64tab"], apart := false, laid := [("math/bits.deBruijn32tab", laid_math_bits_deBruijn32tab), ("math/bits.deBruijn64tab", laid_math_bits_deBruijn64tab)], narrowed := true }
def LatticeBoundsUptoSaid : Prop := latticeBoundsUptoRow.holds Tryd.pinned (OpenSpec.upto latticeBoundsSpec)

/-- 'quietwinglaw1.LatticeOrder', WHERE WHAT IT READS IS OF BULK AT MOST 1048576: true; the input reads as it did. -/
def latticeOrderUptoRow : OpenClaim := { program := "ytbdochaahbpabaadoor", sum := "1e08e912db0f06cb6f4dcee02a7141ae29328c4288c2ff0c813ab348926c277d", func := "quietwing/quietwinglaw1.LatticeOrder", spec := "latticeOrder", unfollowed := true, recurses := true, named := ["math/bits.deBruijn32tab", "math/bits.deBruijn64tab"], apart := false, laid := [("math/bits.deBruijn32tab", laid_math_bits_deBruijn32tab), ("math/bits.deBruijn64tab", laid_math_bits_deBruijn64tab)], narrowed := true }
def LatticeOrderUptoSaid : Prop := latticeOrderUptoRow.holds Tryd.pinned (OpenSpec.upto latticeOrderSpec)

/-- 'quietwinglaw1.LatticeRules', WHERE WHAT IT READS IS OF BULK AT MOST 1048576: true; the input reads as it did. -/
def latticeRulesUptoRow : OpenClaim := { program := "ytbdochaahbpabaadoor", sum := "1e08e912db0f06cb6f4dcee02a7141ae29328c4288c2ff0c813ab348926c277d", func := "quietwing/quietwinglaw1.LatticeRules", spec := "latticeRules", unfollowed := true, recurses := true, named := ["math/bits.deBruijn32tab", "math/bits.deBruijn64tab"], apart := false, laid := [("math/bits.deBruijn32tab", laid_math_bits_deBruijn32tab), ("math/bits.deBruijn64tab", laid_math_bits_deBruijn64tab)], narrowed := true }
def LatticeRulesUptoSaid : Prop := latticeRulesUptoRow.holds Tryd.pinned (OpenSpec.upto latticeRulesSpec)

/-- 'quietwingtop.TopLabels', WHERE WHAT IT READS IS OF BULK AT MOST 1048576: true; the input reads as it did. -/
def topLabelsUptoRow : OpenClaim := { program := "ytbdochaahbpabaadoor", sum := "1e08e912db0f06cb6f4dcee02a7141ae29328c4288c2ff0c813ab348926c277d", func := "quietwing/quietwingtop.TopLabels", spec := "topLabels", unfollowed := true, recurses := true, named := ["math/bits.deBruijn32tab", "math/bits.deBruijn64tab"], apart := false, laid := [("math/bits.deBruijn32tab", laid_math_bits_deBruijn32tab), ("math/bits.deBruijn64tab", laid_math_bits_deBruijn64tab)], narrowed := true }
def TopLabelsUptoSaid : Prop := topLabelsUptoRow.holds Tryd.pinned (OpenSpec.upto topLabelsSpec)

/-- 'quietwinglaw1.LabelBack', WHERE WHAT IT READS IS OF BULK AT MOST 1048576: true; the input reads as it did. -/
def labelBackUptoRow : OpenClaim := { program := "ytbdochaahbpabaadoor", sum := "1e08e912db0f06cb6f4dcee02a7141ae29328c4288c2ff0c813ab348926c277d", func := "quietwing/quietwinglaw1.LabelBack", spec := "labelBack", inPlace := ["internal/abi.NoEscape", "internal/reflectlite.ValueOf", "(internal/reflectlite.Value).Type", "(internal/reflectlite.Value).IsNil", "internal/reflectlite.TypeOf", "(internal/reflectlite.Value).Elem", "(internal/reflectlite.Value).Set"], unfollowed := true, recurses := true, named := ["math/bits.deBruijn32tab", "math/bits.deBruijn64tab", "errors.errorType"], apart := false, laid := [("math/bits.deBruijn32tab", laid_math_bits_deBruijn32tab), ("math/bits.deBruijn64tab", laid_math_bits_deBruijn64tab), ("errors.errorType", laid_errors_errorType)], narrowed := true }
def LabelBackUptoSaid : Prop := labelBackUptoRow.holds Tryd.pinned (OpenSpec.upto labelBackSpec)

/-- 'quietwinglaw1.LabelSays', WHERE WHAT IT READS IS OF BULK AT MOST 1048576: true; the input reads as it did. -/
def labelSaysUptoRow : OpenClaim := { program := "ytbdochaahbpabaadoor", sum := "1e08e912db0f06cb6f4dcee02a7141ae29328c4288c2ff0c813ab348926c277d", func := "quietwing/quietwinglaw1.LabelSays", spec := "labelSays", inPlace := ["internal/reflectlite.ValueOf", "(internal/reflectlite.Value).Type", "(internal/reflectlite.Value).IsNil", "internal/reflectlite.TypeOf", "(internal/reflectlite.Value).Elem", "(internal/reflectlite.Value).Set", "internal/abi.NoEscape"], unfollowed := true, recurses := true, named := ["errors.errorType", "math/bits.deBruijn32tab", "math/bits.deBruijn64tab"], apart := false, laid := [("math/bits.deBruijn32tab", laid_math_bits_deBruijn32tab), ("math/bits.deBruijn64tab", laid_math_bits_deBruijn64tab), ("errors.errorType", laid_errors_errorType)], narrowed := true }
def LabelSaysUptoSaid : Prop := labelSaysUptoRow.holds Tryd.pinned (OpenSpec.upto labelSaysSpec)

/-- 'quietwinglaw1.RelWay', WHERE WHAT IT READS IS OF BULK AT MOST 1048576: true; the input reads as it did. -/
def relWayUptoRow : OpenClaim := { program := "ytbdochaahbpabaadoor", sum := "1e08e912db0f06cb6f4dcee02a7141ae29328c4288c2ff0c813ab348926c277d", func := "quietwing/quietwinglaw1.RelWay", spec := "relWay", inPlace := ["internal/reflectlite.ValueOf", "(internal/reflectlite.Value).Type", "(internal/reflectlite.Value).IsNil", "internal/reflectlite.TypeOf", "(internal/reflectlite.Value).Elem", "(internal/reflectlite.Value).Set"], unfollowed := true, recurses := true, named := ["math/bits.deBruijn32tab", "math/bits.deBruijn64tab", "errors.errorType"], apart := false, laid := [("math/bits.deBruijn32tab", laid_math_bits_deBruijn32tab), ("math/bits.deBruijn64tab", laid_math_bits_deBruijn64tab), ("errors.errorType", laid_errors_errorType)], narrowed := true }
def RelWayUptoSaid : Prop := relWayUptoRow.holds Tryd.pinned (OpenSpec.upto relWaySpec)

/-- 'quietwinglaw1.LatticeSays', WHERE WHAT IT READS IS OF BULK AT MOST 1048576: true; the input reads as it did. -/
def latticeSaysUptoRow : OpenClaim := { program := "ytbdochaahbpabaadoor", sum := "1e08e912db0f06cb6f4dcee02a7141ae29328c4288c2ff0c813ab348926c277d", func := "quietwing/quietwinglaw1.LatticeSays", spec := "latticeSays", inPlace := ["internal/reflectlite.ValueOf", "(internal/reflectlite.Value).Type", "(internal/reflectlite.Value).IsNil", "internal/reflectlite.TypeOf", "(internal/reflectlite.Value).Elem", "(internal/reflectlite.Value).Set"], unfollowed := true, recurses := true, named := ["math/bits.deBruijn32tab", "math/bits.deBruijn64tab", "errors.errorType"], apart := false, laid := [("math/bits.deBruijn32tab", laid_math_bits_deBruijn32tab), ("math/bits.deBruijn64tab", laid_math_bits_deBruijn64tab), ("errors.errorType", laid_errors_errorType)], narrowed := true }
def LatticeSaysUptoSaid : Prop := latticeSaysUptoRow.holds Tryd.pinned (OpenSpec.upto latticeSaysSpec)

/-- 'quietwinglaw1.RelSays', WHERE WHAT IT READS IS OF BULK AT MOST 1048576: true; the input reads as it did. -/
def relSaysUptoRow : OpenClaim := { program := "ytbdochaahbpabaadoor", sum := "1e08e912db0f06cb6f4dcee02a7141ae29328c4288c2ff0c813ab348926c277d", func := "quietwing/quietwinglaw1.RelSays", spec := "relSays", inPlace := ["internal/reflectlite.ValueOf", "(internal/reflectlite.Value).Type", "(internal/reflectlite.Value).IsNil", "internal/reflectlite.TypeOf", "(internal/reflectlite.Value).Elem", "(internal/reflectlite.Value).Set"], unfollowed := true, recurses := true, named := ["errors.errorType", "math/bits.deBruijn32tab", "math/bits.deBruijn64tab"], apart := false, laid := [("math/bits.deBruijn32tab", laid_math_bits_deBruijn32tab), ("math/bits.deBruijn64tab", laid_math_bits_deBruijn64tab), ("errors.errorType", laid_errors_errorType)], narrowed := true }
def RelSaysUptoSaid : Prop := relSaysUptoRow.holds Tryd.pinned (OpenSpec.upto relSaysSpec)

end Rows
end Go.Proofs.YtbdochaahbpabaaDoor
