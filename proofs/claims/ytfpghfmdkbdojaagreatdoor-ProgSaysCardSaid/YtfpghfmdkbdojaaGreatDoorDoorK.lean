/-
  From the row's list of variables to words of memory: the tables of math/bits and the powers of ten of strconv.
-/
import Derived.Test.YtfpghfmdkbdojaaGreatDoorFrame
import Derived.Test.YtfpghfmdkbdojaaGreatDoorItoa
import Derived.Test.YtfpghfmdkbdojaaGreatDoorCards
import Derived.Test.YtfpghfmdkbdojaaGreatDoorTie
import Derived.Deep.DeepHandedRow
import Derived.Deep.DeepWitnessRowRef
import Derived.Lib.LaidTab
import Derived.Stop.LaidErr
import Derived.LaidHandle
import Derived.Lib.SmallJoins
import Derived.Lib.TrailingZeros
import Derived.ChangeOld
namespace Go.Proofs.YtfpghfmdkbdojaaGreatDoor
open Go.ChangeShapes Go.WideShapes Go.ChangeAt Go.RowKit Go.Joins
set_option maxRecDepth 100000

theorem gP10 : Tryz.prog.globalNamed "internal/strconv.uint64pow10" = some 1 := by kernel_rfl
theorem gP10Type : (Tryz.prog.globals[1]?).map (·.type) = some 122 := by kernel_rfl
theorem cellsP10 : Tryz.prog.cellsOf 122 = 20 := by kernel_rfl
theorem cellsU64 : Tryz.prog.cellsOf 114 = 1 := by kernel_rfl
theorem laidP10 : (Rows.laid_internal_strconv_uint64pow10 : DataW Unit) = Lib.tabData .u64 Lib.pow10Tab := by kernel_rfl
theorem pow10_of_laid {W : World} {x y : String × DataW Unit} {rest : List (String × DataW Unit)} (h : laidMet Tryz.prog (x :: y :: ("internal/strconv.uint64pow10", Rows.laid_internal_strconv_uint64pow10) :: rest) W) : Pow10 W.heap.size W := by
  have h2 := laidMet.tail (laidMet.tail h)
  rw [laidP10] at h2
  exact Lib.tabBelow_of_tabIs (Lib.tabIs_of_head (rest := rest) gP10 gP10Type Tryz.underlying122 Tryz.underlying114 cellsU64 cellsP10 h2)
theorem powTable {W : World} (h : laidMetH Tryz.prog [("math/bits.deBruijn32tab", Rows.laid_math_bits_deBruijn32tab), ("math/bits.deBruijn64tab", Rows.laid_math_bits_deBruijn64tab), ("internal/strconv.uint64pow10", Rows.laid_internal_strconv_uint64pow10)] W) : Pow10 W.heap.size W := pow10_of_laid (rest := []) h
/-- A world for the witness: the settled one, the tables holding what their initialisers lay. -/
noncomputable def powHeap (h : Array Obj) : Array Obj :=
  ((h.modify 5 (fun o => match o with
    | .cells _ t frozen => .cells ((Lib.deBruijn32tab.map Int.ofNat).map (Value.int .u8)).toArray t frozen
    | o => o)).modify 6 (fun o => match o with
    | .cells _ t frozen => .cells ((Lib.deBruijn64tab.map Int.ofNat).map (Value.int .u8)).toArray t frozen
    | o => o)).modify 1 (fun o => match o with
    | .cells _ t frozen => .cells (Lib.pow10Tab.map (Value.int .u64)).toArray t frozen
    | o => o)
noncomputable def powWorld (os : Os) : World := { World.holding Tryz.prog os ⟨#[], #[], []⟩ with heap := powHeap (World.holding Tryz.prog os ⟨#[], #[], []⟩).heap }
end Go.Proofs.YtfpghfmdkbdojaaGreatDoor
