/-
  From the row's list of variables to words of memory: the tables of math/bits.
-/
import Derived.Test.YtdgncngkalgknaaDoorFrame
import Derived.Test.YtdgncngkalgknaaDoorBitsM
import Derived.Test.YtdgncngkalgknaaDoorCards
import Derived.Test.YtdgncngkalgknaaDoorTie
import Derived.Deep.DeepHandedRow
import Derived.Deep.DeepWitnessRowRef
import Derived.Lib.LaidTab
import Derived.Stop.LaidErr
import Derived.LaidHandle
import Derived.Lib.SmallJoins
import Derived.ChangeOld
namespace Go.Proofs.YtdgncngkalgknaaDoor
open Go.ChangeShapes Go.WideShapes Go.ChangeAt Go.RowKit Go.Joins
set_option maxRecDepth 100000

def tab32Z : List Int := Lib.deBruijn32tab.map Int.ofNat
def tab64Z : List Int := Lib.deBruijn64tab.map Int.ofNat
theorem g64 : Tryd.prog.globalNamed "math/bits.deBruijn64tab" = some 2 := by kernel_rfl
theorem g64Type : (Tryd.prog.globals[2]?).map (·.type) = some 164 := by kernel_rfl
theorem cells64 : Tryd.prog.cellsOf 164 = 64 := by kernel_rfl
theorem cells8 : Tryd.prog.cellsOf 5 = 1 := by kernel_rfl
theorem laid32 : (Rows.laid_math_bits_deBruijn32tab : DataW Unit) = Lib.tabData .u8 tab32Z := by kernel_rfl
theorem laid64 : (Rows.laid_math_bits_deBruijn64tab : DataW Unit) = Lib.tabData .u8 tab64Z := by kernel_rfl
theorem tab_of_laid {W : World} {x : String × DataW Unit} {rest : List (String × DataW Unit)} (h : laidMet Tryd.prog (x :: ("math/bits.deBruijn64tab", Rows.laid_math_bits_deBruijn64tab) :: rest) W) : Tab W := by
  have h2 := laidMet.tail h
  rw [laid64] at h2
  have h3 := Lib.tabIs_of_head (rest := rest) g64 g64Type Tryd.underlying164 Tryd.underlying5 cells8 cells64 h2
  intro j hj
  have h4 := h3.cell g64 j (by unfold tab64Z; rw [List.length_map]; exact hj)
  rw [h4]
  unfold tab64Z
  simp only [List.getD, List.getElem?_map]
  rw [List.getElem?_eq_getElem hj]
  rfl
theorem bitsTable {W : World} (h : laidMetH Tryd.prog [("math/bits.deBruijn32tab", Rows.laid_math_bits_deBruijn32tab), ("math/bits.deBruijn64tab", Rows.laid_math_bits_deBruijn64tab)] W) : Tab W := tab_of_laid (rest := []) h

/-- A world for the witness: the settled one, the tables holding what their initialisers lay. -/
noncomputable def laidHeap (h : Array Obj) : Array Obj :=
  (h.modify 1 (fun o => match o with
    | .cells _ t frozen => .cells (tab32Z.map (Value.int .u8)).toArray t frozen
    | o => o)).modify 2 (fun o => match o with
    | .cells _ t frozen => .cells (tab64Z.map (Value.int .u8)).toArray t frozen
    | o => o)
noncomputable def laidWorld (os : Os) : World := { World.holding Tryd.prog os ⟨#[], #[], []⟩ with heap := laidHeap (World.holding Tryd.prog os ⟨#[], #[], []⟩).heap }

end Go.Proofs.YtdgncngkalgknaaDoor
