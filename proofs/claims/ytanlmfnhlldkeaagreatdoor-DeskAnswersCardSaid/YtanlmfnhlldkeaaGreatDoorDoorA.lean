/-
  From the reading of an argument to words of memory: slices of ints.
  From a row's list of variables to words of memory, where the list holds errors.errorType: the handle of the type error.
  From the row's list of variables to words of memory: the tables of math/bits and the powers of ten of strconv.
  From the lists of variables of the laws that read texts to words of memory: the powers of ten, the handle of the type error. A start that meets them: the heap that the initialisers leave.
  From the row's list of variables to words of memory: the tables of math/bits.
-/
import Derived.Test.YtanlmfnhlldkeaaGreatDoorBaseA
import Derived.ProofKit
import Derived.OpenShut
import Derived.SizedLaws
import Derived.Test.YtanlmfnhlldkeaaGreatDoorAsA
import Derived.Test.YtanlmfnhlldkeaaGreatDoorCards
import Derived.Test.YtanlmfnhlldkeaaGreatDoorTie
import Derived.Deep.DeepHandedRow
import Derived.Deep.DeepWitnessRowRef
import Derived.Stop.LaidErr
import Derived.LaidHandle
import Derived.Test.YtanlmfnhlldkeaaGreatDoorTrsA
import Derived.Lib.LaidTab
import Derived.Lib.SmallJoins
import Derived.Lib.TrailingZeros
import Derived.ChangeOld
import Derived.LaidMore
import Derived.Test.YtanlmfnhlldkeaaGreatDoorLoopA
namespace Go.Proofs.YtanlmfnhlldkeaaGreatDoor
open Go.ChangeShapes Go.WideShapes Go.ChangeAt Go.RowKit

section
variable {H : Type} {enc : TypeId × Value → H} {P : Program} {W : World}
end
end Go.Proofs.YtanlmfnhlldkeaaGreatDoor

namespace Go.Proofs.YtanlmfnhlldkeaaGreatDoor
open Go.ChangeShapes Go.WideShapes Go.ChangeAt Go.RowKit
set_option maxRecDepth 100000

theorem errG : Tryz.prog.globalNamed "errors.errorType" = some 0 := by kernel_rfl
theorem errRt : (Tryz.prog.cutTypes.find? (·.1 == "internal/reflectlite.rtype")).map (·.2) = some 176 := by kernel_rfl
theorem errOneRow : ((List.range 285).filter fun t => Tryz.prog.rowNamed t [101, 114, 114, 111, 114]) = [35] := by kernel_rfl
theorem errSize : Tryz.prog.types.size = 285 := by kernel_rfl
theorem errHandle {W : World} {L : List (String × DataW Unit)} (hm : ("errors.errorType", Rows.laid_errors_errorType) ∈ L) (h : handlesMet Tryz.prog L W) : ErrT W := by
  obtain ⟨name, u, ty, e1, e2, e3, e4, e5⟩ := h _ hm
  have en : name = [101, 114, 114, 111, 114] := (Option.some.inj e1).symm
  subst en
  obtain rfl := Option.some.inj (errRt.symm.trans e2)
  have hm : ty ∈ (List.range 285).filter fun t => Tryz.prog.rowNamed t [101, 114, 114, 111, 114] := List.mem_filter.2 ⟨List.mem_range.2 (by rw [← errSize]; exact e3), e4⟩
  rw [errOneRow] at hm
  obtain rfl := List.mem_singleton.1 hm
  have hh : typeHandle Tryz.prog 35 = .pointer (some ⟨9, 35, none⟩) := by kernel_rfl
  rw [hh] at e5
  have := World.var?_cell errG e5 0
  unfold ErrT
  simpa using this
end Go.Proofs.YtanlmfnhlldkeaaGreatDoor

namespace Go.Proofs.YtanlmfnhlldkeaaGreatDoor
open Go.ChangeShapes Go.WideShapes Go.ChangeAt Go.RowKit Go.Joins
set_option maxRecDepth 100000

theorem gP10 : Tryz.prog.globalNamed "internal/strconv.uint64pow10" = some 4 := by kernel_rfl
theorem gP10Type : (Tryz.prog.globals[4]?).map (·.type) = some 239 := by kernel_rfl
theorem cellsP10 : Tryz.prog.cellsOf 239 = 20 := by kernel_rfl
theorem cellsU64 : Tryz.prog.cellsOf 211 = 1 := by kernel_rfl
theorem laidP10 : (Rows.laid_internal_strconv_uint64pow10 : DataW Unit) = Lib.tabData .u64 Lib.pow10Tab := by kernel_rfl
theorem pow10_of_laid {W : World} {x y : String × DataW Unit} {rest : List (String × DataW Unit)} (h : laidMet Tryz.prog (x :: y :: ("internal/strconv.uint64pow10", Rows.laid_internal_strconv_uint64pow10) :: rest) W) : Pow10 W.heap.size W := by
  have h2 := laidMet.tail (laidMet.tail h)
  rw [laidP10] at h2
  exact Lib.tabBelow_of_tabIs (Lib.tabIs_of_head (rest := rest) gP10 gP10Type Tryz.underlying239 Tryz.underlying211 cellsU64 cellsP10 h2)
end Go.Proofs.YtanlmfnhlldkeaaGreatDoor

namespace Go.Proofs.YtanlmfnhlldkeaaGreatDoor
open Go.ChangeShapes Go.WideShapes Go.ChangeAt Go.RowKit
set_option maxRecDepth 100000
end Go.Proofs.YtanlmfnhlldkeaaGreatDoor

namespace Go.Proofs.YtanlmfnhlldkeaaGreatDoor
open Go.ChangeShapes Go.WideShapes Go.ChangeAt Go.RowKit Go.Joins
set_option maxRecDepth 100000

def tab64Z : List Int := Lib.deBruijn64tab.map Int.ofNat
theorem g64 : Tryz.prog.globalNamed "math/bits.deBruijn64tab" = some 8 := by kernel_rfl
theorem g64Type : (Tryz.prog.globals[8]?).map (·.type) = some 257 := by kernel_rfl
theorem cells64 : Tryz.prog.cellsOf 257 = 64 := by kernel_rfl
theorem cells8 : Tryz.prog.cellsOf 5 = 1 := by kernel_rfl
theorem laid64 : (Rows.laid_math_bits_deBruijn64tab : DataW Unit) = Lib.tabData .u8 tab64Z := by kernel_rfl
theorem tab_of_laid {W : World} {x : String × DataW Unit} {rest : List (String × DataW Unit)} (h : laidMet Tryz.prog (x :: ("math/bits.deBruijn64tab", Rows.laid_math_bits_deBruijn64tab) :: rest) W) : Tab W := by
  have h2 := laidMet.tail h
  rw [laid64] at h2
  have h3 := Lib.tabIs_of_head (rest := rest) g64 g64Type Tryz.underlying257 Tryz.underlying5 cells8 cells64 h2
  intro j hj
  have h4 := h3.cell g64 j (by unfold tab64Z; rw [List.length_map]; exact hj)
  rw [h4]
  unfold tab64Z
  simp only [List.getD, List.getElem?_map]
  rw [List.getElem?_eq_getElem hj]
  rfl
end Go.Proofs.YtanlmfnhlldkeaaGreatDoor
