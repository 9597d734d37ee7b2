/-
  The tables of math/bits, the powers of ten of strconv, and the handle of the type error, all.
-/
import Derived.Test.YtncokblinocgaaaDoorDoorA
namespace Go.Proofs.YtncokblinocgaaaDoor
open Go.ChangeShapes Go.WideShapes Go.ChangeAt Go.RowKit
set_option maxRecDepth 100000
theorem powAndErr {W : World} (h : laidMetH Tryd.prog [("math/bits.deBruijn32tab", Rows.laid_math_bits_deBruijn32tab), ("math/bits.deBruijn64tab", Rows.laid_math_bits_deBruijn64tab), ("internal/strconv.uint64pow10", Rows.laid_internal_strconv_uint64pow10), ("errors.errorType", Rows.laid_errors_errorType)] W) : Pow10 W.heap.size W ∧ ErrT W := by
  have h' : laidMet Tryd.prog [("math/bits.deBruijn32tab", Rows.laid_math_bits_deBruijn32tab), ("math/bits.deBruijn64tab", Rows.laid_math_bits_deBruijn64tab), ("internal/strconv.uint64pow10", Rows.laid_internal_strconv_uint64pow10)] W ∧ handlesMet Tryd.prog [("errors.errorType", Rows.laid_errors_errorType)] W := h
  exact ⟨pow10_of_laid (rest := []) h'.1, errHandle (List.mem_singleton.2 rfl) h'.2⟩
noncomputable def powErrWorld (os : Os) : World := { World.holding Tryd.prog os ⟨#[], #[], []⟩ with heap := errHeap (powHeap (World.holding Tryd.prog os ⟨#[], #[], []⟩).heap) }
end Go.Proofs.YtncokblinocgaaaDoor
