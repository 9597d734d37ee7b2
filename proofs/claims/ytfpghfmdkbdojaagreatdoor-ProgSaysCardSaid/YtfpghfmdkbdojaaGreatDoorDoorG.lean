/-
  From the lists of variables of the laws that read texts to words of memory: the powers of ten, the handle of the type error. A start that meets them: the heap that the initialisers leave.
-/
import Derived.Test.YtfpghfmdkbdojaaGreatDoorDoorE
import Derived.Test.YtfpghfmdkbdojaaGreatDoorDoorK
import Derived.LaidMore
namespace Go.Proofs.YtfpghfmdkbdojaaGreatDoor
open Go.ChangeShapes Go.WideShapes Go.ChangeAt Go.RowKit
set_option maxRecDepth 100000
theorem text5 {W : World} (h : laidMetH Tryz.prog [("math/bits.deBruijn32tab", Rows.laid_math_bits_deBruijn32tab), ("math/bits.deBruijn64tab", Rows.laid_math_bits_deBruijn64tab), ("internal/strconv.uint64pow10", Rows.laid_internal_strconv_uint64pow10), ("strconv.ErrRange", Rows.laid_strconv_ErrRange), ("strconv.ErrSyntax", Rows.laid_strconv_ErrSyntax)] W) : Pow10 W.heap.size W := pow10_of_laid (rest := _) h
theorem text6 {W : World} (h : laidMetH Tryz.prog [("math/bits.deBruijn32tab", Rows.laid_math_bits_deBruijn32tab), ("math/bits.deBruijn64tab", Rows.laid_math_bits_deBruijn64tab), ("internal/strconv.uint64pow10", Rows.laid_internal_strconv_uint64pow10), ("errors.errorType", Rows.laid_errors_errorType), ("strconv.ErrRange", Rows.laid_strconv_ErrRange), ("strconv.ErrSyntax", Rows.laid_strconv_ErrSyntax)] W) : Pow10 W.heap.size W ∧ ErrT W := by
  have h' : laidMet Tryz.prog [("math/bits.deBruijn32tab", Rows.laid_math_bits_deBruijn32tab), ("math/bits.deBruijn64tab", Rows.laid_math_bits_deBruijn64tab), ("internal/strconv.uint64pow10", Rows.laid_internal_strconv_uint64pow10), ("strconv.ErrRange", Rows.laid_strconv_ErrRange), ("strconv.ErrSyntax", Rows.laid_strconv_ErrSyntax)] W ∧ handlesMet Tryz.prog [("errors.errorType", Rows.laid_errors_errorType)] W := h
  exact ⟨pow10_of_laid (rest := _) h'.1, errHandle (List.mem_singleton.2 rfl) h'.2⟩
noncomputable def textWorld (os : Os) : World := World.doorLaid Tryz.prog 400 os
end Go.Proofs.YtfpghfmdkbdojaaGreatDoor
