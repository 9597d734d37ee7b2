/-
  From the list of variables of TrailPlays: all that the trail leans on.
-/
import Derived.Test.YtncokblinocgaaaDoorDoorKE
import Derived.Test.YtncokblinocgaaaDoorDoorA
import Derived.Test.YtncokblinocgaaaDoorTrC
namespace Go.Proofs.YtncokblinocgaaaDoor
open Go.ChangeShapes Go.WideShapes Go.ChangeAt Go.RowKit
set_option maxRecDepth 100000
theorem glob3 {W : World} (h : laidMetH Tryd.prog [("math/bits.deBruijn32tab", Rows.laid_math_bits_deBruijn32tab), ("math/bits.deBruijn64tab", Rows.laid_math_bits_deBruijn64tab), ("internal/strconv.uint64pow10", Rows.laid_internal_strconv_uint64pow10), ("errors.errorType", Rows.laid_errors_errorType)] W) : Glob W := by
  have h' : laidMet Tryd.prog [("math/bits.deBruijn32tab", Rows.laid_math_bits_deBruijn32tab), ("math/bits.deBruijn64tab", Rows.laid_math_bits_deBruijn64tab), ("internal/strconv.uint64pow10", Rows.laid_internal_strconv_uint64pow10)] W ∧ handlesMet Tryd.prog [("errors.errorType", Rows.laid_errors_errorType)] W := h
  have hPE := powAndErr h
  exact ⟨tab_of_laid (rest := _) h'.1, hPE.2, hPE.1⟩
end Go.Proofs.YtncokblinocgaaaDoor
