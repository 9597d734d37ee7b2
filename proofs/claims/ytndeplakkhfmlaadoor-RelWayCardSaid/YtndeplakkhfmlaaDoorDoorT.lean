/-
  The tables of math/bits and the handle of the type error, both.
-/
import Derived.Test.YtndeplakkhfmlaaDoorDoorE
import Derived.Test.YtndeplakkhfmlaaDoorDoorB
namespace Go.Proofs.YtndeplakkhfmlaaDoor
open Go.ChangeShapes Go.WideShapes Go.ChangeAt Go.RowKit
set_option maxRecDepth 100000
theorem tabAndErr {W : World} (h : laidMetH Tryd.prog [("math/bits.deBruijn32tab", Rows.laid_math_bits_deBruijn32tab), ("math/bits.deBruijn64tab", Rows.laid_math_bits_deBruijn64tab), ("errors.errorType", Rows.laid_errors_errorType)] W) : Tab W ∧ ErrT W := by
  have h' : laidMet Tryd.prog [("math/bits.deBruijn32tab", Rows.laid_math_bits_deBruijn32tab), ("math/bits.deBruijn64tab", Rows.laid_math_bits_deBruijn64tab)] W ∧ handlesMet Tryd.prog [("errors.errorType", Rows.laid_errors_errorType)] W := h
  exact ⟨tab_of_laid (rest := []) h'.1, errHandle (List.mem_singleton.2 rfl) h'.2⟩
noncomputable def bothWorld (os : Os) : World := { World.holding Tryd.prog os ⟨#[], #[], []⟩ with heap := errHeap (laidHeap (World.holding Tryd.prog os ⟨#[], #[], []⟩).heap) }
end Go.Proofs.YtndeplakkhfmlaaDoor
