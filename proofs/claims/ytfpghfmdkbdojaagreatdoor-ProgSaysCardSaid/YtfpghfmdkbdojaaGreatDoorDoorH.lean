/-
  From the lists of variables of the laws that read texts: the errors of strconv lie in their variables.
-/
import Derived.Test.YtfpghfmdkbdojaaGreatDoorDoorG
import Derived.Test.YtfpghfmdkbdojaaGreatDoorRdM
namespace Go.Proofs.YtfpghfmdkbdojaaGreatDoor
open Go.ChangeShapes Go.WideShapes Go.ChangeAt Go.RowKit
set_option maxRecDepth 100000
theorem gSyn : Tryz.prog.globalNamed "strconv.ErrSyntax" = some 3 := by kernel_rfl
theorem gSynType : (Tryz.prog.globals[3]?).map (·.type) = some 26 := by kernel_rfl
theorem gRng : Tryz.prog.globalNamed "strconv.ErrRange" = some 4 := by kernel_rfl
theorem gRngType : (Tryz.prog.globals[4]?).map (·.type) = some 26 := by kernel_rfl
theorem cellsEs : Tryz.prog.cellsOf 147 = 1 := by kernel_rfl
theorem cellsStr : Tryz.prog.cellsOf 9 = 1 := by kernel_rfl
theorem starEs : "*" ++ "errors.errorString" = "*errors.errorString" := by decide
theorem cell_lt {W : World} {a : Addr} {v : Value} (h : W.cell? a = some v) : a.block < W.heap.size := by
  rcases Nat.lt_or_ge a.block W.heap.size with h' | h'
  · exact h'
  · simp [World.cell?, Array.getElem?_eq_none h'] at h
theorem rowEs (u : TypeId) (h : Tryz.prog.typeName? 3 u = some "*errors.errorString") : u = 145 :=
  typeName_ptr_named (nm := "errors.errorString") (by rw [starEs]; kernel_rfl) (by kernel_rfl) (by decide) u (by rw [starEs]; exact h)
theorem numErrs {W : World} (h : laidMet Tryz.prog [("math/bits.deBruijn32tab", Rows.laid_math_bits_deBruijn32tab), ("math/bits.deBruijn64tab", Rows.laid_math_bits_deBruijn64tab), ("internal/strconv.uint64pow10", Rows.laid_internal_strconv_uint64pow10), ("strconv.ErrRange", Rows.laid_strconv_ErrRange), ("strconv.ErrSyntax", Rows.laid_strconv_ErrSyntax)] W) (V : World) (hV : Below W.heap.size W V) : NumErrs V := by
  have h3 := laidMet.tail (laidMet.tail (laidMet.tail h))
  obtain ⟨a0, s0, v0, _⟩ := laid_sentinel h3 gRng gRngType Tryz.underlying26 rowEs Tryz.underlying145 Tryz.underlying147 rfl rfl Tryz.underlying9 cellsEs cellsStr
  obtain ⟨a1, s1, v1, _⟩ := laid_sentinel (laidMet.tail h3) gSyn gSynType Tryz.underlying26 rowEs Tryz.underlying145 Tryz.underlying147 rfl rfl Tryz.underlying9 cellsEs cellsStr
  have c0 : W.cell? ⟨4, 0, none⟩ = some (.iface 145 (.pointer (some a0))) := by simpa using World.var?_cell gRng v0 0
  have c1 : W.cell? ⟨3, 0, none⟩ = some (.iface 145 (.pointer (some a1))) := by simpa using World.var?_cell gSyn v1 0
  exact ⟨⟨_, _, (hV.cell (cell_lt c1)).trans c1⟩, _, _, (hV.cell (cell_lt c0)).trans c0⟩
theorem text7 {W : World} (h : laidMetH Tryz.prog [("math/bits.deBruijn32tab", Rows.laid_math_bits_deBruijn32tab), ("math/bits.deBruijn64tab", Rows.laid_math_bits_deBruijn64tab), ("internal/strconv.uint64pow10", Rows.laid_internal_strconv_uint64pow10), ("errors.errorType", Rows.laid_errors_errorType), ("strconv.ErrRange", Rows.laid_strconv_ErrRange), ("strconv.ErrSyntax", Rows.laid_strconv_ErrSyntax)] W) : (Pow10 W.heap.size W ∧ ErrT W) ∧ ∀ V, Below W.heap.size W V → NumErrs V := by
  refine ⟨text6 h, ?_⟩
  have h' : laidMet Tryz.prog [("math/bits.deBruijn32tab", Rows.laid_math_bits_deBruijn32tab), ("math/bits.deBruijn64tab", Rows.laid_math_bits_deBruijn64tab), ("internal/strconv.uint64pow10", Rows.laid_internal_strconv_uint64pow10), ("strconv.ErrRange", Rows.laid_strconv_ErrRange), ("strconv.ErrSyntax", Rows.laid_strconv_ErrSyntax)] W ∧ handlesMet Tryz.prog [("errors.errorType", Rows.laid_errors_errorType)] W := h
  exact numErrs h'.1
end Go.Proofs.YtfpghfmdkbdojaaGreatDoor
