/-
  From the list of variables of the laws on kernels, trails and desks: all that the program leans on.
-/
import Derived.Test.YtanlmfnhlldkeaaGreatDoorDoorA
import Derived.Test.YtanlmfnhlldkeaaGreatDoorTrsA
import Derived.Lay
namespace Go.Proofs.YtanlmfnhlldkeaaGreatDoor
open Go.ChangeShapes Go.WideShapes Go.ChangeAt Go.RowKit
set_option maxRecDepth 100000
theorem gSyn : Tryz.prog.globalNamed "strconv.ErrSyntax" = some 2 := by kernel_rfl
theorem gSynType : (Tryz.prog.globals[2]?).map (·.type) = some 35 := by kernel_rfl
theorem gRng : Tryz.prog.globalNamed "strconv.ErrRange" = some 3 := by kernel_rfl
theorem gRngType : (Tryz.prog.globals[3]?).map (·.type) = some 35 := by kernel_rfl
theorem cellsEs : Tryz.prog.cellsOf 237 = 1 := by kernel_rfl
theorem cellsStr : Tryz.prog.cellsOf 9 = 1 := by kernel_rfl
theorem starEs : "*" ++ "errors.errorString" = "*errors.errorString" := by decide
theorem rowEs (u : TypeId) (h : Tryz.prog.typeName? 3 u = some "*errors.errorString") : u = 235 :=
  typeName_ptr_named (nm := "errors.errorString") (by rw [starEs]; kernel_rfl) (by kernel_rfl) (by decide) u (by rw [starEs]; exact h)
theorem glob {W : World} (h : laidMetH Tryz.prog [("math/bits.deBruijn32tab", Rows.laid_math_bits_deBruijn32tab), ("math/bits.deBruijn64tab", Rows.laid_math_bits_deBruijn64tab), ("internal/strconv.uint64pow10", Rows.laid_internal_strconv_uint64pow10), ("unicode/utf8.acceptRanges", Rows.laid_unicode_utf8_acceptRanges), ("errors.errorType", Rows.laid_errors_errorType), ("strconv.ErrRange", Rows.laid_strconv_ErrRange), ("strconv.ErrSyntax", Rows.laid_strconv_ErrSyntax), ("unicode/utf8.first", Rows.laid_unicode_utf8_first)] W) : Glob W := by
  have h' : laidMet Tryz.prog [("math/bits.deBruijn32tab", Rows.laid_math_bits_deBruijn32tab), ("math/bits.deBruijn64tab", Rows.laid_math_bits_deBruijn64tab), ("internal/strconv.uint64pow10", Rows.laid_internal_strconv_uint64pow10), ("unicode/utf8.acceptRanges", Rows.laid_unicode_utf8_acceptRanges), ("strconv.ErrRange", Rows.laid_strconv_ErrRange), ("strconv.ErrSyntax", Rows.laid_strconv_ErrSyntax), ("unicode/utf8.first", Rows.laid_unicode_utf8_first)] W ∧ handlesMet Tryz.prog [("errors.errorType", Rows.laid_errors_errorType)] W := h
  refine ⟨tab_of_laid (rest := _) h'.1, errHandle (List.mem_singleton.2 rfl) h'.2, pow10_of_laid (rest := _) h'.1, fun V hV => ?_⟩
  have h3 := laidMet.tail (laidMet.tail (laidMet.tail (laidMet.tail h'.1)))
  obtain ⟨a0, s0, v0, _⟩ := laid_sentinel h3 gRng gRngType Tryz.underlying35 rowEs Tryz.underlying235 Tryz.underlying237 rfl rfl Tryz.underlying9 cellsEs cellsStr
  obtain ⟨a1, s1, v1, _⟩ := laid_sentinel (laidMet.tail h3) gSyn gSynType Tryz.underlying35 rowEs Tryz.underlying235 Tryz.underlying237 rfl rfl Tryz.underlying9 cellsEs cellsStr
  have c0 : W.cell? ⟨3, 0, none⟩ = some (.iface 235 (.pointer (some a0))) := by simpa using World.var?_cell gRng v0 0
  have c1 : W.cell? ⟨2, 0, none⟩ = some (.iface 235 (.pointer (some a1))) := by simpa using World.var?_cell gSyn v1 0
  exact ⟨⟨_, _, (hV.cell (block_lt c1)).trans c1⟩, _, _, (hV.cell (block_lt c0)).trans c0⟩
def lpart : List (String × DataW Unit) := [("math/bits.deBruijn32tab", Rows.laid_math_bits_deBruijn32tab), ("math/bits.deBruijn64tab", Rows.laid_math_bits_deBruijn64tab), ("internal/strconv.uint64pow10", Rows.laid_internal_strconv_uint64pow10), ("unicode/utf8.acceptRanges", Rows.laid_unicode_utf8_acceptRanges), ("strconv.ErrRange", Rows.laid_strconv_ErrRange), ("strconv.ErrSyntax", Rows.laid_strconv_ErrSyntax), ("unicode/utf8.first", Rows.laid_unicode_utf8_first)]
noncomputable def globWorld (os : Os) : World := (World.doorLaid Tryz.prog 400 os).layVars Tryz.prog lpart
theorem globWorld_os (os : Os) : (globWorld os).os = os := World.layVars_os _ _ _
theorem laidMet_glob (os : Os) (args : Array Value) : laidMet Tryz.prog lpart ((globWorld os).forCall (fun _ _ => 0) ⟨#[], args, []⟩).memory := by
  have e1 : (lpart.filter fun x => (lpart.map (·.1)).contains x.1) = lpart := List.filter_eq_self.2 fun x hx => List.contains_iff_mem.2 (List.mem_map.2 ⟨x, hx, rfl⟩)
  have e2 : (lpart.filter fun x => !(lpart.map (·.1)).contains x.1) = [] := List.filter_eq_nil_iff.2 fun x hx => by rw [List.contains_iff_mem.2 (List.mem_map.2 ⟨x, hx, rfl⟩)]; simp
  have hf : (World.doorLaid Tryz.prog 400 os).layFits Tryz.prog lpart [] = true := by kernel_rfl
  have hi : (World.doorLaid Tryz.prog 400 os).layIfaces Tryz.prog lpart (globWorld os) = true := by kernel_rfl
  have h : laidMet Tryz.prog lpart (globWorld os) := laidMet_layVars (w0 := World.doorLaid Tryz.prog 400 os) (lpart.map (·.1)) [] (by rw [e1]; rfl) (by rw [e1]; exact hf) (by rw [e1]; exact hi) (by rw [e2]; exact LaidIn.none)
  exact h.of_heap (by simp [World.memory, World.forCall, Input.heap])
end Go.Proofs.YtanlmfnhlldkeaaGreatDoor
