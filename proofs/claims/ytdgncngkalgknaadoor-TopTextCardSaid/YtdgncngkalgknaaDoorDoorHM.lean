/-
  From a row's list of variables to words of memory, where the list holds errors.errorType: the handle of the type error.
  From the row's list of variables to words of memory: the tables of math/bits and the powers of ten of strconv.
  From the lists of variables of the laws that read texts to words of memory: the powers of ten, the handle of the type error. A start that meets them: the heap that the initialisers leave.
  From the lists of variables of the laws that read texts: the errors of strconv lie in their variables.
-/
import Derived.Test.YtdgncngkalgknaaDoorFrame
import Derived.Test.YtdgncngkalgknaaDoorAs
import Derived.Test.YtdgncngkalgknaaDoorCards
import Derived.Test.YtdgncngkalgknaaDoorTie
import Derived.Deep.DeepHandedRow
import Derived.Deep.DeepWitnessRowRef
import Derived.Stop.LaidErr
import Derived.LaidHandle
import Derived.Test.YtdgncngkalgknaaDoorItoa
import Derived.Lib.LaidTab
import Derived.Lib.SmallJoins
import Derived.Lib.TrailingZeros
import Derived.ChangeOld
import Derived.LaidMore
import Derived.Test.YtdgncngkalgknaaDoorRdM
namespace Go.Proofs.YtdgncngkalgknaaDoor
open Go.ChangeShapes Go.WideShapes Go.ChangeAt Go.RowKit
set_option maxRecDepth 100000

theorem errG : Tryd.prog.globalNamed "errors.errorType" = some 0 := by kernel_rfl
theorem errRt : (Tryd.prog.cutTypes.find? (·.1 == "internal/reflectlite.rtype")).map (·.2) = some 147 := by kernel_rfl
theorem errOneRow : ((List.range 213).filter fun t => Tryd.prog.rowNamed t [101, 114, 114, 111, 114]) = [25] := by kernel_rfl
theorem errSize : Tryd.prog.types.size = 213 := by kernel_rfl
theorem errHandle {W : World} {L : List (String × DataW Unit)} (hm : ("errors.errorType", Rows.laid_errors_errorType) ∈ L) (h : handlesMet Tryd.prog L W) : ErrT W := by
  obtain ⟨name, u, ty, e1, e2, e3, e4, e5⟩ := h _ hm
  have en : name = [101, 114, 114, 111, 114] := (Option.some.inj e1).symm
  subst en
  obtain rfl := Option.some.inj (errRt.symm.trans e2)
  have hm : ty ∈ (List.range 213).filter fun t => Tryd.prog.rowNamed t [101, 114, 114, 111, 114] := List.mem_filter.2 ⟨List.mem_range.2 (by rw [← errSize]; exact e3), e4⟩
  rw [errOneRow] at hm
  obtain rfl := List.mem_singleton.1 hm
  have hh : typeHandle Tryd.prog 25 = .pointer (some ⟨7, 25, none⟩) := by kernel_rfl
  rw [hh] at e5
  have := World.var?_cell errG e5 0
  unfold ErrT
  simpa using this
theorem errAlone {W : World} (h : laidMetH Tryd.prog [("errors.errorType", Rows.laid_errors_errorType)] W) : ErrT W := by
  have h' : laidMet Tryd.prog [] W ∧ handlesMet Tryd.prog [("errors.errorType", Rows.laid_errors_errorType)] W := h
  exact errHandle (List.mem_singleton.2 rfl) h'.2
/-- A world for the witness: the handle laid. -/
noncomputable def errHeap (h : Array Obj) : Array Obj :=
  h.modify 0 (fun o => match o with
    | .cells _ t frozen => .cells #[.iface 147 (.agg #[.pointer (some ⟨7, 25, none⟩)])] t frozen
    | o => o)
noncomputable def errWorld (os : Os) : World := { World.holding Tryd.prog os ⟨#[], #[], []⟩ with heap := errHeap (World.holding Tryd.prog os ⟨#[], #[], []⟩).heap }
end Go.Proofs.YtdgncngkalgknaaDoor

namespace Go.Proofs.YtdgncngkalgknaaDoor
open Go.ChangeShapes Go.WideShapes Go.ChangeAt Go.RowKit Go.Joins
set_option maxRecDepth 100000

theorem gP10 : Tryd.prog.globalNamed "internal/strconv.uint64pow10" = some 3 := by kernel_rfl
theorem gP10Type : (Tryd.prog.globals[3]?).map (·.type) = some 175 := by kernel_rfl
theorem cellsP10 : Tryd.prog.cellsOf 175 = 20 := by kernel_rfl
theorem cellsU64 : Tryd.prog.cellsOf 145 = 1 := by kernel_rfl
theorem laidP10 : (Rows.laid_internal_strconv_uint64pow10 : DataW Unit) = Lib.tabData .u64 Lib.pow10Tab := by kernel_rfl
theorem pow10_of_laid {W : World} {x y : String × DataW Unit} {rest : List (String × DataW Unit)} (h : laidMet Tryd.prog (x :: y :: ("internal/strconv.uint64pow10", Rows.laid_internal_strconv_uint64pow10) :: rest) W) : Pow10 W.heap.size W := by
  have h2 := laidMet.tail (laidMet.tail h)
  rw [laidP10] at h2
  exact Lib.tabBelow_of_tabIs (Lib.tabIs_of_head (rest := rest) gP10 gP10Type Tryd.underlying175 Tryd.underlying145 cellsU64 cellsP10 h2)
theorem powTable {W : World} (h : laidMetH Tryd.prog [("math/bits.deBruijn32tab", Rows.laid_math_bits_deBruijn32tab), ("math/bits.deBruijn64tab", Rows.laid_math_bits_deBruijn64tab), ("internal/strconv.uint64pow10", Rows.laid_internal_strconv_uint64pow10)] W) : Pow10 W.heap.size W := pow10_of_laid (rest := []) h
/-- A world for the witness: the settled one, the tables holding what their initialisers lay. -/
noncomputable def powHeap (h : Array Obj) : Array Obj :=
  ((h.modify 1 (fun o => match o with
    | .cells _ t frozen => .cells ((Lib.deBruijn32tab.map Int.ofNat).map (Value.int .u8)).toArray t frozen
    | o => o)).modify 2 (fun o => match o with
    | .cells _ t frozen => .cells ((Lib.deBruijn64tab.map Int.ofNat).map (Value.int .u8)).toArray t frozen
    | o => o)).modify 3 (fun o => match o with
    | .cells _ t frozen => .cells (Lib.pow10Tab.map (Value.int .u64)).toArray t frozen
    | o => o)
noncomputable def powWorld (os : Os) : World := { World.holding Tryd.prog os ⟨#[], #[], []⟩ with heap := powHeap (World.holding Tryd.prog os ⟨#[], #[], []⟩).heap }
end Go.Proofs.YtdgncngkalgknaaDoor

namespace Go.Proofs.YtdgncngkalgknaaDoor
open Go.ChangeShapes Go.WideShapes Go.ChangeAt Go.RowKit
set_option maxRecDepth 100000
theorem text5 {W : World} (h : laidMetH Tryd.prog [("math/bits.deBruijn32tab", Rows.laid_math_bits_deBruijn32tab), ("math/bits.deBruijn64tab", Rows.laid_math_bits_deBruijn64tab), ("internal/strconv.uint64pow10", Rows.laid_internal_strconv_uint64pow10), ("strconv.ErrRange", Rows.laid_strconv_ErrRange), ("strconv.ErrSyntax", Rows.laid_strconv_ErrSyntax)] W) : Pow10 W.heap.size W := pow10_of_laid (rest := _) h
theorem text6 {W : World} (h : laidMetH Tryd.prog [("math/bits.deBruijn32tab", Rows.laid_math_bits_deBruijn32tab), ("math/bits.deBruijn64tab", Rows.laid_math_bits_deBruijn64tab), ("internal/strconv.uint64pow10", Rows.laid_internal_strconv_uint64pow10), ("errors.errorType", Rows.laid_errors_errorType), ("strconv.ErrRange", Rows.laid_strconv_ErrRange), ("strconv.ErrSyntax", Rows.laid_strconv_ErrSyntax)] W) : Pow10 W.heap.size W ∧ ErrT W := by
  have h' : laidMet Tryd.prog [("math/bits.deBruijn32tab", Rows.laid_math_bits_deBruijn32tab), ("math/bits.deBruijn64tab", Rows.laid_math_bits_deBruijn64tab), ("internal/strconv.uint64pow10", Rows.laid_internal_strconv_uint64pow10), ("strconv.ErrRange", Rows.laid_strconv_ErrRange), ("strconv.ErrSyntax", Rows.laid_strconv_ErrSyntax)] W ∧ handlesMet Tryd.prog [("errors.errorType", Rows.laid_errors_errorType)] W := h
  exact ⟨pow10_of_laid (rest := _) h'.1, errHandle (List.mem_singleton.2 rfl) h'.2⟩
noncomputable def textWorld (os : Os) : World := World.doorLaid Tryd.prog 400 os
end Go.Proofs.YtdgncngkalgknaaDoor

namespace Go.Proofs.YtdgncngkalgknaaDoor
open Go.ChangeShapes Go.WideShapes Go.ChangeAt Go.RowKit
set_option maxRecDepth 100000
theorem gSyn : Tryd.prog.globalNamed "strconv.ErrSyntax" = some 5 := by kernel_rfl
theorem gSynType : (Tryd.prog.globals[5]?).map (·.type) = some 25 := by kernel_rfl
theorem gRng : Tryd.prog.globalNamed "strconv.ErrRange" = some 6 := by kernel_rfl
theorem gRngType : (Tryd.prog.globals[6]?).map (·.type) = some 25 := by kernel_rfl
theorem cellsEs : Tryd.prog.cellsOf 186 = 1 := by kernel_rfl
theorem cellsStr : Tryd.prog.cellsOf 9 = 1 := by kernel_rfl
theorem starEs : "*" ++ "errors.errorString" = "*errors.errorString" := by decide
theorem cell_lt {W : World} {a : Addr} {v : Value} (h : W.cell? a = some v) : a.block < W.heap.size := by
  rcases Nat.lt_or_ge a.block W.heap.size with h' | h'
  · exact h'
  · simp [World.cell?, Array.getElem?_eq_none h'] at h
theorem rowEs (u : TypeId) (h : Tryd.prog.typeName? 3 u = some "*errors.errorString") : u = 184 :=
  typeName_ptr_named (nm := "errors.errorString") (by rw [starEs]; kernel_rfl) (by kernel_rfl) (by decide) u (by rw [starEs]; exact h)
theorem numErrs {W : World} (h : laidMet Tryd.prog [("math/bits.deBruijn32tab", Rows.laid_math_bits_deBruijn32tab), ("math/bits.deBruijn64tab", Rows.laid_math_bits_deBruijn64tab), ("internal/strconv.uint64pow10", Rows.laid_internal_strconv_uint64pow10), ("strconv.ErrRange", Rows.laid_strconv_ErrRange), ("strconv.ErrSyntax", Rows.laid_strconv_ErrSyntax)] W) (V : World) (hV : Below W.heap.size W V) : NumErrs V := by
  have h3 := laidMet.tail (laidMet.tail (laidMet.tail h))
  obtain ⟨a0, s0, v0, _⟩ := laid_sentinel h3 gRng gRngType Tryd.underlying25 rowEs Tryd.underlying184 Tryd.underlying186 rfl rfl Tryd.underlying9 cellsEs cellsStr
  obtain ⟨a1, s1, v1, _⟩ := laid_sentinel (laidMet.tail h3) gSyn gSynType Tryd.underlying25 rowEs Tryd.underlying184 Tryd.underlying186 rfl rfl Tryd.underlying9 cellsEs cellsStr
  have c0 : W.cell? ⟨6, 0, none⟩ = some (.iface 184 (.pointer (some a0))) := by simpa using World.var?_cell gRng v0 0
  have c1 : W.cell? ⟨5, 0, none⟩ = some (.iface 184 (.pointer (some a1))) := by simpa using World.var?_cell gSyn v1 0
  exact ⟨⟨_, _, (hV.cell (cell_lt c1)).trans c1⟩, _, _, (hV.cell (cell_lt c0)).trans c0⟩
theorem text7 {W : World} (h : laidMetH Tryd.prog [("math/bits.deBruijn32tab", Rows.laid_math_bits_deBruijn32tab), ("math/bits.deBruijn64tab", Rows.laid_math_bits_deBruijn64tab), ("internal/strconv.uint64pow10", Rows.laid_internal_strconv_uint64pow10), ("errors.errorType", Rows.laid_errors_errorType), ("strconv.ErrRange", Rows.laid_strconv_ErrRange), ("strconv.ErrSyntax", Rows.laid_strconv_ErrSyntax)] W) : (Pow10 W.heap.size W ∧ ErrT W) ∧ ∀ V, Below W.heap.size W V → NumErrs V := by
  refine ⟨text6 h, ?_⟩
  have h' : laidMet Tryd.prog [("math/bits.deBruijn32tab", Rows.laid_math_bits_deBruijn32tab), ("math/bits.deBruijn64tab", Rows.laid_math_bits_deBruijn64tab), ("internal/strconv.uint64pow10", Rows.laid_internal_strconv_uint64pow10), ("strconv.ErrRange", Rows.laid_strconv_ErrRange), ("strconv.ErrSyntax", Rows.laid_strconv_ErrSyntax)] W ∧ handlesMet Tryd.prog [("errors.errorType", Rows.laid_errors_errorType)] W := h
  exact numErrs h'.1
end Go.Proofs.YtdgncngkalgknaaDoor
