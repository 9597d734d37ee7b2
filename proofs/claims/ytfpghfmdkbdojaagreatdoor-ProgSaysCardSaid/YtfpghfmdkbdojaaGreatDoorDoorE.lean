/-
  From a row's list of variables to words of memory, where the list holds errors.errorType: the handle of the type error.
-/
import Derived.Test.YtfpghfmdkbdojaaGreatDoorFrame
import Derived.Test.YtfpghfmdkbdojaaGreatDoorAs
import Derived.Test.YtfpghfmdkbdojaaGreatDoorCards
import Derived.Test.YtfpghfmdkbdojaaGreatDoorTie
import Derived.Deep.DeepHandedRow
import Derived.Deep.DeepWitnessRowRef
import Derived.Stop.LaidErr
import Derived.LaidHandle
namespace Go.Proofs.YtfpghfmdkbdojaaGreatDoor
open Go.ChangeShapes Go.WideShapes Go.ChangeAt Go.RowKit
set_option maxRecDepth 100000

theorem errG : Tryz.prog.globalNamed "errors.errorType" = some 0 := by kernel_rfl
theorem errRt : (Tryz.prog.cutTypes.find? (·.1 == "internal/reflectlite.rtype")).map (·.2) = some 97 := by kernel_rfl
theorem errOneRow : ((List.range 174).filter fun t => Tryz.prog.rowNamed t [101, 114, 114, 111, 114]) = [26] := by kernel_rfl
theorem errSize : Tryz.prog.types.size = 174 := by kernel_rfl
theorem errHandle {W : World} {L : List (String × DataW Unit)} (hm : ("errors.errorType", Rows.laid_errors_errorType) ∈ L) (h : handlesMet Tryz.prog L W) : ErrT W := by
  obtain ⟨name, u, ty, e1, e2, e3, e4, e5⟩ := h _ hm
  have en : name = [101, 114, 114, 111, 114] := (Option.some.inj e1).symm
  subst en
  obtain rfl := Option.some.inj (errRt.symm.trans e2)
  have hm : ty ∈ (List.range 174).filter fun t => Tryz.prog.rowNamed t [101, 114, 114, 111, 114] := List.mem_filter.2 ⟨List.mem_range.2 (by rw [← errSize]; exact e3), e4⟩
  rw [errOneRow] at hm
  obtain rfl := List.mem_singleton.1 hm
  have hh : typeHandle Tryz.prog 26 = .pointer (some ⟨7, 26, none⟩) := by kernel_rfl
  rw [hh] at e5
  have := World.var?_cell errG e5 0
  unfold ErrT
  simpa using this
theorem errAlone {W : World} (h : laidMetH Tryz.prog [("errors.errorType", Rows.laid_errors_errorType)] W) : ErrT W := by
  have h' : laidMet Tryz.prog [] W ∧ handlesMet Tryz.prog [("errors.errorType", Rows.laid_errors_errorType)] W := h
  exact errHandle (List.mem_singleton.2 rfl) h'.2
/-- A world for the witness: the handle laid. -/
noncomputable def errHeap (h : Array Obj) : Array Obj :=
  h.modify 0 (fun o => match o with
    | .cells _ t frozen => .cells #[.iface 97 (.agg #[.pointer (some ⟨7, 26, none⟩)])] t frozen
    | o => o)
noncomputable def errWorld (os : Os) : World := { World.holding Tryz.prog os ⟨#[], #[], []⟩ with heap := errHeap (World.holding Tryz.prog os ⟨#[], #[], []⟩).heap }
end Go.Proofs.YtfpghfmdkbdojaaGreatDoor
