/-
  From the reading of an argument to words of memory: a slice of slices of ints.
-/
import Derived.Test.YtpfmllpodjcldaaDoorGrid
namespace Go.Proofs.YtpfmllpodjcldaaDoor
open Go.ChangeShapes Go.WideShapes Go.ChangeAt Go.RowKit Go.Deep
set_option maxRecDepth 100000
set_option linter.unusedVariables false

theorem gInt1 : Tryd.prog.cellsOf 3 = 1 := by kernel_rfl
theorem gRow1 : Tryd.prog.cellsOf 36 = 1 := by kernel_rfl
section
variable {H : Type} {enc : TypeId × Value → H} {W : World}
theorem open_grid {v : Value} {base : Nat} {d : DataW H} {p : List MemPlace} (hv : Value.okWide Tryd.prog W .any base 22 v)
    (h : DataW.Trod enc Tryd.prog W 0 (fun _ => true) true 22 v d p) : ∃ (L : List (List Int)) (A : Option Addr) (c : Nat), v = .slice A L.length c ∧ RowsIn anyB 1 W A L ∧ L.length ≤ maxLen ∧ ∀ l ∈ L, ∀ x ∈ l, I64 x := by
  obtain ⟨A, n, c, rfl⟩ := okWide_slice Tryd.underlying22 hv
  obtain ⟨fuel, hf⟩ := h
  obtain ⟨L, A', c', e, hl, hm, iL, bL⟩ := rows_of_cell Tryd.underlying22 gRow1 (introw_of_cell Tryd.underlying36 Tryd.underlying3 gInt1) hf
  exact ⟨L, A', c', e, iL, by omega, bL⟩
end
end Go.Proofs.YtpfmllpodjcldaaDoor
