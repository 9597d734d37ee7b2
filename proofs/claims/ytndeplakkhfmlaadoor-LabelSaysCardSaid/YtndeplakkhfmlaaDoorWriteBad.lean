/-
  Contract: label.Write of what is none.
-/
import Derived.Test.YtndeplakkhfmlaaDoorWrite
import Derived.Test.YtndeplakkhfmlaaDoorParse
namespace Go.Proofs.YtndeplakkhfmlaaDoor
open Go.RowKit
set_option maxRecDepth 100000
set_option linter.unusedVariables false

theorem Write_bad (v s : Int) (w : World) (h : ¬ labOk v s) :
    Calls Tryd.prog 20 #[labV v s] w fun e w' => e = .returned (.tuple #[.string ⟨#[]⟩, errVal 1]) ∧ Below w.heap.size w w' := by
  have H1 := Lib.hid (fun W => LabCheck_bad v s W h)
  clear h
  unfold labV at *
  rw [errVal_pos (by decide)]
  go_enter Tryd.func20, Tryd.ntmps20
  go_wp2_with fail
  refine (H1.out _).mono ?_
  rintro e w1 ⟨rfl, hb1⟩
  go_wp2_with fail
  go_ret2
  exact ⟨rfl, ((Below.refl _ w).alloc (Nat.le_refl _) _).trans (hb1.mono (by simp))⟩
end Go.Proofs.YtndeplakkhfmlaaDoor
