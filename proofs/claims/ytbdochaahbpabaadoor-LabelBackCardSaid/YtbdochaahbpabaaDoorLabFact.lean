/-
  The closed fact of the laws on labels.
-/
import Derived.Test.YtbdochaahbpabaaDoorWrite
namespace Go.Proofs.YtbdochaahbpabaaDoor
open Go.RowKit
set_option maxRecDepth 100000

set_option maxHeartbeats 400000 in
theorem labelFact_any (w : World) (hT : Tab w) :
    Calls Tryd.prog 16 #[] w fun e w' => e = .returned (.bool true) ∧ Below w.heap.size w w' := by
  have H := Lib.hid (Write_ok 3 5 w (by decide) hT)
  rw [show labText 3 5 = [51, 97, 99] by decide] at H
  clear hT
  go_enter Tryd.func16, Tryd.ntmps16
  go_wp2_with fail
  refine H.out.mono ?_
  rintro e w1 ⟨rfl, hb1⟩
  go_wp2_with fail
  go_ret
  exact ⟨rfl, hb1⟩
end Go.Proofs.YtbdochaahbpabaaDoor
