/-
  Contract: quietwingref1.Mask.
-/
import Derived.Test.YtncokblinocgaaaGreatDoorRowsA
namespace Go.Proofs.YtncokblinocgaaaGreatDoor
open Go.RowKit
set_option maxRecDepth 100000

theorem RMask_any (s : Int) (n : Nat) (w : World) (hn : n < 60) :
    Calls Tryz.prog 153 #[.int .i64 s, .int .i64 n] w fun e w' => e = .returned (.bool (decide (0 ≤ s ∧ s < ((2 ^ n : Nat) : Int)))) ∧ w = w' := by
  have H := Lib.hid (Pow2_any n w hn)
  generalize 2 ^ n = m at *
  by_cases h0 : 0 ≤ s
  · go_enter Tryz.func153, Tryz.ntmps153
    go_wp2_with (go_at_call 95; with_reducible refine H.out.mono ?_; rintro e w' ⟨rfl, rfl⟩)
    go_ret
    exact ⟨ret_bool (by simp [h0]), rfl⟩
  · go_enter Tryz.func153, Tryz.ntmps153
    go_wp2
    go_ret
    exact ⟨ret_bool (by simp; omega), rfl⟩
theorem RMask_is (s : Int) (n : Nat) (b : Bool) (w : World) (hn : n < 60) (hb : decide (0 ≤ s ∧ s < ((2 ^ n : Nat) : Int)) = b) :
    Calls Tryz.prog 153 #[.int .i64 s, .int .i64 n] w fun e w' => e = .returned (.bool b) ∧ w = w' := by
  subst hb; exact RMask_any s n w hn

end Go.Proofs.YtncokblinocgaaaGreatDoor
