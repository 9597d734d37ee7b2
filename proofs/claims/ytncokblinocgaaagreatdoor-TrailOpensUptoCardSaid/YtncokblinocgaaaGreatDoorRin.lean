/-
  Contract: quietwingref1.in.
-/
import Derived.Test.YtncokblinocgaaaGreatDoorBaseA
namespace Go.Proofs.YtncokblinocgaaaGreatDoor
open Go.RowKit

theorem Rin_any (n a b : Int) (V : World) : Calls Tryz.prog 152 #[.int .i64 n, .int .i64 a, .int .i64 b] V fun e w' => e = .returned (.bool (decide (a ≤ n) && decide (n ≤ b))) ∧ V = w' := by
  by_cases h : a ≤ n
  · have d : decide (a ≤ n) = true := by simpa using h
    have d' : decide (n ≥ a) = true := by simpa using h
    go_enter Tryz.func152, Tryz.ntmps152
    go_wp2
    go_ret
    exact ⟨by rw [d]; rfl, rfl⟩
  · have d : decide (a ≤ n) = false := by simpa using h
    have d' : decide (n ≥ a) = false := by simpa using h
    go_enter Tryz.func152, Tryz.ntmps152
    go_wp2
    go_ret
    exact ⟨rfl, rfl⟩
theorem Rin_is (n a b : Int) (t : Bool) (V : World) (h : (decide (a ≤ n) && decide (n ≤ b)) = t) : Calls Tryz.prog 152 #[.int .i64 n, .int .i64 a, .int .i64 b] V fun e w' => e = .returned (.bool t) ∧ V = w' := by
  subst h; exact Rin_any n a b V
end Go.Proofs.YtncokblinocgaaaGreatDoor
