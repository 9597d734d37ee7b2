/-
  An error as a value.
-/
import Derived.Test.YtfpghfmdkbdojaaGreatDoorBase
namespace Go.Proofs.YtfpghfmdkbdojaaGreatDoor

/-- An error as a value: nil, or the number. -/
def errVal (n : Nat) : Value := if n = 0 then .nilIface else .iface 43 (.int .i64 n)
theorem errVal_zero : errVal 0 = .nilIface := rfl
theorem errVal_pos {k : Nat} (h : k ≠ 0) : errVal k = .iface 43 (.int .i64 k) := by unfold errVal; rw [if_neg h]
end Go.Proofs.YtfpghfmdkbdojaaGreatDoor
