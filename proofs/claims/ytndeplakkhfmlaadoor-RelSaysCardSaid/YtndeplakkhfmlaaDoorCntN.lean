/-
  How many a set has. No program in sight.
-/
import Derived.Test.YtndeplakkhfmlaaDoorBase
namespace Go.Proofs.YtndeplakkhfmlaaDoor
set_option linter.unusedVariables false

def cnt : Nat → Nat → Nat
  | 0, _ => 0
  | n + 1, s => cnt n s + (if s.testBit n then 1 else 0)
theorem cnt_le (n s : Nat) : cnt n s ≤ n := by
  induction n with
  | zero => simp [cnt]
  | succ n ih => rw [cnt]; split <;> omega
end Go.Proofs.YtndeplakkhfmlaaDoor
