/-
  Words on decimal digits, plain.
-/
import Derived.Test.YtfpghfmdkbdojaaGreatDoorBytesAdd
import Derived.Lib.ItoaLen
namespace Go.Proofs.YtfpghfmdkbdojaaGreatDoor
set_option linter.unusedVariables false

theorem digit_ext {v : Nat} (h : v < 10) : (⟨#[48, 49, 50, 51, 52, 53, 54, 55, 56, 57]⟩ : ByteArray).extract v (v + 1) = ⟨[UInt8.ofNat (48 + v)].toArray⟩ := by
  have : v = 0 ∨ v = 1 ∨ v = 2 ∨ v = 3 ∨ v = 4 ∨ v = 5 ∨ v = 6 ∨ v = 7 ∨ v = 8 ∨ v = 9 := by omega
  rcases this with rfl | rfl | rfl | rfl | rfl | rfl | rfl | rfl | rfl | rfl <;> rfl
theorem itoa_small {n : Nat} (h : n < 10) : Lib.itoa (n : Int) = [UInt8.ofNat (48 + n)] := by rw [Lib.itoa_nonneg, Lib.decDigits_one h]
theorem itoa_more {n : Nat} (h : ¬ n < 10) : Lib.itoa (n : Int) = Lib.itoa ((n / 10 : Nat) : Int) ++ Lib.itoa ((n % 10 : Nat) : Int) := by
  rw [Lib.itoa_nonneg, Lib.itoa_nonneg, Lib.itoa_nonneg, Lib.decDigits, dif_neg h, Lib.decDigits_one (i := n % 10) (by omega)]

end Go.Proofs.YtfpghfmdkbdojaaGreatDoor
