/-
  Bits of numbers, as the model spells them. No function of the program is looked at.
-/
import Derived.Test.YtdgncngkalgknaaDoorBase
namespace Go.Proofs.YtdgncngkalgknaaDoor
open Go.RowKit

theorem bits_and_nat (a b : Nat) (ha : a < 2 ^ 62) (hb : b < 2 ^ 62) : bits .and .i64 (a : Int) (b : Int) = ((a &&& b : Nat) : Int) :=
  (bits_nat .i64 62 (by decide) (fun n h0 h1 => by rw [IntKind.wrap_i64]; omega) a b ha hb).1
theorem bits_or_nat (a b : Nat) (ha : a < 2 ^ 62) (hb : b < 2 ^ 62) : bits .or .i64 (a : Int) (b : Int) = ((a ||| b : Nat) : Int) :=
  (bits_nat .i64 62 (by decide) (fun n h0 h1 => by rw [IntKind.wrap_i64]; omega) a b ha hb).2

theorem two_pow_lt (n : Nat) (hn : n < 62) : (2 : Int) ^ n ≤ 2 ^ 61 := by
  have : (2 : Nat) ^ n ≤ 2 ^ 61 := Nat.pow_le_pow_right (by decide) (by omega)
  exact_mod_cast this
theorem wrap64_pow (n : Nat) (hn : n < 62) : wrap64 ((2 : Int) ^ n) = ((2 ^ n : Nat) : Int) := by
  have h1 := two_pow_lt n hn
  have h0 : (0 : Int) < 2 ^ n := Int.pow_pos (by decide)
  rw [wrap64]; push_cast; omega

theorem div_succ_cast (s j d : Nat) (h : s / 2 ^ j = d) : ((d : Int) / 2) = ((s / 2 ^ (j + 1) : Nat) : Int) := by
  rw [Nat.pow_succ, ← Nat.div_div_eq_div_mul, h]; omega
theorem bit_end (s i d : Nat) (h : s / 2 ^ i = d) : ((d : Int) % 2 == 1) = s.testBit i := by
  rw [Nat.testBit_eq_decide_div_mod_eq, h, Bool.eq_iff_iff, beq_iff_eq, decide_eq_true_iff]; omega
theorem bit_zero (s i j : Nat) (hj : j ≤ i) (h : s / 2 ^ j = 0) : s / 2 ^ i = 0 := by
  have h1 : s < 2 ^ j := (Nat.div_eq_zero_iff_lt (Nat.two_pow_pos j)).1 h
  exact Nat.div_eq_of_lt (Nat.lt_of_lt_of_le h1 (Nat.pow_le_pow_right (by decide) hj))

end Go.Proofs.YtdgncngkalgknaaDoor
