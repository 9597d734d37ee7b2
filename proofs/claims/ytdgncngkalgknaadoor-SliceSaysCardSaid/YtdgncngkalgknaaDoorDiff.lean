/-
  Sets: one without another; the operator &^ on numbers from 0 on. No program is looked at.
-/
import Derived.Test.YtdgncngkalgknaaDoorLeaf
namespace Go.Proofs.YtdgncngkalgknaaDoor
open Go.RowKit

/-- a without b -/
def diff (a b : Nat) : Nat := a ^^^ (a &&& b)
theorem diff_bit (a b j : Nat) : (diff a b).testBit j = (a.testBit j && !b.testBit j) := by
  unfold diff
  rw [Nat.testBit_xor, Nat.testBit_and]
  cases a.testBit j <;> cases b.testBit j <;> rfl
theorem diff_le (a b : Nat) : diff a b ≤ a := by
  have h : diff a b = a &&& diff a b := Nat.eq_of_testBit_eq fun j => by
    rw [Nat.testBit_and, diff_bit]; cases a.testBit j <;> simp
  rw [h]; exact Nat.and_le_left
theorem bits_andNot_nat (a b : Nat) (ha : a < 2 ^ 62) (hb : b < 2 ^ 62) : bits .andNot .i64 (a : Int) (b : Int) = ((diff a b : Nat) : Int) := by
  have h1 : ∀ x : Nat, x < 2 ^ 62 → (BitVec.ofInt 64 (x : Int)).toNat = x := fun x hx => by
    rw [BitVec.ofInt_natCast, BitVec.toNat_ofNat]; exact Nat.mod_eq_of_lt (by omega)
  have h2 : (BitVec.ofInt 64 (a : Int) &&& ~~~ BitVec.ofInt 64 (b : Int)).toNat = diff a b := by
    apply Nat.eq_of_testBit_eq
    intro j
    rw [diff_bit, BitVec.toNat_and, Nat.testBit_and, h1 a ha]
    by_cases hj : j < 64
    · rw [BitVec.testBit_toNat, BitVec.getLsbD_not, ← BitVec.testBit_toNat, h1 b hb]; simp [hj]
    · rw [Nat.testBit_lt_two_pow (Nat.lt_of_lt_of_le ha (Nat.pow_le_pow_right (by decide) (by omega)))]; simp
  show IntKind.i64.wrap ((BitVec.ofInt 64 (a : Int) &&& ~~~ BitVec.ofInt 64 (b : Int)).toNat : Int) = _
  rw [h2, IntKind.wrap_i64]
  have := diff_le a b
  omega
theorem diff_zero (a b : Nat) : (diff a b == 0) = within a b := by
  rw [Bool.eq_iff_iff, beq_iff_eq, within_iff]
  constructor
  · intro h i hi
    have := diff_bit a b i
    rw [h, hi, Nat.zero_testBit] at this
    simpa using this.symm
  · intro h
    apply Nat.eq_of_testBit_eq
    intro i
    rw [diff_bit, Nat.zero_testBit]
    cases hi : a.testBit i
    · rfl
    · rw [h i hi]; rfl
theorem diff_lt {a b n : Nat} (h : a < 2 ^ n) : diff a b < 2 ^ n := by
  refine Nat.lt_pow_two_of_testBit _ fun j hj => ?_
  rw [diff_bit, Nat.testBit_lt_two_pow (Nat.lt_of_lt_of_le h (Nat.pow_le_pow_right (by decide) hj))]
  rfl
end Go.Proofs.YtdgncngkalgknaaDoor
