/-
  Contracts of the leaf functions: core.Has, core.Mask, quietwingref1.Bit.
-/
import Derived.Test.YtdgncngkalgknaaDoorLeafN
import Derived.Test.YtdgncngkalgknaaDoorWithN
namespace Go.Proofs.YtdgncngkalgknaaDoor
open Go.RowKit


theorem div_pow_cast (s i : Nat) : ((s : Int) / 2 ^ i) = ((s / 2 ^ i : Nat) : Int) := by
  rw [Int.natCast_ediv]; norm_cast
theorem has_bits (s i : Nat) (hs : s < 2 ^ 62) : (bits .and .i64 ((s : Int) / 2 ^ i) 1 == 1) = s.testBit i := by
  rw [div_pow_cast]
  have h1 : s / 2 ^ i < 2 ^ 62 := Nat.lt_of_le_of_lt (Nat.div_le_self _ _) hs
  have := bits_and_nat (s / 2 ^ i) 1 h1 (by decide)
  rw [show (1 : Int) = ((1 : Nat) : Int) from rfl, this, Nat.and_one_is_mod]
  rw [Nat.testBit_eq_decide_div_mod_eq, Bool.eq_iff_iff, beq_iff_eq, decide_eq_true_iff]
  omega
theorem Has_any (s i : Nat) (w : World) (hs : s < 2 ^ 62) (hi : i < 64) :
    Calls Tryd.prog 99 #[.int .i64 s, .int .i64 i] w fun e w' => e = .returned (.bool (s.testBit i)) ∧ w = w' := by
  have H := Lib.hid (has_bits s i hs)
  go_enter Tryd.func99, Tryd.ntmps99
  go_wp2
  go_ret
  exact ⟨ret_bool H.out, rfl⟩

theorem Mask_any (s : Int) (n : Nat) (w : World) (hn : n < 62) :
    Calls Tryd.prog 103 #[.int .i64 s, .int .i64 n] w fun e w' => e = .returned (.bool (decide (0 ≤ s ∧ s < ((2 ^ n : Nat) : Int)))) ∧ w = w' := by
  have H := Lib.hid (wrap64_pow n hn)
  by_cases h0 : 0 ≤ s
  · go_enter Tryd.func103, Tryd.ntmps103
    go_wp2
    go_ret
    exact ⟨ret_bool (by show decide (s < wrap64 (2 ^ n)) = _; rw [H.out]; simp [h0]), rfl⟩
  · go_enter Tryd.func103, Tryd.ntmps103
    go_wp2
    go_ret
    exact ⟨ret_bool (by simp; omega), rfl⟩

theorem Has_is (s i : Nat) (b : Bool) (w : World) (hs : s < 2 ^ 62) (hi : i < 64) (hb : s.testBit i = b) :
    Calls Tryd.prog 99 #[.int .i64 s, .int .i64 i] w fun e w' => e = .returned (.bool b) ∧ w = w' := by
  subst hb; exact Has_any s i w hs hi
theorem Mask_is (s : Int) (n : Nat) (b : Bool) (w : World) (hn : n < 62) (hb : decide (0 ≤ s ∧ s < ((2 ^ n : Nat) : Int)) = b) :
    Calls Tryd.prog 103 #[.int .i64 s, .int .i64 n] w fun e w' => e = .returned (.bool b) ∧ w = w' := by
  subst hb; exact Mask_any s n w hn
end Go.Proofs.YtdgncngkalgknaaDoor
