/-
  Contracts: quietwingref1.Bit; laws on bits of numbers.
-/
import Derived.Test.YtgnoimenclmfoaaBase
namespace Go.Proofs.Ytgnoimenclmfoaa
open Go.RowKit

theorem bits_and_nat (a b : Nat) (ha : a < 2 ^ 62) (hb : b < 2 ^ 62) : bits .and .i64 (a : Int) (b : Int) = ((a &&& b : Nat) : Int) :=
  (bits_nat .i64 62 (by decide) (fun n h0 h1 => by rw [IntKind.wrap_i64]; omega) a b ha hb).1
theorem bits_or_nat (a b : Nat) (ha : a < 2 ^ 62) (hb : b < 2 ^ 62) : bits .or .i64 (a : Int) (b : Int) = ((a ||| b : Nat) : Int) :=
  (bits_nat .i64 62 (by decide) (fun n h0 h1 => by rw [IntKind.wrap_i64]; omega) a b ha hb).2

theorem two_pow_lt (n : Nat) (hn : n < 62) : (2 : Int) ^ n ≤ 2 ^ 61 := by
  have : (2 : Nat) ^ n ≤ 2 ^ 61 := Nat.pow_le_pow_right (by decide) (by omega)
  exact_mod_cast this
theorem wrap64_pow (n : Nat) (hn : n < 62) : wrap64 ((2 : Int) ^ n) = ((2 ^ n : Nat) : Int) := by
  have h1 := two_pow_lt n hn
  have h0 : (0 : Int) < 2 ^ n := Int.pow_pos (by decide)
  rw [wrap64]; push_cast; omega

theorem div_succ_cast (s j d : Nat) (h : s / 2 ^ j = d) : ((d : Int) / 2) = ((s / 2 ^ (j + 1) : Nat) : Int) := by
  rw [Nat.pow_succ, ← Nat.div_div_eq_div_mul, h]; omega
theorem bit_end (s i d : Nat) (h : s / 2 ^ i = d) : ((d : Int) % 2 == 1) = s.testBit i := by
  rw [Nat.testBit_eq_decide_div_mod_eq, h, Bool.eq_iff_iff, beq_iff_eq, decide_eq_true_iff]; omega
theorem bit_zero (s i j : Nat) (hj : j ≤ i) (h : s / 2 ^ j = 0) : s / 2 ^ i = 0 := by
  have h1 : s < 2 ^ j := (Nat.div_eq_zero_iff_lt (Nat.two_pow_pos j)).1 h
  exact Nat.div_eq_of_lt (Nat.lt_of_lt_of_le h1 (Nat.pow_le_pow_right (by decide) hj))

set_option maxHeartbeats 400000 in
theorem Bit_any (s i : Nat) (w : World) (hs : s < 2 ^ 62) (hi : i < 2 ^ 62) :
    Calls Try.prog 9 #[.int .i64 s, .int .i64 i] w fun e w' => e = .returned (.bool (s.testBit i)) ∧ w = w' := by
  go_enter Try.func9, Try.ntmps9
  go_wp2
  go_loop [0, 5] (fun v k => ∃ j : Nat, j ≤ i ∧ k = .int .i64 j ∧ v = .int .i64 (s / 2 ^ j : Nat)) (fun _ k => i - (intOf k).toNat)
  case atStart => exact ⟨0, Nat.zero_le _, rfl, by simp⟩
  case round =>
    obtain ⟨j, hj, rfl, rfl⟩ := hrel
    have hb : s / 2 ^ j < 2 ^ 62 := Nat.lt_of_le_of_lt (Nat.div_le_self _ _) hs
    generalize hd : s / 2 ^ j = d at *
    have Hd := Lib.hid hd
    clear hd
    by_cases hlt : j < i
    · by_cases hz : d = 0
      · subst hz
        go_wp2
        go_ret
        exact ⟨ret_bool (bit_end s i 0 (bit_zero s i j hj Hd.out)), rfl⟩
      · go_wp2
        refine ⟨⟨j + 1, by omega, by go_num, by rw [div_succ_cast s j d Hd.out]⟩, by simp [intOf]; omega⟩
    · obtain rfl : j = i := by omega
      go_wp2
      go_ret
      exact ⟨ret_bool (bit_end s j d Hd.out), rfl⟩

theorem Bit_is (s i : Nat) (b : Bool) (w : World) (hs : s < 2 ^ 62) (hi : i < 2 ^ 62) (hb : s.testBit i = b) :
    Calls Try.prog 9 #[.int .i64 s, .int .i64 i] w fun e w' => e = .returned (.bool b) ∧ w = w' := by
  subst hb; exact Bit_any s i w hs hi
end Go.Proofs.Ytgnoimenclmfoaa
