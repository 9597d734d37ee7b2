/-
  Contracts: quietwingref1.Bit; laws on bits of numbers.
-/
import Derived.Test.YtdgncngkalgknaaDoorBitN
namespace Go.Proofs.YtdgncngkalgknaaDoor
open Go.RowKit

set_option maxHeartbeats 400000 in
theorem Bit_any (s i : Nat) (w : World) (hs : s < 2 ^ 62) (hi : i < 2 ^ 62) :
    Calls Tryd.prog 33 #[.int .i64 s, .int .i64 i] w fun e w' => e = .returned (.bool (s.testBit i)) ∧ w = w' := by
  go_enter Tryd.func33, Tryd.ntmps33
  go_wp2
  go_loop [0, 5] (fun v k => ∃ j : Nat, j ≤ i ∧ k = .int .i64 j ∧ v = .int .i64 (s / 2 ^ j : Nat)) (fun _ k => i - (intOf k).toNat)
  case atStart => exact ⟨0, Nat.zero_le _, rfl, by simp⟩
  case round =>
    obtain ⟨j, hj, rfl, rfl⟩ := hrel
    have hb : s / 2 ^ j < 2 ^ 62 := Nat.lt_of_le_of_lt (Nat.div_le_self _ _) hs
    generalize hd : s / 2 ^ j = d at *
    have Hd := Lib.hid hd
    clear hd
    by_cases hlt : j < i
    · by_cases hz : d = 0
      · subst hz
        go_wp2
        go_ret
        exact ⟨ret_bool (bit_end s i 0 (bit_zero s i j hj Hd.out)), rfl⟩
      · go_wp2
        refine ⟨⟨j + 1, by omega, by go_num, by rw [div_succ_cast s j d Hd.out]⟩, by simp [intOf]; omega⟩
    · obtain rfl : j = i := by omega
      go_wp2
      go_ret
      exact ⟨ret_bool (bit_end s j d Hd.out), rfl⟩

theorem Bit_is (s i : Nat) (b : Bool) (w : World) (hs : s < 2 ^ 62) (hi : i < 2 ^ 62) (hb : s.testBit i = b) :
    Calls Tryd.prog 33 #[.int .i64 s, .int .i64 i] w fun e w' => e = .returned (.bool b) ∧ w = w' := by
  subst hb; exact Bit_any s i w hs hi
end Go.Proofs.YtdgncngkalgknaaDoor
