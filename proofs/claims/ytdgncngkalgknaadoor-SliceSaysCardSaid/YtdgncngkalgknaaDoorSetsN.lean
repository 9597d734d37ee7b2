/-
  Contracts: quietwingref1.Bit of any number from 0 on, Pow2, With.
-/
import Derived.Test.YtdgncngkalgknaaDoorLeafN
import Derived.Test.YtdgncngkalgknaaDoorCast
namespace Go.Proofs.YtdgncngkalgknaaDoor
open Go.RowKit

theorem add_pow_or (s i : Nat) (hs : s.testBit i = false) : s + 2 ^ i = s ||| 2 ^ i := by
  induction i generalizing s with
  | zero =>
    rw [Nat.testBit_zero] at hs
    have h0 : s % 2 = 0 := by simpa using hs
    refine Nat.eq_of_testBit_eq fun j => ?_
    rw [tb_or]
    cases j with
    | zero => simp [Nat.testBit_zero]; omega
    | succ j =>
      rw [Nat.testBit_succ, Nat.testBit_succ, Nat.testBit_succ]
      have e1 : (s + 2 ^ 0) / 2 = s / 2 := by omega
      rw [e1]; simp
  | succ i ih =>
    rw [Nat.testBit_succ] at hs
    have h := ih (s / 2) hs
    have e : (s + 2 ^ (i + 1)) / 2 = s / 2 + 2 ^ i := by rw [Nat.pow_succ]; omega
    have e2 : (s + 2 ^ (i + 1)) % 2 = s % 2 := by rw [Nat.pow_succ]; omega
    refine Nat.eq_of_testBit_eq fun j => ?_
    rw [tb_or]
    cases j with
    | zero =>
      rw [Nat.testBit_zero, Nat.testBit_zero, e2, tb_pow]
      simp
    | succ j =>
      rw [Nat.testBit_succ, e, h, tb_or, Nat.testBit_succ, tb_pow, tb_pow]
      simp

set_option maxHeartbeats 400000 in
theorem BitW_any (s i : Nat) (w : World) (hs : s < 2 ^ 63) (hi : i < 2 ^ 62) :
    Calls Tryd.prog 33 #[.int .i64 s, .int .i64 i] w fun e w' => e = .returned (.bool (s.testBit i)) ∧ w = w' := by
  go_enter Tryd.func33, Tryd.ntmps33
  go_wp2
  go_loop [0, 5] (fun v k => ∃ j : Nat, j ≤ i ∧ k = .int .i64 j ∧ v = .int .i64 (s / 2 ^ j : Nat)) (fun _ k => i - (intOf k).toNat)
  case atStart => exact ⟨0, Nat.zero_le _, rfl, by simp⟩
  case round =>
    obtain ⟨j, hj, rfl, rfl⟩ := hrel
    have hb : s / 2 ^ j < 2 ^ 63 := Nat.lt_of_le_of_lt (Nat.div_le_self _ _) hs
    generalize hd : s / 2 ^ j = d at *
    have Hd := Lib.hid hd
    clear hd
    by_cases hlt : j < i
    · by_cases hz : d = 0
      · subst hz
        go_wp2
        go_ret
        exact ⟨ret_bool (bit_end s i 0 (bit_zero s i j hj Hd.out)), rfl⟩
      · go_wp2
        refine ⟨⟨j + 1, by omega, by go_num, by rw [div_succ_cast s j d Hd.out]⟩, by simp [intOf]; omega⟩
    · obtain rfl : j = i := by omega
      go_wp2
      go_ret
      exact ⟨ret_bool (bit_end s j d Hd.out), rfl⟩
theorem BitW_is (s i : Nat) (b : Bool) (w : World) (hs : s < 2 ^ 63) (hi : i < 2 ^ 62) (hb : s.testBit i = b) :
    Calls Tryd.prog 33 #[.int .i64 s, .int .i64 i] w fun e w' => e = .returned (.bool b) ∧ w = w' := by
  subst hb; exact BitW_any s i w hs hi

theorem BitI_is (s : Int) (i : Nat) (b : Bool) (w : World) (h0 : 0 ≤ s) (hs : s < 2 ^ 63) (hi : i < 2 ^ 62) (hb : s.toNat.testBit i = b) :
    Calls Tryd.prog 33 #[.int .i64 s, .int .i64 i] w fun e w' => e = .returned (.bool b) ∧ w = w' := by
  obtain ⟨n, rfl⟩ := Int.eq_ofNat_of_zero_le h0
  exact BitW_is n i b w (by omega) hi (by simpa using hb)

theorem Pow2_any (n : Nat) (w : World) (hn : n < 60) :
    Calls Tryd.prog 22 #[.int .i64 n] w fun e w' => e = .returned (.int .i64 (2 ^ n : Nat)) ∧ w = w' := by
  have hp : 2 ^ n ≤ 2 ^ 59 := Nat.pow_le_pow_right (by decide) (by omega)
  go_enter Tryd.func22, Tryd.ntmps22
  go_wp2
  go_loop [3, 4] (fun v k => ∃ j : Nat, j ≤ n ∧ k = .int .i64 j ∧ v = .int .i64 (2 ^ j : Nat)) (fun _ k => n - (intOf k).toNat)
  case atStart => exact ⟨0, Nat.zero_le _, rfl, rfl⟩
  case round =>
    obtain ⟨j, hj, rfl, rfl⟩ := hrel
    have hpj : 2 ^ j ≤ 2 ^ n := Nat.pow_le_pow_right (by decide) hj
    have Hs := Lib.hid (show (2 ^ (j + 1) : Nat) = 2 ^ j * 2 from Nat.pow_succ 2 j)
    generalize hd : 2 ^ j = d at *
    have Hd := Lib.hid hd
    clear hd
    by_cases hlt : j < n
    · generalize 2 ^ n = m at *
      go_wp2
      refine ⟨⟨j + 1, by omega, by go_num, by rw [Hs.out]; go_num⟩, by simp [intOf]; omega⟩
    · obtain rfl : j = n := by omega
      clear hpj
      go_wp2
      go_ret
      exact ⟨ret_int (by rw [← Hd.out]; simp), rfl⟩
end Go.Proofs.YtdgncngkalgknaaDoor
