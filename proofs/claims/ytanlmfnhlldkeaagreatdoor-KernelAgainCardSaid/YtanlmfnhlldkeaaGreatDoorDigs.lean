/-
  Contract: quietwingref5.Digits.
-/
import Derived.Test.YtanlmfnhlldkeaaGreatDoorBaseA
namespace Go.Proofs.YtanlmfnhlldkeaaGreatDoor
open Go.RowKit
set_option maxRecDepth 100000
set_option linter.unusedVariables false

set_option maxHeartbeats 4000000 in
theorem Digits_any (w : World) (n : Nat) (hn : n ≤ 9223372036854775807) : Calls Tryz.prog 36 #[.int .i64 n] w fun e w' => e = .returned (.string ⟨(Lib.itoa n).toArray⟩) ∧ w = w' := by
  induction n using Nat.strongRecOn with
  | ind n ih =>
    by_cases h10 : n < 10
    · have he := digit_ext h10
      have Hi := Lib.hid (itoa_small h10)
      have d1 : decide ((n : Int) < 10) = true := decide_eq_true (by omega)
      rw [Hi.out]
      clear ih
      go_enter Tryz.func36, Tryz.ntmps36
      go_wp2_with fail
      go_ret
      exact ⟨by show Ending.returned (Value.string ⟨#[48 + UInt8.ofNat n]⟩) = _; simp, rfl⟩
    · have d1 : decide ((n : Int) < 10) = false := decide_eq_false (by omega)
      have Hi := Lib.hid (itoa_more h10)
      have C1 := Lib.hid (ih (n / 10) (by omega) (by omega))
      have C2 := Lib.hid (ih (n % 10) (by omega) (by omega))
      have l1 := Lib.itoa_length_le ((n / 10 : Nat) : Int) (by omega) (by omega)
      have l2 := Lib.itoa_length_le ((n % 10 : Nat) : Int) (by omega) (by omega)
      have q1 : (n : Int).tdiv 10 = ((n / 10 : Nat) : Int) := by rw [Int.tdiv_eq_ediv_of_nonneg (by omega)]; rfl
      have q2 : (n : Int).tmod 10 = ((n % 10 : Nat) : Int) := by rw [Int.tmod_eq_emod_of_nonneg (by omega)]; rfl
      have hx1 : n / 10 ≤ 9223372036854775807 := by omega
      have hy1 : n % 10 ≤ 9223372036854775807 := by omega
      rw [Hi.out]
      clear ih Hi
      generalize n / 10 = x at *
      generalize n % 10 = y at *
      generalize Lib.itoa (x : Int) = t1 at *
      generalize Lib.itoa (y : Int) = t2 at *
      have hl : ¬ 9223372036854775807 < t1.length + t2.length := by omega
      go_enter Tryz.func36, Tryz.ntmps36
      go_wp2_with fail
      with_reducible refine C1.out.mono ?_
      rintro e w' ⟨rfl, rfl⟩
      go_wp2_with fail
      with_reducible refine C2.out.mono ?_
      rintro e w' ⟨rfl, rfl⟩
      go_wp2_with fail
      go_ret
      exact ⟨by rw [← bytes_add]; rfl, rfl⟩
end Go.Proofs.YtanlmfnhlldkeaaGreatDoor
