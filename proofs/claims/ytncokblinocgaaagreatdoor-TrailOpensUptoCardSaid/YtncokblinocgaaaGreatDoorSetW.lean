/-
  Contract: quietwingref1.With.
-/
import Derived.Test.YtncokblinocgaaaGreatDoorRowsA
namespace Go.Proofs.YtncokblinocgaaaGreatDoor
open Go.RowKit
set_option maxHeartbeats 400000 in

set_option maxHeartbeats 400000 in
theorem With_any (s i : Nat) (w : World) (hs : s < 2 ^ 60) (hi : i < 60) :
    Calls Tryz.prog 156 #[.int .i64 s, .int .i64 i] w fun e w' => e = .returned (.int .i64 (s ||| 2 ^ i : Nat)) ∧ w = w' := by
  have hp : 2 ^ i ≤ 2 ^ 59 := Nat.pow_le_pow_right (by decide) (by omega)
  have Hp := Lib.hid (Pow2_any i w hi)
  cases hb : s.testBit i with
  | true =>
    have He := Lib.hid (show s ||| 2 ^ i = s from Nat.eq_of_testBit_eq fun j => by
      rw [tb_or, tb_pow]
      by_cases e : i = j
      · subst e; simp [hb]
      · simp [e])
    have Hb := Lib.hid (Bit_is s i true w (by omega) (by omega) hb)
    generalize s ||| 2 ^ i = t at *
    clear hb
    go_enter Tryz.func156, Tryz.ntmps156
    go_wp2_with (go_at_call 38; refine Hb.out.mono ?_; rintro e w' ⟨rfl, rfl⟩)
    go_ret
    exact ⟨ret_int (by rw [He.out]), rfl⟩
  | false =>
    have He := Lib.hid (add_pow_or s i hb)
    have Hb := Lib.hid (Bit_is s i false w (by omega) (by omega) hb)
    generalize s ||| 2 ^ i = t at *
    generalize 2 ^ i = d at *
    clear hb
    go_enter Tryz.func156, Tryz.ntmps156
    go_wp2_with (first | (go_at_call 38; refine Hb.out.mono ?_; rintro e w' ⟨rfl, rfl⟩) | (go_at_call 95; refine Hp.out.mono ?_; rintro e w' ⟨rfl, rfl⟩))
    go_ret
    exact ⟨ret_int (by have := He.out; omega), rfl⟩
theorem With_is (s i u : Nat) (w : World) (hs : s < 2 ^ 60) (hi : i < 60) (hu : s ||| 2 ^ i = u) :
    Calls Tryz.prog 156 #[.int .i64 s, .int .i64 i] w fun e w' => e = .returned (.int .i64 u) ∧ w = w' := by
  subst hu; exact With_any s i w hs hi
end Go.Proofs.YtncokblinocgaaaGreatDoor
