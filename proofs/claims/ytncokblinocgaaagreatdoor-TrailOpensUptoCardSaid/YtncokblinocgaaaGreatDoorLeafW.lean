/-
  Contract: quietwingref1.Within.
-/
import Derived.Test.YtncokblinocgaaaGreatDoorBaseA
namespace Go.Proofs.YtncokblinocgaaaGreatDoor
open Go.RowKit

set_option maxHeartbeats 400000 in
theorem Within_any (a b : Nat) (w : World) (ha : a < 2 ^ 62) (hb : b < 2 ^ 62) :
    Calls Tryz.prog 172 #[.int .i64 a, .int .i64 b] w fun e w' => e = .returned (.bool (within a b)) ∧ w = w' := by
  go_enter Tryz.func172, Tryz.ntmps172
  go_wp2
  go_loop [0, 1] (fun x y => ∃ c d : Nat, c ≤ a ∧ d ≤ b ∧ x = .int .i64 c ∧ y = .int .i64 d ∧ within a b = within c d) (fun x _ => (intOf x).toNat)
  case atStart => exact ⟨a, b, Nat.le_refl _, Nat.le_refl _, rfl, rfl, rfl⟩
  case round =>
    obtain ⟨c, d, hc, hd, rfl, rfl, he⟩ := hrel
    have He := Lib.hid he
    clear he
    by_cases hz : 0 < c
    · have Hs := Lib.hid (within_step c d)
      by_cases h1 : ((c : Int) % 2 == 1) = true
      · by_cases h2 : ((d : Int) % 2 == 0) = true
        · go_wp2
          go_ret
          refine ⟨ret_bool ?_, rfl⟩
          rw [He.out, Hs.out]
          have e1 : c % 2 = 1 := by have := beq_iff_eq.1 h1; omega
          have e2 : d % 2 = 0 := by have := beq_iff_eq.1 h2; omega
          simp [e1, e2]
        · go_wp2
          refine ⟨⟨c / 2, d / 2, by omega, by omega, by go_num, by go_num, ?_⟩, by simp [intOf]; omega⟩
          rw [He.out, Hs.out]
          have e2 : d % 2 = 1 := by have := mt beq_iff_eq.2 h2; omega
          simp [e2]
      · go_wp2
        refine ⟨⟨c / 2, d / 2, by omega, by omega, by go_num, by go_num, ?_⟩, by simp [intOf]; omega⟩
        rw [He.out, Hs.out]
        have e2 : c % 2 = 0 := by have := mt beq_iff_eq.2 h1; omega
        simp [e2]
    · obtain rfl : c = 0 := by omega
      go_wp2
      go_ret
      exact ⟨ret_bool (by rw [He.out, within_zero]), rfl⟩
theorem Within_is (x y : Nat) (b : Bool) (w : World) (ha : x < 2 ^ 62) (hb : y < 2 ^ 62) (h : within x y = b) :
    Calls Tryz.prog 172 #[.int .i64 x, .int .i64 y] w fun e w' => e = .returned (.bool b) ∧ w = w' := by
  subst h; exact Within_any x y w ha hb
end Go.Proofs.YtncokblinocgaaaGreatDoor
