/-
  Contracts of the reference: Both, Either, Mask.
-/
import Derived.Test.YtncokblinocgaaaGreatDoorRowsA
namespace Go.Proofs.YtncokblinocgaaaGreatDoor
open Go.RowKit
set_option maxRecDepth 100000

theorem mod_step (x k : Nat) : x % 2 ^ (k + 1) = x % 2 ^ k + if x.testBit k then 2 ^ k else 0 := by
  rw [Nat.mod_pow_succ, Nat.testBit_eq_decide_div_mod_eq]
  rcases Nat.mod_two_eq_zero_or_one (x / 2 ^ k) with h | h <;> rw [h] <;> simp
theorem odd_bit (s k d : Nat) (h : s / 2 ^ k = d) : ((d : Int) % 2 == 1) = s.testBit k := bit_end s k d h

set_option maxHeartbeats 1000000 in
theorem RBoth_any (a b : Nat) (w : World) (ha : a < 2 ^ 60) (hb : b < 2 ^ 60) :
    Calls Tryz.prog 173 #[.int .i64 a, .int .i64 b] w fun e w' => e = .returned (.int .i64 (a &&& b : Nat)) ∧ w = w' := by
  go_enter Tryz.func173, Tryz.ntmps173
  go_wp2
  go_loop [0, 1, 5, 6] (fun x y o p => ∃ k : Nat, k ≤ 60 ∧ x = .int .i64 (a / 2 ^ k : Nat) ∧ y = .int .i64 (b / 2 ^ k : Nat) ∧ o = .int .i64 ((a &&& b) % 2 ^ k : Nat) ∧ p = .int .i64 (2 ^ k : Nat)) (fun x _ _ _ => (intOf x).toNat)
  case atStart => exact ⟨0, Nat.zero_le _, by simp, by simp, by simp [Nat.mod_one], rfl⟩
  case round =>
    obtain ⟨k, hk, rfl, rfl, rfl, rfl⟩ := hrel
    have hx : a / 2 ^ k < 2 ^ 60 := Nat.lt_of_le_of_lt (Nat.div_le_self _ _) ha
    have hy : b / 2 ^ k < 2 ^ 60 := Nat.lt_of_le_of_lt (Nat.div_le_self _ _) hb
    have hp : 2 ^ k ≤ 2 ^ 60 := Nat.pow_le_pow_right (by decide) hk
    have ho : (a &&& b) % 2 ^ k < 2 ^ k := Nat.mod_lt _ (Nat.two_pow_pos k)
    have Hand := Lib.hid (Nat.testBit_and a b k)
    have Hstep := Lib.hid (mod_step (a &&& b) k)
    have Hpow := Lib.hid (Nat.pow_succ 2 k)
    have Hend := Lib.hid (fun (h : a / 2 ^ k = 0 ∨ b / 2 ^ k = 0) => show (a &&& b) % 2 ^ k = a &&& b from by
      refine Nat.mod_eq_of_lt ?_
      rcases h with h | h
      · exact Nat.lt_of_le_of_lt Nat.and_le_left ((Nat.div_eq_zero_iff_lt (Nat.two_pow_pos k)).1 h)
      · exact Nat.lt_of_le_of_lt Nat.and_le_right ((Nat.div_eq_zero_iff_lt (Nat.two_pow_pos k)).1 h))
    have Hka := Lib.hid (fun (h : 0 < a / 2 ^ k) => show k + 1 ≤ 60 from by
      rcases Nat.lt_or_ge k 60 with h1 | h1
      · exact h1
      · have h2 : a < 2 ^ k := Nat.lt_of_lt_of_le ha (Nat.pow_le_pow_right (by decide) h1)
        rw [Nat.div_eq_of_lt h2] at h; omega)
    have Hda := Lib.hid (fun d h => div_succ_cast a k d h)
    have Hdb := Lib.hid (fun d h => div_succ_cast b k d h)
    have Hoa := Lib.hid (fun d h => odd_bit a k d h)
    have Hob := Lib.hid (fun d h => odd_bit b k d h)
    generalize hxe : a / 2 ^ k = x at *
    generalize hye : b / 2 ^ k = y at *
    generalize hoe : (a &&& b) % 2 ^ k = o at *
    generalize hpe : 2 ^ k = p at *
    have Hx := Lib.hid hxe
    have Hy := Lib.hid hye
    clear hxe hye hoe hpe
    by_cases hz : 0 < x ∧ 0 < y
    · obtain ⟨z1, z2⟩ := hz
      have Hk1 := Hka.out z1
      by_cases b1 : ((x : Int) % 2 == 1) = true
      · by_cases b2 : ((y : Int) % 2 == 1) = true
        · have Hb : Hid ((a &&& b).testBit k = true) := by
            have h1 := Hoa.out x rfl
            have h2 := Hob.out y rfl
            rw [b1] at h1; rw [b2] at h2
            show (a &&& b).testBit k = true
            rw [Hand.out, ← h1, ← h2]; rfl
          go_wp2
          refine ⟨⟨k + 1, ?_, ?_, ?_, ?_, ?_⟩, by simp [intOf]; omega⟩
          · exact Hk1
          · rw [Hda.out x rfl]
          · rw [Hdb.out y rfl]
          · rw [Hstep.out, if_pos Hb.out]; go_num
          · rw [Hpow.out]; go_num
        · have b2' : ((y : Int) % 2 == 1) = false := by simpa using b2
          have Hb : Hid ((a &&& b).testBit k = false) := by
            have h2 := Hob.out y rfl
            rw [b2'] at h2
            show (a &&& b).testBit k = false
            rw [Hand.out, ← h2]; simp
          clear b2
          go_wp2
          refine ⟨⟨k + 1, ?_, ?_, ?_, ?_, ?_⟩, by simp [intOf]; omega⟩
          · exact Hk1
          · rw [Hda.out x rfl]
          · rw [Hdb.out y rfl]
          · rw [Hstep.out, if_neg (by rw [Hb.out]; simp)]; go_num
          · rw [Hpow.out]; go_num
      · have b1' : ((x : Int) % 2 == 1) = false := by simpa using b1
        have Hb : Hid ((a &&& b).testBit k = false) := by
          have h1 := Hoa.out x rfl
          rw [b1'] at h1
          show (a &&& b).testBit k = false
          rw [Hand.out, ← h1]; rfl
        clear b1
        go_wp2
        refine ⟨⟨k + 1, ?_, ?_, ?_, ?_, ?_⟩, by simp [intOf]; omega⟩
        · exact Hk1
        · rw [Hda.out x rfl]
        · rw [Hdb.out y rfl]
        · rw [Hstep.out, if_neg (by rw [Hb.out]; simp)]; go_num
        · rw [Hpow.out]; go_num
    · by_cases z1 : 0 < x
      · have z2 : y = 0 := by omega
        have he := Hend.out (.inr z2)
        have He := Lib.hid he
        subst z2
        clear hz he
        go_wp2
        go_ret
        exact ⟨ret_int (by rw [← He.out]), rfl⟩
      · have z2 : x = 0 := by omega
        have he := Hend.out (.inl z2)
        have He := Lib.hid he
        subst z2
        clear hz he z1
        go_wp2
        go_ret
        exact ⟨ret_int (by rw [← He.out]), rfl⟩

theorem and_add_or (a : Nat) : ∀ b : Nat, (a &&& b) + (a ||| b) = a + b := by
  induction a using Nat.strongRecOn with
  | _ a ih =>
    intro b
    by_cases h0 : a = 0
    · subst h0; simp
    · have h := ih (a / 2) (by omega) (b / 2)
      have e1 := Nat.and_div_two (a := a) (b := b)
      have e2 := Nat.or_div_two (a := a) (b := b)
      have m1 : (a &&& b) % 2 = a % 2 * (b % 2) := by
        have := Nat.and_mod_two_pow (a := a) (b := b) (n := 1)
        rw [Nat.pow_one] at this; rw [this]
        rcases Nat.mod_two_eq_zero_or_one a with h | h <;> rcases Nat.mod_two_eq_zero_or_one b with h' | h' <;> rw [h, h'] <;> rfl
      have m2 : (a ||| b) % 2 = a % 2 + b % 2 - a % 2 * (b % 2) := by
        have := Nat.or_mod_two_pow (a := a) (b := b) (n := 1)
        rw [Nat.pow_one] at this; rw [this]
        rcases Nat.mod_two_eq_zero_or_one a with h | h <;> rcases Nat.mod_two_eq_zero_or_one b with h' | h' <;> rw [h, h'] <;> rfl
      rw [← e1, ← e2] at h
      rcases Nat.mod_two_eq_zero_or_one a with h3 | h3 <;> rcases Nat.mod_two_eq_zero_or_one b with h4 | h4 <;> rw [h3, h4] at m1 m2 <;> omega
theorem Either_any (a b : Nat) (w : World) (ha : a < 2 ^ 60) (hb : b < 2 ^ 60) :
    Calls Tryz.prog 157 #[.int .i64 a, .int .i64 b] w fun e w' => e = .returned (.int .i64 (a ||| b : Nat)) ∧ w = w' := by
  have H := Lib.hid (RBoth_any a b w ha hb)
  have He := Lib.hid (and_add_or a b)
  have hl : a &&& b ≤ a := Nat.and_le_left
  generalize a &&& b = c at *
  generalize a ||| b = d at *
  go_enter Tryz.func157, Tryz.ntmps157
  go_wp2_with (go_at_call 173; with_reducible refine H.out.mono ?_; rintro e w' ⟨rfl, rfl⟩)
  go_ret
  exact ⟨ret_int (by have := He.out; omega), rfl⟩
theorem Either_is (a b u : Nat) (w : World) (ha : a < 2 ^ 60) (hb : b < 2 ^ 60) (hu : a ||| b = u) :
    Calls Tryz.prog 157 #[.int .i64 a, .int .i64 b] w fun e w' => e = .returned (.int .i64 u) ∧ w = w' := by
  subst hu; exact Either_any a b w ha hb

end Go.Proofs.YtncokblinocgaaaGreatDoor
