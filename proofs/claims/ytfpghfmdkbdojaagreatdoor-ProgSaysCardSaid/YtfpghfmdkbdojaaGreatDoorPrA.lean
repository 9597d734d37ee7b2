/-
  Contracts: the document's in, Parts, value.
-/
import Derived.Test.YtfpghfmdkbdojaaGreatDoorPgA
namespace Go.Proofs.YtfpghfmdkbdojaaGreatDoor
open Go.RowKit
set_option maxRecDepth 100000
set_option linter.unusedVariables false

theorem RIn_is (n lo hi : Int) (b : Bool) (w : World) (hb : decide (lo ≤ n ∧ n ≤ hi) = b) :
    Calls Tryz.prog 12 #[.int .i64 n, .int .i64 lo, .int .i64 hi] w fun e w' => e = .returned (.bool b) ∧ w = w' := by
  subst hb
  by_cases h0 : lo ≤ n
  · go_enter Tryz.func12, Tryz.ntmps12
    go_wp2
    go_ret
    exact ⟨ret_bool (by simp [h0]), rfl⟩
  · go_enter Tryz.func12, Tryz.ntmps12
    go_wp2
    go_ret
    exact ⟨ret_bool (by simp; omega), rfl⟩

set_option maxHeartbeats 1000000 in
theorem RParts_any (K N A B C : Int) (w : World) :
    Calls Tryz.prog 13 #[.agg #[.int .i64 K, .int .i64 N, .int .i64 A, .int .i64 B, .int .i64 C]] w fun e w' => ∃ X c, e = .returned (.slice X (partsL K A B C).length c) ∧ IntsAt w' X (partsL K A B C) ∧ Below w.heap.size w w' ∧ ∀ a, X = some a → w.heap.size ≤ a.block := by
  have hb0 : Below w.heap.size w (w.alloc (.cells #[.int .i64 K, .int .i64 N, .int .i64 A, .int .i64 B, .int .i64 C] 39)) := (Below.refl _ _).alloc (Nat.le_refl _) _
  have hb2 := hb0.alloc hb0.size (.cells #[.int .i64 A, .int .i64 B] 3)
  have hb1 := hb0.alloc hb0.size (.cells #[.int .i64 A] 3)
  have hb3 := hb0.alloc hb0.size (.cells #[.int .i64 A, .int .i64 B, .int .i64 C] 3)
  have n1 := intsAt_new (w.alloc (.cells #[.int .i64 K, .int .i64 N, .int .i64 A, .int .i64 B, .int .i64 C] 39)) [A]
  have n2 := intsAt_new (w.alloc (.cells #[.int .i64 K, .int .i64 N, .int .i64 A, .int .i64 B, .int .i64 C] 39)) [A, B]
  have n3 := intsAt_new (w.alloc (.cells #[.int .i64 K, .int .i64 N, .int .i64 A, .int .i64 B, .int .i64 C] 39)) [A, B, C]
  simp only [World.size_alloc] at n1 n2 n3
  have H0 := Lib.hid hb0
  have H1 := Lib.hid (And.intro n1 hb1)
  have H2 := Lib.hid (And.intro n2 hb2)
  have H3 := Lib.hid (And.intro n3 hb3)
  have W24 := Lib.hid (fun (b : Bool) (hb : decide (2 ≤ K ∧ K ≤ 4) = b) V => RIn_is K 2 4 b V hb)
  clear hb0 hb1 hb2 hb3 n1 n2 n3
  by_cases h8 : K = 8
  · subst h8
    go_enter Tryz.func13, Tryz.ntmps13
    go_wp2_with fail
    go_ret
    exact ⟨_, _, rfl, H3.out.1, H3.out.2, by rintro a ⟨⟩; simp⟩
  by_cases h6 : K = 6
  · subst h6
    go_enter Tryz.func13, Tryz.ntmps13
    go_wp2_with fail
    go_ret
    exact ⟨_, _, rfl, H1.out.1, H1.out.2, by rintro a ⟨⟩; simp⟩
  have d8 : (K == 8) = false := by simp; omega
  have d6 : (K == 6) = false := by simp; omega
  by_cases h24 : 2 ≤ K ∧ K ≤ 4
  · rw [parts_two (.inl h24)]
    have W := Lib.hid (W24.out true (decide_eq_true h24))
    clear W24 h24 h8 h6
    go_enter Tryz.func13, Tryz.ntmps13
    go_wp2_with (go_at_call 12; with_reducible refine (W.out _).mono ?_; rintro e w' ⟨rfl, rfl⟩)
    go_ret
    exact ⟨_, _, rfl, H2.out.1, H2.out.2, by rintro a ⟨⟩; simp⟩
  have W := Lib.hid (W24.out false (decide_eq_false h24))
  by_cases h7 : K = 7
  · subst h7
    clear W24 h24 h8 h6 d8 d6
    go_enter Tryz.func13, Tryz.ntmps13
    go_wp2_with (go_at_call 12; with_reducible refine (W.out _).mono ?_; rintro e w' ⟨rfl, rfl⟩)
    go_ret
    exact ⟨_, _, rfl, H2.out.1, H2.out.2, by rintro a ⟨⟩; simp⟩
  have d7 : (K == 7) = false := by simp; omega
  by_cases h9 : K = 9
  · subst h9
    clear W24 h24 h8 h6 h7 d8 d6 d7
    go_enter Tryz.func13, Tryz.ntmps13
    go_wp2_with (go_at_call 12; with_reducible refine (W.out _).mono ?_; rintro e w' ⟨rfl, rfl⟩)
    go_ret
    exact ⟨_, _, rfl, H2.out.1, H2.out.2, by rintro a ⟨⟩; simp⟩
  have d9 : (K == 9) = false := by simp; omega
  rw [parts_none h24 h6 h7 h8 h9]
  clear W24 h24 h6 h7 h8 h9
  go_enter Tryz.func13, Tryz.ntmps13
  go_wp2_with (go_at_call 12; with_reducible refine (W.out _).mono ?_; rintro e w' ⟨rfl, rfl⟩)
  go_ret
  exact ⟨_, _, rfl, IntsAt.nil, H0.out, by rintro a ⟨⟩⟩

def valB (K : Int) (k : Nat) : Bool := decide (K < 5) || (decide (k = 0) && decide (K ≠ 7))
theorem valB_ask {K A B C : Int} {k : Nat} (h : k < (partsL K A B C).length) : valB K k = askB K k := by
  unfold valB askB
  by_cases h6 : K = 6
  · subst h6
    have : k = 0 := by unfold partsL at h; simp at h; omega
    subst this; rfl
  · simp [h6]
set_option maxHeartbeats 1000000 in
theorem rvalue_is (K : Int) (k : Nat) (r : Bool) (w : World) (h : valB K k = r) :
    Calls Tryz.prog 14 #[.int .i64 K, .int .i64 k] w fun e w' => e = .returned (.bool r) ∧ w = w' := by
  subst h
  by_cases h5 : K < 5
  · have hr : valB K k = true := by simp [valB, h5]
    rw [hr]
    clear hr
    go_enter Tryz.func14, Tryz.ntmps14
    go_wp2_with fail
    go_ret
    exact ⟨rfl, rfl⟩
  by_cases hk : k = 0
  · subst hk
    by_cases h7 : K = 7
    · subst h7
      go_enter Tryz.func14, Tryz.ntmps14
      go_wp2_with fail
      go_ret
      exact ⟨rfl, rfl⟩
    · have hr : valB K 0 = true := by simp [valB, h7]
      have d7 : (K != 7) = true := by simp; omega
      rw [hr]
      clear hr h7
      go_enter Tryz.func14, Tryz.ntmps14
      go_wp2_with fail
      go_ret
      exact ⟨rfl, rfl⟩
  · have hr : valB K k = false := by simp [valB, hk]; omega
    have d0 : ((k : Int) == 0) = false := by simp; omega
    rw [hr]
    clear hr hk
    go_enter Tryz.func14, Tryz.ntmps14
    go_wp2_with fail
    go_ret
    exact ⟨rfl, rfl⟩
end Go.Proofs.YtfpghfmdkbdojaaGreatDoor
