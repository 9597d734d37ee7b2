/-
  Contracts: prog.Parts, prog.asks.
-/
import Derived.Test.YtfpghfmdkbdojaaGreatDoorPgFlat
import Derived.Test.YtfpghfmdkbdojaaGreatDoorBase
namespace Go.Proofs.YtfpghfmdkbdojaaGreatDoor
open Go.RowKit
set_option maxRecDepth 100000
set_option linter.unusedVariables false

theorem intsAt_new (w : World) (l : List Int) : IntsAt (w.alloc (.cells (l.map (Value.int .i64)).toArray 3)) (some ⟨w.heap.size, 0, none⟩) l := fun _ => by
  refine ⟨w.heap.size, 0, rfl, fun j u hj => ?_⟩
  rw [Nat.zero_add, cell_of_row _ w.heap.size j _ _ _ (heap_alloc_new w _)]
  simp [hj]
theorem parts_two {K A B C : Int} (h : (2 ≤ K ∧ K ≤ 4) ∨ K = 7 ∨ K = 9) : partsL K A B C = [A, B] := by
  unfold partsL; rw [if_neg (by omega), if_neg (by omega), if_pos h]
theorem parts_none {K A B C : Int} (h : ¬ (2 ≤ K ∧ K ≤ 4)) (h6 : K ≠ 6) (h7 : K ≠ 7) (h8 : K ≠ 8) (h9 : K ≠ 9) : partsL K A B C = [] := by
  unfold partsL; rw [if_neg h8, if_neg h6, if_neg (by omega)]

set_option maxHeartbeats 1000000 in
theorem Parts_any (K N A B C : Int) (w : World) :
    Calls Tryz.prog 17 #[.agg #[.int .i64 K, .int .i64 N, .int .i64 A, .int .i64 B, .int .i64 C]] w fun e w' => ∃ X c, e = .returned (.slice X (partsL K A B C).length c) ∧ IntsAt w' X (partsL K A B C) ∧ Below w.heap.size w w' ∧ ∀ a, X = some a → w.heap.size ≤ a.block := by
  have hb0 : Below w.heap.size w (w.alloc (.cells #[.int .i64 K, .int .i64 N, .int .i64 A, .int .i64 B, .int .i64 C] 39)) := (Below.refl _ _).alloc (Nat.le_refl _) _
  have hb2 := hb0.alloc hb0.size (.cells #[.int .i64 A, .int .i64 B] 3)
  have hb1 := hb0.alloc hb0.size (.cells #[.int .i64 A] 3)
  have hb3 := hb0.alloc hb0.size (.cells #[.int .i64 A, .int .i64 B, .int .i64 C] 3)
  have n1 := intsAt_new (w.alloc (.cells #[.int .i64 K, .int .i64 N, .int .i64 A, .int .i64 B, .int .i64 C] 39)) [A]
  have n2 := intsAt_new (w.alloc (.cells #[.int .i64 K, .int .i64 N, .int .i64 A, .int .i64 B, .int .i64 C] 39)) [A, B]
  have n3 := intsAt_new (w.alloc (.cells #[.int .i64 K, .int .i64 N, .int .i64 A, .int .i64 B, .int .i64 C] 39)) [A, B, C]
  simp only [World.size_alloc] at n1 n2 n3
  have H0 := Lib.hid hb0
  have H1 := Lib.hid (And.intro n1 hb1)
  have H2 := Lib.hid (And.intro n2 hb2)
  have H3 := Lib.hid (And.intro n3 hb3)
  clear hb0 hb1 hb2 hb3 n1 n2 n3
  by_cases h2 : (2 ≤ K ∧ K ≤ 4) ∨ K = 7 ∨ K = 9
  · rw [parts_two h2]
    have hc : K = 2 ∨ K = 3 ∨ K = 4 ∨ K = 7 ∨ K = 9 := by omega
    clear h2
    rcases hc with rfl | rfl | rfl | rfl | rfl
    all_goals
      go_enter Tryz.func17, Tryz.ntmps17
      go_wp2_with fail
      go_ret
      exact ⟨_, _, rfl, H2.out.1, H2.out.2, by rintro a ⟨⟩; simp⟩
  by_cases h6 : K = 6
  · subst h6
    go_enter Tryz.func17, Tryz.ntmps17
    go_wp2_with fail
    go_ret
    exact ⟨_, _, rfl, H1.out.1, H1.out.2, by rintro a ⟨⟩; simp⟩
  by_cases h8 : K = 8
  · subst h8
    go_enter Tryz.func17, Tryz.ntmps17
    go_wp2_with fail
    go_ret
    exact ⟨_, _, rfl, H3.out.1, H3.out.2, by rintro a ⟨⟩; simp⟩
  rw [parts_none (by omega) h6 (by omega) h8 (by omega)]
  have d2 : (K == 2) = false := by simp; omega
  have d3 : (K == 3) = false := by simp; omega
  have d4 : (K == 4) = false := by simp; omega
  have d7 : (K == 7) = false := by simp; omega
  have d9 : (K == 9) = false := by simp; omega
  have d6 : (K == 6) = false := by simp; omega
  have d8 : (K == 8) = false := by simp; omega
  clear h2 h6 h8
  go_enter Tryz.func17, Tryz.ntmps17
  go_wp2_with fail
  go_ret
  exact ⟨_, _, rfl, IntsAt.nil, H0.out, by rintro a ⟨⟩⟩

set_option maxHeartbeats 1000000 in
theorem asks_any (K : Int) (k : Nat) (w : World) :
    Calls Tryz.prog 18 #[.int .i64 K, .int .i64 k] w fun e w' => e = .returned (.bool (askB K k)) ∧ w = w' := by
  by_cases h5 : K < 5
  · have hr : askB K k = true := by simp [askB, h5]
    rw [hr]
    clear hr
    go_enter Tryz.func18, Tryz.ntmps18
    go_wp2_with fail
    go_ret
    exact ⟨rfl, rfl⟩
  by_cases h6 : K = 6
  · subst h6
    have hr : askB 6 k = true := by simp [askB]
    rw [hr]
    clear hr
    go_enter Tryz.func18, Tryz.ntmps18
    go_wp2_with fail
    go_ret
    exact ⟨rfl, rfl⟩
  have d6 : (K == 6) = false := by simp; omega
  by_cases hk : k = 0
  · subst hk
    by_cases h7 : K = 7
    · subst h7
      go_enter Tryz.func18, Tryz.ntmps18
      go_wp2_with fail
      go_ret
      exact ⟨rfl, rfl⟩
    · have hr : askB K 0 = true := by simp [askB, h7]
      have d7 : (K != 7) = true := by simp; omega
      rw [hr]
      clear hr h6 h7
      go_enter Tryz.func18, Tryz.ntmps18
      go_wp2_with fail
      go_ret
      exact ⟨rfl, rfl⟩
  · have hr : askB K k = false := by simp [askB, h6, hk]; omega
    have d0 : ((k : Int) == 0) = false := by simp; omega
    rw [hr]
    clear hr h6 hk
    go_enter Tryz.func18, Tryz.ntmps18
    go_wp2_with fail
    go_ret
    exact ⟨rfl, rfl⟩
theorem asks_is (K : Int) (k : Nat) (r : Bool) (w : World) (h : askB K k = r) :
    Calls Tryz.prog 18 #[.int .i64 K, .int .i64 k] w fun e w' => e = .returned (.bool r) ∧ w = w' := by
  subst h; exact asks_any K k w
end Go.Proofs.YtfpghfmdkbdojaaGreatDoor
