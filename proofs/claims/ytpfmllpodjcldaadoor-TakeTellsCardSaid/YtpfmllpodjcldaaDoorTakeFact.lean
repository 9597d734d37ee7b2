/-
  Contract: takeFact; what Play tells.
-/
import Derived.Test.YtpfmllpodjcldaaDoorTakeL
import Derived.Test.YtpfmllpodjcldaaDoorLeafW
namespace Go.Proofs.YtpfmllpodjcldaaDoor
open Go.RowKit
set_option maxRecDepth 100000
set_option linter.unusedVariables false

abbrev threeW (w : World) (x00 x01 x02 x10 x11 x12 x20 x21 x22 : Int) : World :=
  (((w.alloc (.cells #[.int .i64 x00, .int .i64 x01, .int .i64 x02] 3)).alloc (.cells #[.int .i64 x10, .int .i64 x11, .int .i64 x12] 3)).alloc (.cells #[.int .i64 x20, .int .i64 x21, .int .i64 x22] 3)).alloc
    (.cells #[.slice (some ⟨w.heap.size, 0, none⟩) 3 3, .slice (some ⟨w.heap.size + 1, 0, none⟩) 3 3, .slice (some ⟨w.heap.size + 1 + 1, 0, none⟩) 3 3] 36)
theorem box_at (w : World) (t : TypeId) (vs : Array Value) (p : Nat) (hp : p = w.heap.size) : BoxN (w.alloc (.cells vs t)) p t vs := by subst hp; exact BoxN.new w t vs
theorem three_laid (w : World) (x00 x01 x02 x10 x11 x12 x20 x21 x22 : Int) : RowsIn anyB 1 (threeW w x00 x01 x02 x10 x11 x12 x20 x21 x22) (some ⟨w.heap.size + 1 + 1 + 1, 0, none⟩) [[x00, x01, x02], [x10, x11, x12], [x20, x21, x22]] :=
  rows_three ((((BoxN.new w _ _).alloc _).alloc _).alloc _) (((box_at _ _ _ (w.heap.size + 1) (by simp)).alloc _).alloc _) ((box_at _ _ _ (w.heap.size + 1 + 1) (by simp)).alloc _) (box_at _ _ _ (w.heap.size + 1 + 1 + 1) (by simp))
theorem three_below (w : World) (x00 x01 x02 x10 x11 x12 x20 x21 x22 : Int) : Below w.heap.size w (threeW w x00 x01 x02 x10 x11 x12 x20 x21 x22) :=
  ((((Below.refl _ w).alloc (Nat.le_refl _) _).alloc (by simp) _).alloc (by simp; omega) _).alloc (by simp; omega) _
set_option maxHeartbeats 4000000 in
theorem takeFact_true (w : World) : Calls Tryd.prog 28 #[] w fun e w' => e = .returned (.bool true) ∧ Below w.heap.size w w' := by
  have H1 := Lib.hid (Can_ok (c := 3) (n := 3) (three_laid w 0 1 0 0 0 4 0 0 0) rfl factYes_ok (kb := 2) (who := 0) (over := 2) (by decide) (by decide) (by decide) (by decide))
  have H2 := Lib.hid (fun V => Can_ok (c := 3) (n := 3) (three_laid V 0 0 0 0 0 4 0 0 0) rfl factNo_ok (kb := 2) (who := 0) (over := 2) (by decide) (by decide) (by decide) (by decide))
  have hb1 := three_below w 0 1 0 0 0 4 0 0 0
  go_enter Tryd.func28, Tryd.ntmps28
  go_wp2_with fail
  refine H1.out.mono ?_
  rintro e w2 ⟨⟨b, rfl, hbt⟩, hb2⟩
  obtain rfl : b = true := hbt.2 factYes_can
  have hw2 := hb1.trans (hb2.mono hb1.size)
  have hb3 := three_below w2 0 0 0 0 0 4 0 0 0
  clear hb1 hb2 hbt H1
  go_wp2_with fail
  refine (H2.out w2).mono ?_
  rintro e w3 ⟨⟨b, rfl, hbt⟩, hb4⟩
  obtain rfl : b = false := by
    cases b with
    | false => rfl
    | true => exact absurd (hbt.1 rfl) factNo_cannot
  have hw3 := hw2.trans ((hb3.trans (hb4.mono hb3.size)).mono hw2.size)
  clear hb3 hb4 hw2 hbt H2
  go_wp2_with fail
  go_ret
  exact ⟨rfl, hw3⟩

theorem PlayPost.form {w : World} {L : List (List Int)} {S : List Int} {m : Nat} {e : Ending} {w' : World} (h : PlayPost w L S m e w') : (∃ a i k, e = .returned (.tuple #[a, i, .iface 59 k])) ∨
    (gCode L = 0 ∧ m ≤ 60 ∧ (∀ j, j < m → playCode L S j = 0) ∧ ∃ A' n' c', n' = (playG L S m).length ∧ e = .returned (.tuple #[.slice A' n' c', .int .i64 0, .nilIface]) ∧ GridAt w.heap.size w' (.slice A' n' c') (playG L S m)) := by
  rcases h with ⟨_, h⟩ | ⟨_, _, h⟩ | ⟨_, _, i, _, _, _, h⟩ | h
  · exact .inl ⟨_, _, _, h⟩
  · exact .inl ⟨_, _, _, h⟩
  · exact .inl ⟨_, _, _, h⟩
  · exact .inr h
theorem within_pow {x kb : Nat} {b : Bool} (h : x.testBit kb = b) : within (2 ^ kb) x = b := by
  subst h
  rw [Bool.eq_iff_iff, within_iff]
  constructor
  · intro h; exact h kb (by rw [Nat.testBit_two_pow]; simp)
  · intro h i hi
    rw [Nat.testBit_two_pow] at hi
    have : kb = i := by simpa using hi
    subst this; exact h

end Go.Proofs.YtpfmllpodjcldaaDoor
