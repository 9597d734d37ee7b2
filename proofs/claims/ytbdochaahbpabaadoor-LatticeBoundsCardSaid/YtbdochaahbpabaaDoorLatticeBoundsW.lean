/-
  quietwinglaw1.LatticeBounds, the other ways, and all together.
-/
import Derived.Test.YtbdochaahbpabaaDoorLatticeBounds
namespace Go.Proofs.YtbdochaahbpabaaDoor
open Go.RowKit
set_option maxRecDepth 100000
set_option linter.unusedVariables false

set_option maxHeartbeats 2000000 in
theorem LatticeBounds_out (r : List Nat) (h1 : r.length ≤ 12) (h2 : Bd r.length r) (A : Option Addr) (c : Nat) (a b k : Int) (w : World) (h : IntsAt w A (castL r)) (hT : Tab w)
    (hout : ¬ ((0 ≤ a ∧ a < r.length) ∧ (0 ≤ b ∧ b < r.length) ∧ (0 ≤ k ∧ k < r.length))) :
    Calls Tryd.prog 7 #[.slice A r.length c, .int .i64 a, .int .i64 b, .int .i64 k] w fun e w' => e = .returned (.bool true) ∧ Below w.heap.size w w' := by
  have Hc := Lib.hid (fun (V : World) (hV : IntsAt V A (castL r)) => Closure_ok r h1 h2 A c V hV)
  clear h2
  generalize closed r = cl at *
  generalize r.length = n at *
  go_enter Tryd.func7, Tryd.ntmps7
  go_wp2_with fail
  refine (latticeFact_any _ hT).mono ?_
  rintro e w1 ⟨rfl, hb1⟩
  have hi1 := h.below hb1
  go_wp2_with fail
  refine (Hc.out w1 hi1).mono ?_
  rintro e w2 ⟨B, cc, rfl, hC, hb2⟩
  have hbl2 := hb1.trans (hb2.mono hb1.size)
  clear h hi1 hT hb1 hb2 Hc hC
  by_cases z0 : a < 0
  · have y0 : decide (a < 0) = true := by simpa using z0
    clear z0 hout
    go_wp2_with fail
    go_ret
    exact ⟨rfl, hbl2⟩
  · have y0 : decide (a < 0) = false := by simpa using z0
    by_cases z1 : a ≥ (n : Int)
    · have y1 : decide (a ≥ (n : Int)) = true := by simpa using z1
      clear z1 hout
      go_wp2_with fail
      go_ret
      exact ⟨rfl, hbl2⟩
    · have y1 : decide (a ≥ (n : Int)) = false := by simpa using z1
      by_cases z2 : b < 0
      · have y2 : decide (b < 0) = true := by simpa using z2
        clear z2 hout
        go_wp2_with fail
        go_ret
        exact ⟨rfl, hbl2⟩
      · have y2 : decide (b < 0) = false := by simpa using z2
        by_cases z3 : b ≥ (n : Int)
        · have y3 : decide (b ≥ (n : Int)) = true := by simpa using z3
          clear z3 hout
          go_wp2_with fail
          go_ret
          exact ⟨rfl, hbl2⟩
        · have y3 : decide (b ≥ (n : Int)) = false := by simpa using z3
          by_cases z4 : k < 0
          · have y4 : decide (k < 0) = true := by simpa using z4
            clear z4 hout
            go_wp2_with fail
            go_ret
            exact ⟨rfl, hbl2⟩
          · have y4 : decide (k < 0) = false := by simpa using z4
            by_cases z5 : k ≥ (n : Int)
            · have y5 : decide (k ≥ (n : Int)) = true := by simpa using z5
              clear z5 hout
              go_wp2_with fail
              go_ret
              exact ⟨rfl, hbl2⟩
            · exact absurd (by refine ⟨⟨?_, ?_⟩, ⟨?_, ?_⟩, ⟨?_, ?_⟩⟩ <;> omega) hout
theorem LatticeBounds_bad (l : List Int) (hl : l.length < 2 ^ 60) (hbad : relCode l ≠ 0) (A : Option Addr) (c : Nat) (a b k : Int) (w : World) (h : IntsAt w A l) (hT : Tab w) :
    Calls Tryd.prog 7 #[.slice A l.length c, .int .i64 a, .int .i64 b, .int .i64 k] w fun e w' => e = .returned (.bool true) ∧ Below w.heap.size w w' := by
  have Hc := Lib.hid (fun (V : World) (hV : IntsAt V A l) => Closure_bad l A c V hV hl hbad)
  clear hl hbad
  generalize l.length = n at *
  generalize relCode l = m at *
  go_enter Tryd.func7, Tryd.ntmps7
  go_wp2_with fail
  refine (latticeFact_any _ hT).mono ?_
  rintro e w1 ⟨rfl, hb1⟩
  have hi1 := h.below hb1
  go_wp2_with fail
  refine (Hc.out w1 hi1).mono ?_
  rintro e w2 ⟨rfl, rfl⟩
  clear hi1 h hT Hc
  go_wp2_with fail
  go_ret
  exact ⟨rfl, hb1⟩
theorem LatticeBounds_walk (l : List Int) (A : Option Addr) (c : Nat) {W : World} (h : IntsAt W A l) (hl : l.length < 2 ^ 47) (hI : ∀ x ∈ l, I64 x) (a : Int) (ha : I64 a) (b : Int) (hb : I64 b) (k : Int) (hk : I64 k) (w : World) (hw : w = W) (hT : Tab W) :
    Calls Tryd.prog 7 #[.slice A l.length c, .int .i64 a, .int .i64 b, .int .i64 k] w fun e w' => e = .returned (.bool true) ∧ Below w.heap.size w w' := by
  subst hw
  by_cases hcode : relCode l = 0
  · obtain ⟨r, rfl, h12, hb'⟩ := relCode_ok hcode
    rw [length_castL]
    by_cases hin : (0 ≤ a ∧ a < r.length) ∧ (0 ≤ b ∧ b < r.length) ∧ (0 ≤ k ∧ k < r.length)
    · obtain ⟨⟨a0, a1⟩, ⟨b0, b1⟩, ⟨k0, k1⟩⟩ := hin
      obtain ⟨an, rfl⟩ := Int.eq_ofNat_of_zero_le a0
      obtain ⟨bn, rfl⟩ := Int.eq_ofNat_of_zero_le b0
      obtain ⟨kn, rfl⟩ := Int.eq_ofNat_of_zero_le k0
      exact LatticeBounds_ok r h12 hb' A c an bn kn w h hT (by omega) (by omega) (by omega)
    · exact LatticeBounds_out r h12 hb' A c a b k w h hT hin
  · exact LatticeBounds_bad l (by omega) hcode A c a b k w h hT

end Go.Proofs.YtbdochaahbpabaaDoor
