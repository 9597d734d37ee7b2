/-
  Contract: grant.Path where something is wrong.
-/
import Derived.Test.YtdnkknggnhihgaaDoorGrantPt
namespace Go.Proofs.YtdnkknggnhihgaaDoor
open Go.RowKit
set_option maxRecDepth 100000
set_option linter.unusedVariables false

set_option maxHeartbeats 2000000 in
theorem GPath_bad (users : Int) (n : Nat) (G : List Int) (u0 : Int) (A : Option Addr) (c : Nat) (w : World) (h : IntsAt w A G) (hl : n * 3 ≤ G.length) (hn : n < 2 ^ 47) (hcap : n ≤ c) {kk : Nat} (hz : pCode users G n u0 = kk) (hne : kk ≠ 0) :
    Calls Tryd.prog 37 #[.int .i64 users, .slice A n c, .int .i64 u0] w fun e w' => e = .returned (.tuple #[.slice none 0 0, .iface 84 (.int .i64 kk)]) ∧ Below w.heap.size w w' := by
  have C0 := fun V (hV : Below w.heap.size w V) => GCheck_any users n G A c V (h.below hV) hl hn hcap
  have hb0 := (Below.refl w.heap.size w).alloc (Nat.le_refl _) (.cells #[.int .i64 u0] 3)
  have hbx := BoxN.new w 3 #[.int .i64 u0]
  have hs0 : w.heap.size < (w.alloc (.cells #[.int .i64 u0] 3)).heap.size := by simp
  unfold pCode at hz
  by_cases h1 : gCode users G n = 0
  · rw [if_pos h1] at hz
    rw [h1, errVal_zero] at C0
    have C0 := Lib.hid C0
    obtain ⟨hu, h40, -⟩ := gCode_ok h1
    by_cases h2 : 0 ≤ u0 ∧ u0 < users
    · rw [if_pos h2] at hz
      have hh : gHeld G n u0 = false := by
        cases hh : gHeld G n u0 with
        | false => rfl
        | true => rw [hh, if_pos rfl] at hz; exact absurd hz.symm hne
      rw [hh] at hz
      obtain rfl : 5 = kk := by simpa using hz
      have W1 := Lib.hid (fun V => Within3_is u0 0 (users - 1) true V (by simp; omega))
      have hu0 : u0 ≠ 0 := by
        rintro rfl
        rw [gHeld_iff.2 (.inl rfl)] at hh; cases hh
      have hno : ∀ i, i < n → (fun i => gTo G i == u0) i = false := fun i hi => by
        cases e : (gTo G i == u0) with
        | false => exact e
        | true => rw [gHeld_iff.2 (.inr ⟨i, hi, beq_iff_eq.1 e⟩)] at hh; cases hh
      have HI := Lib.hid (fun V (x : Nat) (hV : Below w.heap.size w V) (hx : BoxN V x 3 #[.int .i64 u0]) => by
        have := IndexG_any n G A c V (h.below hV) hl (by omega) (fun i => gTo G i == u0) 68 #[.pointer (some ⟨x, 0, none⟩)] (enters_of Tryd.func68 (by kernel_rfl) rfl)
          (fun V i hV hi => path1_any _ _ _ _ ((hx.all hV).cell rfl))
        rw [fIdx_none hno] at this
        exact this)
      have du : (u0 != 0) = true := by simpa using hu0
      clear hz hne hh hno h2 hu0 h1
      go_enter Tryd.func37, Tryd.ntmps37
      go_wp2_with fail
      refine (C0.out _ hb0).mono ?_
      rintro e w1 ⟨rfl, hb1⟩
      have hbx1 := hbx.all hb1
      have hb01 := hb0.trans (hb1.mono hb0.size)
      have hp1 : w.heap.size < w1.heap.size := Nat.lt_of_lt_of_le hs0 hb1.size
      have c1 : w1.cell? ⟨w.heap.size, 0, none⟩ = some (.int .i64 u0) := hbx1.cell rfl
      clear C0 hbx hb0 hb1 hs0
      go_wp2_with (go_at_call 55; with_reducible refine (W1.out _).mono ?_; rintro e w' ⟨rfl, rfl⟩)
      clear W1
      have hbx2 := hbx1.alloc (.cells #[.int .i64 u0] 3)
      have hb02 := hb01.alloc hb01.size (.cells #[.int .i64 u0] 3)
      generalize w1.alloc (.cells #[.int .i64 u0] 3) = w2 at *
      clear hbx1 hb01 c1
      have c2 : w2.cell? ⟨w.heap.size, 0, none⟩ = some (.int .i64 u0) := hbx2.cell rfl
      go_loopw [9, 10] (fun o bf wr => wr = w2 ∧ bf = .int .i64 n) (fun _ _ _ => 0)
      case atStart => exact ⟨rfl, rfl⟩
      case round =>
        obtain ⟨rfl, rfl⟩ := hrel
        go_wp2_with fail
        refine (HI.out _ _ hb02 hbx2).mono ?_
        rintro e w3 ⟨rfl, hb3⟩
        go_wp2_with fail
        go_ret2
        exact ⟨rfl, hb02.trans (hb3.mono hb02.size)⟩
    · rw [if_neg h2] at hz
      subst hz
      have W1 := Lib.hid (fun V => Within3_is u0 0 (users - 1) false V (by simp; omega))
      clear hne h2 h1
      go_enter Tryd.func37, Tryd.ntmps37
      go_wp2_with fail
      refine (C0.out _ hb0).mono ?_
      rintro e w1 ⟨rfl, hb1⟩
      have hbx1 := hbx.all hb1
      have hb01 := hb0.trans (hb1.mono hb0.size)
      have hp1 : w.heap.size < w1.heap.size := Nat.lt_of_lt_of_le hs0 hb1.size
      have c1 : w1.cell? ⟨w.heap.size, 0, none⟩ = some (.int .i64 u0) := hbx1.cell rfl
      clear C0 hbx hb0 hb1 hs0
      go_wp2_with (go_at_call 55; with_reducible refine (W1.out _).mono ?_; rintro e w' ⟨rfl, rfl⟩)
      go_ret2
      exact ⟨rfl, hb01⟩
  · rw [if_neg h1] at hz
    rw [hz, errVal_pos hne] at C0
    have C0 := Lib.hid C0
    clear h1 hne hz
    go_enter Tryd.func37, Tryd.ntmps37
    go_wp2_with fail
    refine (C0.out _ hb0).mono ?_
    rintro e w1 ⟨rfl, hb1⟩
    go_wp2_with fail
    go_ret2
    exact ⟨rfl, hb0.trans (hb1.mono hb0.size)⟩
end Go.Proofs.YtdnkknggnhihgaaDoor
