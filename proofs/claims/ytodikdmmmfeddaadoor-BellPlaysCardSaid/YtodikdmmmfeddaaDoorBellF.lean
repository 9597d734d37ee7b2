/-
  Contracts: the closed fact on the monitor of labels; the reference's Below.
-/
import Derived.Test.YtodikdmmmfeddaaDoorBellN
import Derived.Test.YtodikdmmmfeddaaDoorBellB
import Derived.Test.YtodikdmmmfeddaaDoorWallF
namespace Go.Proofs.YtodikdmmmfeddaaDoor
open Go.RowKit
set_option maxRecDepth 100000
set_option linter.unusedVariables false

theorem RBelow_any (v v' : Int) (s s' : Int) (hs : 0 ≤ s ∧ s < 256) (hs' : 0 ≤ s' ∧ s' < 256) (w : World) {r : Bool} (hr : (decide (v ≤ v') && within s.toNat s'.toNat) = r) :
    Calls Tryd.prog 34 #[.agg #[.int .i64 v, .int .i64 s], .agg #[.int .i64 v', .int .i64 s']] w fun e w' => e = .returned (.bool r) ∧ Below w.heap.size w w' := by
  obtain ⟨sn, rfl⟩ := Int.eq_ofNat_of_zero_le hs.1
  obtain ⟨sn', rfl⟩ := Int.eq_ofNat_of_zero_le hs'.1
  simp only [Int.toNat_natCast] at hr
  by_cases hv : v ≤ v'
  · have Hw := Lib.hid (fun V => Within_is sn sn' r V (by omega) (by omega) (by rw [← hr]; simp [hv]))
    have d : decide (v ≤ v') = true := by simpa using hv
    clear hr hs hs'
    go_enter Tryd.func34, Tryd.ntmps34
    go_wp2_with (go_at_call 60; with_reducible refine (Hw.out _).mono ?_; rintro e w' ⟨rfl, rfl⟩)
    go_ret
    exact ⟨rfl, ((Below.refl _ _).alloc (Nat.le_refl _) _).alloc (by simp) _⟩
  · have d : decide (v ≤ v') = false := by simpa using hv
    obtain rfl : r = false := by rw [← hr, d]; rfl
    clear hr hs hs'
    go_enter Tryd.func34, Tryd.ntmps34
    go_wp2_with fail
    go_ret
    exact ⟨rfl, ((Below.refl _ _).alloc (Nat.le_refl _) _).alloc (by simp) _⟩

theorem two_any (w : World) : Calls Tryd.prog 52 #[] w fun e w' => (∃ A, e = .returned (.slice A 2 2) ∧ IntsAt w' A [1, 0, 4, 0]) ∧ Below w.heap.size w w' := by
  go_enter Tryd.func52, Tryd.ntmps52
  go_wp2_with fail
  go_ret
  refine ⟨⟨_, rfl, IntsAt.fresh fun j x hj => ?_⟩, (Below.refl _ _).alloc (Nat.le_refl _) _⟩
  match j, hj with
  | 0, hj => cases hj; simp
  | 1, hj => cases hj; simp
  | 2, hj => cases hj; simp
  | 3, hj => cases hj; simp
theorem told_at {l : List Nat} {f : Nat} (h : f < l.length) : told l (f : Int) = row l f := by unfold told; rw [if_pos (by omega)]; rfl
theorem labs_of {L : List Int} {n : Nat} (h : labsCode L n 8 = 0) : ∀ i, i < n → labOk (gI L (i * 2)) (gI L (i * 2 + 1)) := (labsCode_ok h).2
set_option maxHeartbeats 1000000 in
theorem bellFact_true (w : World) (hE : ErrT w) (hT : Tab w) : Calls Tryd.prog 30 #[] w fun e w' => e = .returned (.bool true) ∧ Below w.heap.size w w' := by
  have N := Lib.hid (fun V A B d hU hF => LNew_ok [5, 0] [1, 0, 4, 0] 1 2 rfl rfl A B 1 d V hU hF (by decide) (by decide))
  have hU1 : IntsAt (w.alloc (.cells #[.int .i64 5, .int .i64 0] 57)) (some ⟨w.heap.size, 0, none⟩) [5, 0] := IntsAt.fresh fun j x hj => by
    match j, hj with
    | 0, hj => cases hj; simp
    | 1, hj => cases hj; simp
  have hb0 : Below w.heap.size w (w.alloc (.cells #[.int .i64 5, .int .i64 0] 57)) := (Below.refl _ _).alloc (Nat.le_refl _) _
  go_enter Tryd.func30, Tryd.ntmps30
  go_wp2_with fail
  refine (two_any _).mono ?_
  rintro e w1 ⟨⟨A2, rfl, hF1⟩, hb1⟩
  have hU2 := hU1.below hb1
  have hb01 := hb0.trans (hb1.mono hb0.size)
  clear hU1 hb1 hb0
  go_wp2_with fail
  refine (N.out _ _ _ _ hU2 hF1).mono ?_
  rintro e w2 ⟨⟨p, A, rfl, h2⟩, hb2⟩
  have hs1 := hb01.size
  have hs2 := hb2.size
  have hb02 := hb01.trans (hb2.mono hs1)
  have hI2 : LInv [5, 0] [1, 0, 4, 0] (lStart 1 2) := LInv.start (by decide) (by decide)
  have hlu : ∀ i, i < 1 → labOk (gI [5, 0] (i * 2)) (gI [5, 0] (i * 2 + 1)) := labs_of (by decide)
  have hlf : ∀ i, i < 2 → labOk (gI [1, 0, 4, 0] (i * 2)) (gI [1, 0, 4, 0] (i * 2 + 1)) := labs_of (by decide)
  have A1 := LAsk_any2 (ok := fun _ => False) h2 (hT.next hb02) hI2 hlu hlf hs2 (fun _ _ _ _ => id) 0 0 1 0
  rw [show lAsk [5, 0] [1, 0, 4, 0] (lStart 1 2) 0 0 1 0 = (⟨[2], [0], [1, 2]⟩, 0) from by kernel_rfl] at A1
  have hI3 := hI2.ask 0 0 1 0
  rw [show lAsk [5, 0] [1, 0, 4, 0] (lStart 1 2) 0 0 1 0 = (⟨[2], [0], [1, 2]⟩, 0) from by kernel_rfl] at hI3
  have H1 := Lib.hid A1
  clear A1 h2 N
  go_wp2_with fail
  with_reducible refine H1.out.mono ?_
  rintro e w3 ⟨rfl, h3, hb3, _⟩
  have hb03 := hb02.trans (hb3.mono hs1)
  have A2 := LAsk_any2 (ok := fun _ => False) h3 (hT.next hb03) hI3 hlu hlf (by have := hb3.size; omega) (fun _ _ _ _ => id) 1 0 0 0
  rw [show lAsk [5, 0] [1, 0, 4, 0] ⟨[2], [0], [1, 2]⟩ 1 0 0 0 = (⟨[2], [0], [1, 2]⟩, 7) from by kernel_rfl] at A2
  have H2 := Lib.hid A2
  rw [errVal_zero]
  clear A2 h3 H1
  go_wp2_with fail
  with_reducible refine H2.out.mono ?_
  rintro e w4 ⟨rfl, h4, hb4, _⟩
  have hb04 := hb03.trans (hb4.mono hs1)
  have H3 := Lib.hid (Error_is 7 7 true w4 (hE.next hb04) rfl)
  clear H2
  go_wp2_with fail
  refine H3.out.mono ?_
  rintro e w5 ⟨rfl, hb5⟩
  go_wp2_with fail
  refine (LReads_any (h4.all hb5) (by decide) 0).mono ?_
  rintro e w6 ⟨rfl, rfl⟩
  rw [show told (LS.mk [2] [0] [1, 2]).Re 0 = 2 from by decide]
  go_wp2_with fail
  go_ret
  exact ⟨ret_bool (by decide), hb04.trans (hb5.mono hb04.size)⟩
end Go.Proofs.YtodikdmmmfeddaaDoor
