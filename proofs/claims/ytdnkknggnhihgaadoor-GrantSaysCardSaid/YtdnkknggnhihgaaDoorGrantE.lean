/-
  Contract: the closed fact on grants.
-/
import Derived.Test.YtdnkknggnhihgaaDoorGrantB
namespace Go.Proofs.YtdnkknggnhihgaaDoor
open Go.RowKit
set_option maxRecDepth 100000
set_option linter.unusedVariables false

def chainG : List Int := [0, 1, 1, 1, 2, 2]
theorem chainOf_any (w : World) : Calls Tryd.prog 65 #[] w fun e w' => (∃ g, e = .returned (.slice (some ⟨g, 0, none⟩) 2 2) ∧ IntsAt w' (some ⟨g, 0, none⟩) chainG) ∧ Below w.heap.size w w' := by
  go_enter Tryd.func65, Tryd.ntmps65
  go_wp2_with fail
  go_ret
  refine ⟨⟨_, rfl, fun _ => ⟨_, 0, rfl, fun j x hj => ?_⟩⟩, (Below.refl _ _).alloc (Nat.le_refl _) _⟩
  rw [Nat.zero_add, cell_of_row _ _ j _ _ _ (heap_alloc_new w _)]
  match j, hj with
  | 0, hj => cases hj; rfl
  | 1, hj => cases hj; rfl
  | 2, hj => cases hj; rfl
  | 3, hj => cases hj; rfl
  | 4, hj => cases hj; rfl
  | 5, hj => cases hj; rfl

theorem chain_gone : gCount (gK chainG 0 1) 2 = 0 := by
  have h0 : gK chainG 0 1 0 = false := by
    cases h : gK chainG 0 1 0 with
    | false => rfl
    | true => exact absurd ((kept_iff 0).1 h).1 (by decide)
  have h1 : gK chainG 0 1 1 = false := by
    cases h : gK chainG 0 1 1 with
    | false => rfl
    | true =>
      rcases ((kept_iff 1).1 h).2 with e | ⟨j, hj, hk, _⟩
      · exact absurd e (by decide)
      · obtain rfl : j = 0 := by omega
        rw [show kept (gFr chainG) (gTo chainG) (gP chainG 0 1) 0 = false from h0] at hk; cases hk
  unfold gCount; rw [h1]; unfold gCount; rw [h0]; rfl
set_option maxHeartbeats 1000000 in
theorem grantFact_true (w : World) : Calls Tryd.prog 29 #[] w fun e w' => e = .returned (.bool true) ∧ Below w.heap.size w w' := by
  have C := Lib.hid chainOf_any
  have R := Lib.hid (fun V A (hV : IntsAt V A chainG) => GRevoke_ok 3 2 chainG 0 1 A 2 V hV (by decide) (by decide) (by decide) (by decide))
  have Hc := Lib.hid chain_gone
  have H := Lib.hid (fun V A (hV : IntsAt V A chainG) => GHolds_ok 3 2 chainG A 2 V hV (by decide) (by decide) (by decide) (by decide))
  have Hs := Lib.hid (show gSet chainG 2 = 7 by decide)
  go_enter Tryd.func29, Tryd.ntmps29
  go_wp2_with fail
  refine (C.out _).mono ?_
  rintro e w1 ⟨⟨g, rfl, hg⟩, hb1⟩
  go_wp2_with fail
  refine (R.out _ _ hg).mono ?_
  rintro e w2 ⟨⟨B, d, rfl, _, _⟩, hb2⟩
  rw [Hc.out]
  have hb02 := hb1.trans (hb2.mono hb1.size)
  go_wp2_with fail
  refine (C.out _).mono ?_
  rintro e w3 ⟨⟨g3, rfl, hg3⟩, hb3⟩
  have hb03 := hb02.trans (hb3.mono hb02.size)
  go_wp2_with fail
  refine (H.out _ _ hg3).mono ?_
  rintro e w4 ⟨rfl, hb4⟩
  rw [Hs.out]
  have hb04 := hb03.trans (hb4.mono hb03.size)
  go_wp2_with fail
  go_ret
  exact ⟨rfl, hb04⟩
end Go.Proofs.YtdnkknggnhihgaaDoor
