/-
  Contract: the closed fact of the laws on relations.
-/
import Derived.Test.YtndeplakkhfmlaaDoorRelB
namespace Go.Proofs.YtndeplakkhfmlaaDoor
open Go.RowKit

theorem intsAt_new3 (w : World) (x y z : Int) : IntsAt (w.alloc (.cells #[.int .i64 x, .int .i64 y, .int .i64 z] 3)) (some ⟨w.heap.size, 0, none⟩) [x, y, z] := fun _ => by
  refine ⟨w.heap.size, 0, rfl, fun j u hj => ?_⟩
  rw [Nat.zero_add, cell_of_row _ w.heap.size j _ _ _ (heap_alloc_new w _)]
  match j, hj with
  | 0, hj => simp at hj; subst hj; rfl
  | 1, hj => simp at hj; subst hj; rfl
  | 2, hj => simp at hj; subst hj; rfl

set_option maxHeartbeats 400000 in
theorem relFact_any (w : World) :
    Calls Tryd.prog 26 #[] w fun e w' => e = .returned (.bool true) ∧ Below w.heap.size w w' := by
  have Hc := Lib.hid (fun (c : Nat) (W : World) (h : IntsAt W (some ⟨w.heap.size, 0, none⟩) [2, 4, 0]) => Closure_ok [2, 4, 0] (by decide) (by
    intro i
    match i with
    | 0 => decide
    | 1 => decide
    | 2 => decide
    | i + 3 => exact (by decide : 0 < 2 ^ 3)) (some ⟨w.heap.size, 0, none⟩) c W h)
  have h1 := intsAt_new3 w 2 4 0
  go_enter Tryd.func26, Tryd.ntmps26
  go_wp2_with (go_at_call 9; refine (Hc.out _ _ h1).mono ?_; rintro e w1 ⟨B, c', rfl, hints, hbl⟩)
  have hcl : castL (closed [2, 4, 0]) = [7, 6, 4] := by decide
  rw [hcl] at hints
  have h3 := hints.below ((Below.refl _ w1).alloc (Nat.le_refl _) (.cells #[.int .i64 7, .int .i64 6, .int .i64 4] 3))
  have h4 := intsAt_new3 w1 7 6 4
  refine (Ints_any [7, 6, 4] [7, 6, 4] B _ c' 3 _ h3 h4 (by decide)).mono ?_
  rintro e w2 ⟨rfl, q, rfl⟩
  go_wp2
  go_ret
  refine ⟨ret_bool (by simp), ?_⟩
  exact below_drewN ((((Below.refl _ w).alloc (Nat.le_refl _) _).trans (hbl.mono (by simp))).alloc (by have := hbl.size; simp at this; omega) _) q
end Go.Proofs.YtndeplakkhfmlaaDoor
