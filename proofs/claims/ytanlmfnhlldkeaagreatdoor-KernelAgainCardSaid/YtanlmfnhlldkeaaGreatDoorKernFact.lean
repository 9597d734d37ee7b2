/-
  Contracts: what the laws of kernels ask: pair, the closed fact, reach.
-/
import Derived.Test.YtanlmfnhlldkeaaGreatDoorKerC
import Derived.Test.YtanlmfnhlldkeaaGreatDoorKerE
import Derived.Test.YtanlmfnhlldkeaaGreatDoorInts
namespace Go.Proofs.YtanlmfnhlldkeaaGreatDoor
open Go.RowKit
set_option maxRecDepth 100000
set_option linter.unusedVariables false

theorem intsIn_new (w : World) (l : List Int) (t : TypeId) : IntsIn anyB (w.alloc (.cells (l.map (Value.int .i64)).toArray t)) (some ⟨w.heap.size, 0, none⟩) l := fun _ =>
  ⟨w.heap.size, 0, rfl, trivial, fun j x hj => by rw [Nat.zero_add, cell_of_row _ w.heap.size j _ _ _ (heap_alloc_new w _)]; simp [hj]⟩
theorem ints_keep {ok : Nat → Prop} {w w' : World} {A : Option Addr} {l : List Int} (h : IntsIn ok w A l) (hb : Below w.heap.size w w') : IntsIn ok w' A l := h.keep fun b h1 _ => hb.block b h1

def pL : List (List Int) := [[0, 0, 7, 2, 0, 0], [3, 1, 0, 5, 1, 0]]
def pP : List Int := [0, 1]
def pT : List Int := [0, 1]
theorem box_ints {w : World} {b : Nat} {t : TypeId} {l : List Int} (h : BoxN w b t (l.map (Value.int .i64)).toArray) : IntsIn anyB w (some ⟨b, 0, none⟩) l := fun _ => ⟨b, 0, rfl, trivial, fun j x hj => by rw [Nat.zero_add]; exact h.cell (by simp [hj])⟩
set_option maxHeartbeats 2000000 in
theorem pair_any (w : World) : Calls Tryz.prog 38 #[] w fun e w' => (∃ A1 A2 A3, e = .returned (.agg #[.slice A1 2 2, .slice A2 1 1, .slice A3 2 2]) ∧ RowsIn anyB 3 w' A1 pL ∧ IntsIn anyB w' A2 pP ∧ IntsIn anyB w' A3 pT) ∧ Below w.heap.size w w' := by
  go_enter Tryz.func38, Tryz.ntmps38
  go_wp2_with fail
  refine bodyPost_ret (results_row1 rfl _ _ w.heap.size 26 #[.slice (some ⟨w.heap.size + 1 + 1 + 1, 0, none⟩) 2 2, .slice (some ⟨w.heap.size + 1 + 1 + 1 + 1, 0, none⟩) 1 1, .slice (some ⟨w.heap.size + 1 + 1 + 1 + 1 + 1, 0, none⟩) 2 2] (0, 0) _ rfl ?hR Tryz.underlying26 rfl (by kernel_rfl)) rfl ?_
  case hR =>
    show BoxN _ w.heap.size 26 _
    repeat (first | exact box_new' _ _ _ _ (by first | rfl | (simp; done)) | refine BoxN.alloc ?_ _)
  have b1 : ∀ V, BoxN V (w.heap.size + 1) 58 ([0, 0, 7, 2, 0, 0].map (Value.int .i64)).toArray → IntsIn anyB V (some ⟨w.heap.size + 1, 0, none⟩) [0, 0, 7, 2, 0, 0] := fun V h => box_ints h
  have b2 : ∀ V, BoxN V (w.heap.size + 1 + 1) 58 ([3, 1, 0, 5, 1, 0].map (Value.int .i64)).toArray → IntsIn anyB V (some ⟨w.heap.size + 1 + 1, 0, none⟩) [3, 1, 0, 5, 1, 0] := fun V h => box_ints h
  have b3 : ∀ V, BoxN V (w.heap.size + 1 + 1 + 1) 55 #[.slice (some ⟨w.heap.size + 1, 0, none⟩) 2 2, .slice (some ⟨w.heap.size + 1 + 1, 0, none⟩) 2 2] → IntsIn anyB V (some ⟨w.heap.size + 1, 0, none⟩) [0, 0, 7, 2, 0, 0] → IntsIn anyB V (some ⟨w.heap.size + 1 + 1, 0, none⟩) [3, 1, 0, 5, 1, 0] → RowsIn anyB 3 V (some ⟨w.heap.size + 1 + 1 + 1, 0, none⟩) pL := fun V h i1 i2 _ => by
    refine ⟨_, 0, rfl, trivial, fun i l hi => ?_⟩
    rw [Nat.zero_add]
    match i, hi with
    | 0, hi => simp [pL] at hi; subst hi; exact ⟨_, 2, 2, h.cell (k := 0) rfl, rfl, by unfold maxLen; omega, i1⟩
    | 1, hi => simp [pL] at hi; subst hi; exact ⟨_, 2, 2, h.cell (k := 1) rfl, rfl, by unfold maxLen; omega, i2⟩
    | i + 2, hi => simp [pL] at hi
  refine ⟨⟨_, _, _, rfl, b3 _ ?_ (b1 _ ?_) (b2 _ ?_), box_ints (t := 54) ?_, box_ints (t := 3) ?_⟩, ?_⟩
  · repeat (first | exact box_new' _ _ _ _ (by first | rfl | (simp; done)) | refine BoxN.alloc ?_ _)
  · repeat (first | exact box_new' _ _ _ _ (by first | rfl | (simp; done)) | refine BoxN.alloc ?_ _)
  · repeat (first | exact box_new' _ _ _ _ (by first | rfl | (simp; done)) | refine BoxN.alloc ?_ _)
  · repeat (first | exact box_new' _ _ _ _ (by first | rfl | (simp; done)) | refine BoxN.alloc ?_ _)
  · repeat (first | exact box_new' _ _ _ _ (by first | rfl | (simp; done)) | refine BoxN.alloc ?_ _)
  · repeat (first | exact Below.refl _ _ | refine Below.alloc ?_ (by first | exact Nat.le_refl _ | (simp; done) | (simp; omega)) _)
theorem pair_code : sysCode pL pP 1 pT = 0 := by decide
theorem pair_shown : ((kturns (sysOps pL) (turnsFrom pT 0 9) kNew).parts 1).shown = [7] := by decide
set_option maxHeartbeats 2000000 in
theorem kernelFact_true (w : World) : Calls Tryz.prog 16 #[] w fun e w' => e = .returned (.bool true) ∧ Below w.heap.size w w' := by
  have HP := Lib.hid (pair_any w)
  go_enter Tryz.func16, Tryz.ntmps16
  go_wp2_with fail
  refine HP.out.mono ?_
  rintro e w1 ⟨⟨A1, A2, A3, rfl, iL, iP, iT⟩, hb1⟩
  clear HP
  have HN := Lib.hid (New_ok (cp := 2) (co := 1) (ct := 2) iL iP rfl iT rfl rfl (by unfold maxLen; decide) (by unfold maxLen; decide) (by unfold maxLen; decide) pair_code)
  go_wp2_with fail
  refine HN.out.mono ?_
  rintro e w2 ⟨⟨p, rfl, gp, gh, K, hK⟩, hb2⟩
  clear HN
  have HR := Lib.hid (show Calls Tryz.prog 18 #[.pointer (some ⟨p, 0, none⟩), .int .i64 (9 : Int)] w2 _ from Run_ok hK (sysOk pair_code) kNew_inv (by omega) 9 (by omega) (by omega))
  have hlo := hb1.size
  have Hlow := Lib.hid hK.low
  have Hb2 := Lib.hid (hb1.trans (hb2.mono hlo))
  have hs2 := hb2.size
  clear hb1 hb2 iL iP iT
  go_wp2_with fail
  refine HR.out.mono ?_
  rintro e w3 ⟨rfl, r3, k3, t3⟩
  have HT := Lib.hid (Tick_any k3)
  have HS := Lib.hid (show Calls Tryz.prog 20 #[.pointer (some ⟨p, 0, none⟩), .int .i64 (1 : Int)] w3 _ from Shown_any k3 (i := 1) (by decide) (by decide) (by rw [pair_shown]; decide))
  rw [pair_shown] at HS
  have Hb3 := Lib.hid (Hb2.out.trans (t3.to_below (fun b hb => Hlow.out b (by omega)) (by omega)))
  have hs3 := t3.size
  clear k3 t3 HR hK
  go_wp2_with (first | (go_at_call 13; with_reducible refine HT.out.mono ?_; rintro e w' ⟨rfl, rfl⟩) | (go_at_call 20; with_reducible refine HS.out.mono ?_; rintro e w4 ⟨⟨A4, c4, rfl, o4⟩, hb4⟩) | (go_at_call 19; refine (Ints_any [7] [7] A4 _ c4 1 _ (o4.at_.below ((Below.refl _ _).alloc (Nat.le_refl _) _)) (box_ints (t := 3) (BoxN.new _ _ _)).at_ (by decide)).mono ?_; rintro e w5 ⟨rfl, n5, rfl⟩))
  go_ret
  have h34 := Hb3.out.trans (hb4.mono (by have := hs3; omega))
  exact ⟨rfl, belowD (h34.alloc (by have := hb4.size; omega) _) _⟩
end Go.Proofs.YtanlmfnhlldkeaaGreatDoor
