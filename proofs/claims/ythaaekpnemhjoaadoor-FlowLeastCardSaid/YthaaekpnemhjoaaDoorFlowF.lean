/-
  Contract: the closed fact of the laws on what flows.
-/
import Derived.Test.YthaaekpnemhjoaaDoorFlowC
namespace Go.Proofs.YthaaekpnemhjoaaDoor
open Go.RowKit
set_option maxRecDepth 100000
set_option linter.unusedVariables false

def leakL : List Int := [1, 1, 0, 0, 0, 0, 1, 0, 0, 0, 6, 0, 1, 0, 0, 5, 0, 0, 0, 0, 8, 0, 0, 2, 3]
def leakS : St := .ite (.var 1) (.set 0 (.num 1)) .skip
theorem leak_code : progCode leakL 5 = 0 := by decide +kernel
theorem leak_st : IsSt leakL (5 - 1) leakS :=
  .ite (i := 4) (a := 0) (b := 2) (c := 3) rfl rfl rfl rfl (by decide) (by decide) (by decide) (.var rfl rfl (by decide)) (.set (a := 1) rfl rfl (by decide) rfl (by decide) (.num rfl rfl (by decide))) (.skip rfl)
theorem intsAt_newT (w : World) (t : TypeId) (l : List Int) : IntsAt (w.alloc (.cells (l.map (Value.int .i64)).toArray t)) (some ⟨w.heap.size, 0, none⟩) l := fun _ => by
  refine ⟨w.heap.size, 0, rfl, fun j u hj => ?_⟩
  rw [Nat.zero_add, cell_of_row _ w.heap.size j _ _ _ (heap_alloc_new w _)]
  simp [hj]
theorem leak_any (w : World) : Calls Tryd.prog 26 #[] w fun e w' => (∃ A, e = .returned (.slice A 5 5) ∧ NodesAt w' A leakL 5) ∧ Below w.heap.size w w' := by
  have h1 := intsAt_newT w 66 leakL
  have hb := (Below.refl w.heap.size w).alloc (Nat.le_refl _) (.cells (leakL.map (Value.int .i64)).toArray 66)
  have H := Lib.hid (And.intro h1 hb)
  clear h1 hb
  go_enter Tryd.func26, Tryd.ntmps26
  go_wp2_with fail
  go_ret
  exact ⟨⟨_, rfl, H.out.1, rfl, by decide⟩, H.out.2⟩

set_option maxHeartbeats 1000000 in
theorem flowFact_any {w : World} (hT : Tab w) : Calls Tryd.prog 9 #[] w fun e w' => e = .returned (.bool true) ∧ Below w.heap.size w w' := by
  have HL := Lib.hid (fun V (hV : Below w.heap.size w V) => (leak_any V).mono fun e w' ⟨he, hb⟩ => (⟨he, hb, hV.trans (hb.mono hV.size)⟩ : (∃ A, e = Ending.returned (Value.slice A 5 5) ∧ NodesAt w' A leakL 5) ∧ Below V.heap.size V w' ∧ Below w.heap.size w w'))
  have HF := Lib.hid (fun (V : World) (A Al : Option Addr) (L : List Int) (cl : Nat) (r : Bool) (hV : Below w.heap.size w V) (hA : NodesAt V A leakL 5) (hL : IntsAt V Al L) (hc : fitsCode leakL 5 L = 0) (hr : fitB L (leakS.sets 0) = r) => (Fits_ok (c := 5) (cl := cl) hA hL hc leak_st (hT.next hV) hr).mono fun e w' ⟨he, hb⟩ => (⟨he, hb, hV.trans (hb.mono hV.size)⟩ : _ ∧ Below V.heap.size V w' ∧ Below w.heap.size w w'))
  go_enter Tryd.func9, Tryd.ntmps9
  go_wp2_with fail
  refine (HL.out _ (Below.refl _ _)).mono ?_
  rintro e w1 ⟨⟨A, rfl, hA⟩, hb1, hbw1⟩
  have hl1 := intsAt_newT w1 3 [0, 1, 0, 0, 0, 0]
  have hbl1 := (Below.refl w1.heap.size w1).alloc (Nat.le_refl _) (.cells #[.int .i64 0, .int .i64 1, .int .i64 0, .int .i64 0, .int .i64 0, .int .i64 0] 3)
  have C1 := HF.out _ A _ [0, 1, 0, 0, 0, 0] 6 false (hbw1.trans (hbl1.mono hbw1.size)) (hA.below (B := 0) hbl1) hl1 (by decide +kernel) (by decide +kernel)
  go_wp2_with fail
  refine C1.mono ?_
  rintro e w2 ⟨rfl, hb2, hbw2⟩
  clear C1
  go_wp2_with fail
  refine (HL.out _ hbw2).mono ?_
  rintro e w3 ⟨⟨A2, rfl, hA2⟩, hb3, hbw3⟩
  have hl2 := intsAt_newT w3 3 [1, 1, 0, 0, 0, 0]
  have hbl2 := (Below.refl w3.heap.size w3).alloc (Nat.le_refl _) (.cells #[.int .i64 1, .int .i64 1, .int .i64 0, .int .i64 0, .int .i64 0, .int .i64 0] 3)
  have C2 := HF.out _ A2 _ [1, 1, 0, 0, 0, 0] 6 true (hbw3.trans (hbl2.mono hbw3.size)) (hA2.below (B := 0) hbl2) hl2 (by decide +kernel) (by decide +kernel)
  go_wp2_with fail
  refine C2.mono ?_
  rintro e w4 ⟨rfl, hb4, hbw4⟩
  go_wp2_with fail
  go_ret
  exact ⟨rfl, hbw4⟩
end Go.Proofs.YthaaekpnemhjoaaDoor
