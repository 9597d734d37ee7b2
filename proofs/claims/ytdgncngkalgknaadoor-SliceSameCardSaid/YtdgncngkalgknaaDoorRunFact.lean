/-
  The closed facts of the laws on reading and on running.
-/
import Derived.Test.YtdgncngkalgknaaDoorRdN
import Derived.Test.YtdgncngkalgknaaDoorRunE
import Derived.Test.YtdgncngkalgknaaDoorInts
namespace Go.Proofs.YtdgncngkalgknaaDoor
open Go.RowKit
set_option maxRecDepth 100000
set_option linter.unusedVariables false

def factL : List Int := [1, 1, 0, 0, 0, 0, 2, 0, 0, 0, 2, 0, 0, 1, 0, 6, 0, 2, 0, 0]
def factS : St := .set 0 (.op 2 (.var 1) (.num 2))
theorem fact_code : progCode factL 4 = 0 := by decide +kernel
theorem fact_st : IsSt factL (4 - 1) factS :=
  .set (i := 3) (a := 2) rfl rfl (by decide) rfl (by decide) (.op (k := 2) (a := 0) (b := 1) (by decide) (by decide) rfl rfl rfl (by decide) (by decide) (.var rfl rfl (by decide)) (.num rfl rfl (by decide)))
theorem fact_run : factS.run [0, 5, 0, 0, 0, 0] 9 = some ([7, 5, 0, 0, 0, 0], 8) := by decide +kernel
theorem fact_runCode : runCode factL 4 (castL [0, 5, 0, 0, 0, 0]) (9 : Nat) = 0 := by decide +kernel
theorem fact_vars : Vars [0, 5, 0, 0, 0, 0] := ⟨rfl, fun i => by rcases i with _ | _ | _ | _ | _ | _ | i <;> simp⟩
theorem intsAt_built (w : World) (t : TypeId) (l : List Int) : IntsAt (w.alloc (.cells (l.map (Value.int .i64)).toArray t)) (some ⟨w.heap.size, 0, none⟩) l := fun _ => by
  refine ⟨w.heap.size, 0, rfl, fun j u hj => ?_⟩
  rw [Nat.zero_add, cell_of_row _ w.heap.size j _ _ _ (heap_alloc_new w _)]
  simp [hj]
theorem Read_fact {w : World} (hP : Pow10 w.heap.size w) : Calls Tryd.prog 13 #[.string ⟨#[97, 61, 43, 98, 35, 50, 59]⟩] w fun e w' => (∃ A c, e = .returned (.tuple #[.slice A 4 c, .nilIface]) ∧ NodesAt w' A factL 4) ∧ Below w.heap.size w w' := by
  refine (Read_good (s := ⟨#[97, 61, 43, 98, 35, 50, 59]⟩) (by decide) hP (f := 8) (i := 3) (o := factL) factT_read).mono ?_
  rintro e w' ⟨⟨A, n, c, he, hl, _, hi⟩, hb⟩
  obtain rfl : n = 4 := by have : factL.length = 20 := rfl; omega
  exact ⟨⟨A, c, he, hi, hl, by decide⟩, hb⟩

set_option maxHeartbeats 4000000 in
theorem runFact_any {w : World} (hP : Pow10 w.heap.size w) : Calls Tryd.prog 28 #[] w fun e w' => e = .returned (.bool true) ∧ Below w.heap.size w w' := by
  have HR := Lib.hid (Read_fact hP)
  clear hP
  go_enter Tryd.func28, Tryd.ntmps28
  go_wp2_with fail
  refine HR.out.mono ?_
  rintro e w1 ⟨⟨A, c, rfl, hA⟩, hb1⟩
  have hl1 := intsAt_built w1 3 (castL [0, 5, 0, 0, 0, 0])
  have hbl1 := (Below.refl w1.heap.size w1).alloc (Nat.le_refl _) (.cells ((castL [0, 5, 0, 0, 0, 0]).map (Value.int .i64)).toArray 3)
  have C1 := Run_ok (c := c) (cl := 6) (hA.below (B := 0) hbl1) hl1 fact_runCode fact_vars fact_st
  rw [fact_run] at C1
  have C1 := Lib.hid (show Calls Tryd.prog 14 #[.slice A 4 c, .slice (some ⟨w1.heap.size, 0, none⟩) 6 6, .int .i64 9] (w1.alloc (.cells ((castL [0, 5, 0, 0, 0, 0]).map (Value.int .i64)).toArray 3)) (fun e w' => (∃ B c', e = .returned (.tuple #[.slice B 6 c', .int .i64 1, .nilIface]) ∧ IntsAt w' B (castL [7, 5, 0, 0, 0, 0])) ∧ Below (w1.alloc (.cells ((castL [0, 5, 0, 0, 0, 0]).map (Value.int .i64)).toArray 3)).heap.size (w1.alloc (.cells ((castL [0, 5, 0, 0, 0, 0]).map (Value.int .i64)).toArray 3)) w') from C1)
  have hbw1 := hb1.trans (hbl1.mono hb1.size)
  have Hs1 := Lib.hid hbw1.size
  go_wp2_with fail
  refine C1.out.mono ?_
  rintro e w2 ⟨⟨B, c', rfl, hB⟩, hb2⟩
  have hbw2 := hbw1.trans (hb2.mono Hs1.out)
  have hl2 := intsAt_built w2 3 (castL [7, 5, 0, 0, 0, 0])
  have hbl2 := (Below.refl w2.heap.size w2).alloc (Nat.le_refl _) (.cells ((castL [7, 5, 0, 0, 0, 0]).map (Value.int .i64)).toArray 3)
  have C2 := Lib.hid (show Calls Tryd.prog 15 #[.slice B 6 c', .slice (some ⟨w2.heap.size, 0, none⟩) 6 6] (w2.alloc (.cells ((castL [7, 5, 0, 0, 0, 0]).map (Value.int .i64)).toArray 3)) (fun e w' => e = .returned (.bool true) ∧ ∃ n, w' = (w2.alloc (.cells ((castL [7, 5, 0, 0, 0, 0]).map (Value.int .i64)).toArray 3)).drewN n) from Ints_any (castL [7, 5, 0, 0, 0, 0]) (castL [7, 5, 0, 0, 0, 0]) B _ c' 6 _ (hB.below hbl2) hl2 (by decide))
  have hbw3 := hbw2.trans (hbl2.mono hbw2.size)
  have H3 := Lib.hid hbw3
  clear C1 hb1 hb2 hB hl2 hbl2 hl1 hbl1 hbw1 hbw2 hbw3
  go_wp2_with fail
  refine C2.out.mono ?_
  rintro e w3 ⟨rfl, k, rfl⟩
  go_wp2_with fail
  go_ret
  exact ⟨rfl, belowD H3.out k⟩

set_option maxHeartbeats 4000000 in
theorem progFact_any {w : World} (hP : Pow10 w.heap.size w) : Calls Tryd.prog 26 #[] w fun e w' => e = .returned (.bool true) ∧ Below w.heap.size w w' := by
  have HR := Lib.hid (Read_fact hP)
  clear hP
  go_enter Tryd.func26, Tryd.ntmps26
  go_wp2_with fail
  refine HR.out.mono ?_
  rintro e w1 ⟨⟨A, c, rfl, hA⟩, hb1⟩
  obtain ⟨b, off, rfl, hc⟩ := hA.ints (by decide)
  have c0 : w1.cell? ⟨b, off + 15, none⟩ = some (.int .i64 6) := hc 15 6 rfl
  have c1 : w1.cell? ⟨b, off + 10, none⟩ = some (.int .i64 2) := hc 10 2 rfl
  clear hc hA
  go_wp2_with fail
  go_ret
  exact ⟨rfl, hb1⟩
end Go.Proofs.YtdgncngkalgknaaDoor
