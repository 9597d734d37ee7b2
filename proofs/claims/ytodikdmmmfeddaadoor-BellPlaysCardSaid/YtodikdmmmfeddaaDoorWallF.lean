/-
  Contract: the closed fact on the wall.
-/
import Derived.Test.YtodikdmmmfeddaaDoorWallN
import Derived.Test.YtodikdmmmfeddaaDoorWallB
import Derived.Test.YtodikdmmmfeddaaDoorAs
namespace Go.Proofs.YtodikdmmmfeddaaDoor
open Go.RowKit
set_option maxRecDepth 100000
set_option linter.unusedVariables false

theorem IntsAt.fresh {V : World} {b : Nat} {l : List Int} (h : ∀ j x, l[j]? = some x → V.cell? ⟨b, j, none⟩ = some (.int .i64 x)) : IntsAt V (some ⟨b, 0, none⟩) l := fun _ => ⟨b, 0, rfl, fun j x hj => by rw [Nat.zero_add]; exact h j x hj⟩

set_option maxHeartbeats 1000000 in
theorem wallFact_true (w : World) (hE : ErrT w) (hT : Tab w) : Calls Tryd.prog 22 #[] w fun e w' => e = .returned (.bool true) ∧ Below w.heap.size w w' := by
  have N := Lib.hid (fun V A hU => WNew_ok 1 (by decide) [3, 3] A 2 V hU (by decide))
  go_enter Tryd.func22, Tryd.ntmps22
  go_wp2_with fail
  refine (N.out _ _ (IntsAt.fresh fun j x hj => ?f1)).mono ?_
  case f1 =>
    match j, hj with
    | 0, hj => cases hj; simp
    | 1, hj => cases hj; simp
  rintro e w1 ⟨⟨p, At, As, Ah, ct, cs, ch, rfl, h1⟩, hb1⟩
  have hs1 := hb1.size
  have hb01 : Below w.heap.size w w1 := ((Below.refl w.heap.size w).alloc (Nat.le_refl _) _).trans (hb1.mono (by simp))
  have hI1 := WInv.start (m := 1) (T := [3, 3]) (by decide) (by decide)
  generalize hbase : (w.alloc (Obj.cells #[.int .i64 3, .int .i64 3] 3)).heap.size = base at *
  have hbw : w.heap.size ≤ base := by rw [← hbase]; simp
  have hgb : 2 < base := Nat.lt_of_lt_of_le hT.lt hbw
  clear hbase
  have A1 := WAsk_any h1 (hT.next hb01) hI1 hs1 hgb 0 0 0 0
  rw [show wAsk [3, 3] (wStart 1 [3, 3]) 0 0 0 = (⟨[1], [1, 2]⟩, 0) from by kernel_rfl] at A1
  have hI2 := hI1.ask 0 0 0
  rw [show wAsk [3, 3] (wStart 1 [3, 3]) 0 0 0 = (⟨[1], [1, 2]⟩, 0) from by kernel_rfl] at hI2
  have H1 := Lib.hid A1
  clear A1 h1 N
  go_wp2_with fail
  with_reducible refine H1.out.mono ?_
  rintro e w2 ⟨rfl, h2, hb2, _⟩
  have hs2 := hb2.size
  have hb02 := hb01.trans (hb2.mono hbw)
  have A2 := WAsk_any h2 (hT.next hb02) hI2 (by omega) hgb 0 0 1 0
  rw [show wAsk [3, 3] ⟨[1], [1, 2]⟩ 0 0 1 = (⟨[1], [1, 2]⟩, 7) from by kernel_rfl] at A2
  have H2 := Lib.hid A2
  clear A2 h2 H1
  go_wp2_with fail
  with_reducible refine H2.out.mono ?_
  rintro e w3 ⟨rfl, h3, hb3, _⟩
  have hb03 := hb02.trans (hb3.mono hbw)
  have H3 := Lib.hid (Error_is 7 7 true w3 (hE.next hb03) rfl)
  rw [errVal_zero]
  clear H2
  go_wp2_with fail
  refine H3.out.mono ?_
  rintro e w4 ⟨rfl, hb4⟩
  go_wp2_with fail
  refine (Saw_any (h3.all hb4) (by decide) 0).mono ?_
  rintro e w5 ⟨rfl, rfl⟩
  rw [show told (WS.mk [1] [1, 2]).Saw 0 = 1 from by decide]
  go_wp2_with fail
  go_ret
  exact ⟨ret_bool (by decide), hb03.trans (hb4.mono hb03.size)⟩
end Go.Proofs.YtodikdmmmfeddaaDoor
