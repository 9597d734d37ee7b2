/-
  Contract: the closed fact on biba.
-/
import Derived.Test.YtodikdmmmfeddaaDoorBibaN
import Derived.Test.YtodikdmmmfeddaaDoorBibaA
import Derived.Test.YtodikdmmmfeddaaDoorAs
namespace Go.Proofs.YtodikdmmmfeddaaDoor
open Go.RowKit
set_option maxRecDepth 100000
set_option linter.unusedVariables false

theorem IntsAt.fresh {V : World} {b : Nat} {l : List Int} (h : ∀ j x, l[j]? = some x → V.cell? ⟨b, j, none⟩ = some (.int .i64 x)) : IntsAt V (some ⟨b, 0, none⟩) l := fun _ => ⟨b, 0, rfl, fun j x hj => by rw [Nat.zero_add]; exact h j x hj⟩

set_option maxHeartbeats 1000000 in
theorem bibaFact_true (w : World) (hE : ErrT w) : Calls Tryd.prog 14 #[] w fun e w' => e = .returned (.bool true) ∧ Below w.heap.size w w' := by
  have N := Lib.hid (fun V A B hU hF => New_ok [5] [2, 4] A B 1 2 V hU hF (by decide) (by decide))
  go_enter Tryd.func14, Tryd.ntmps14
  go_wp2_with fail
  refine (N.out _ _ _ (IntsAt.fresh fun j x hj => ?f1) (IntsAt.fresh fun j x hj => ?f2)).mono ?_
  case f1 =>
    match j, hj with
    | 0, hj => cases hj; simp
  case f2 =>
    match j, hj with
    | 0, hj => cases hj; simp
    | 1, hj => cases hj; simp
  rintro e w1 ⟨⟨p, Au, Af, Aw, Ah, cu, cf, cw, ch, rfl, h1⟩, hb1⟩
  have hs1 := hb1.size
  have hb01 : Below w.heap.size w w1 := (((Below.refl w.heap.size w).alloc (Nat.le_refl _) _).alloc (by simp) _).trans (hb1.mono (by simp; omega))
  generalize hbase : ((w.alloc (Obj.cells #[.int .i64 5] 3)).alloc (Obj.cells #[.int .i64 2, .int .i64 4] 3)).heap.size = base at *
  have hbw : w.heap.size ≤ base := by rw [← hbase]; simp; omega
  clear hbase
  have A1 := Ask_any h1 hs1 (by decide) (by decide) 0 0 0 0
  rw [show bAsk [2, 4] ⟨[5], [2, 4], [5]⟩ 0 0 0 = (⟨[2], [2, 4], [2]⟩, 0) from rfl] at A1
  have H1 := Lib.hid A1
  clear A1 h1 N
  go_wp2_with fail
  with_reducible refine H1.out.mono ?_
  rintro e w2 ⟨rfl, h2, hb2, _⟩
  have hs2 := hb2.size
  have hb02 := hb01.trans (hb2.mono hbw)
  have A2 := Ask_any h2 (by omega) (by decide) (by decide) 1 0 1 0
  rw [show bAsk [2, 4] ⟨[2], [2, 4], [2]⟩ 1 0 1 = (⟨[2], [2, 4], [2]⟩, 7) from rfl] at A2
  have H2 := Lib.hid A2
  clear A2 h2 H1
  go_wp2_with fail
  with_reducible refine H2.out.mono ?_
  rintro e w3 ⟨rfl, h3, hb3, _⟩
  have hb03 := hb02.trans (hb3.mono hbw)
  have H3 := Lib.hid (Error_is 7 7 true w3 (hE.next hb03) rfl)
  rw [errVal_zero]
  clear H2
  go_wp2_with fail
  refine H3.out.mono ?_
  rintro e w4 ⟨rfl, hb4⟩
  go_wp2_with fail
  refine (Level_any (h3.all hb4) (by decide) 0).mono ?_
  rintro e w5 ⟨rfl, rfl⟩
  rw [show lev (BS.mk [2] [2, 4] [2]).U 0 = 2 from rfl]
  go_wp2_with fail
  go_ret
  exact ⟨ret_bool (by decide), hb03.trans (hb4.mono hb03.size)⟩
end Go.Proofs.YtodikdmmmfeddaaDoor
