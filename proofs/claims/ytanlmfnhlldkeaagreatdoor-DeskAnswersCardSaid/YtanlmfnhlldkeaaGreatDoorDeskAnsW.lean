/-
  The walk of DeskAnswers: desk.Run and the reference's session give the same text.
-/
import Derived.Test.YtanlmfnhlldkeaaGreatDoorDkRA
import Derived.Test.YtanlmfnhlldkeaaGreatDoorRDsL
import Derived.Laws.IdiomStrings
namespace Go.Proofs.YtanlmfnhlldkeaaGreatDoor
open Go.RowKit
set_option maxRecDepth 100000
set_option linter.unusedVariables false

set_option maxHeartbeats 8000000 in
theorem DeskAnswers_walk (s : ByteArray) {W : World} (hsW : s.size < 2 ^ 47) (w : World) (hw : w = W) (hG : Glob W) :
    Calls Tryz.prog 5 #[.string s] w fun e w' => e = .returned (.bool true) ∧ Below W.heap.size W w' := by
  subst hw
  have R0 := Run_any hG s
  have R1 := fun (V : World) => RSession_any V s
  clear hG
  generalize (⟨(dRun s.data.toList).toArray⟩ : ByteArray) = y at R0 R1
  have R0 := Lib.hid R0
  have R1 := Lib.hid R1
  have hyy : (y.toList == y.toList) = true := beq_self_eq_true _
  go_enter Tryz.func5, Tryz.ntmps5
  go_wp2_with fail
  with_reducible refine R0.out.mono ?_
  rintro e w1 ⟨rfl, hb1⟩
  go_wp2_with fail
  with_reducible refine (R1.out w1).mono ?_
  rintro e w2 ⟨rfl, hb2⟩
  have Hb := Lib.hid (hb1.trans (hb2.mono hb1.size))
  clear R0 R1 hb1 hb2
  go_wp2_with fail
  go_ret
  exact ⟨rfl, Hb.out⟩
