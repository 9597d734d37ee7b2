/-
  The walks of ProgAgain and ProgBack.
-/
import Derived.Test.YtdgncngkalgknaaDoorJoinsW
import Derived.Test.YtdgncngkalgknaaDoorWrtM
namespace Go.Proofs.YtdgncngkalgknaaDoor
open Go.RowKit
set_option maxRecDepth 100000
set_option linter.unusedVariables false

theorem wrT_short {s : ByteArray} {t : List UInt8} (h : s.data.toList = t) (h3 : s.size ≤ 300) : wrT t = .tuple #[.string s, .nilIface] := by
  subst h
  unfold wrT
  have : s.data.toList.length = s.size := by simp
  rw [if_pos (by omega)]
section
variable {w : World} {s : ByteArray}
set_option maxHeartbeats 4000000 in
theorem PA_bad {k : Nat} (hP : Pow10 w.heap.size w) (hN : ∀ V, Below w.heap.size w V → NumErrs V) (h : readP s = .bad k) :
    Calls Tryd.prog 5 #[.string s] w fun e w' => e = .returned (.bool true) ∧ Below w.heap.size w w' := by
  have C0 := Lib.hid (progFact_any hP)
  have C1 := Lib.hid (Read_wrong hP hN h)
  clear hP hN h
  go_enter Tryd.func5, Tryd.ntmps5
  go_wp2_with fail
  refine C0.out.mono ?_
  rintro e w1 ⟨rfl, hb1⟩
  go_wp2_with fail
  refine (C1.out _ hb1).mono ?_
  rintro e w2 ⟨rfl, hb2⟩
  go_wp2_with fail
  go_ret
  exact ⟨rfl, hb2⟩
set_option maxHeartbeats 4000000 in
theorem PA_good {i : Nat} {l : List UInt8} {o : List Int} (hP : Pow10 w.heap.size w) (hN : ∀ V, Below w.heap.size w V → NumErrs V) (h : readP s = .good i l o) :
    Calls Tryd.prog 5 #[.string s] w fun e w' => e = .returned (.bool true) ∧ Below w.heap.size w w' := by
  obtain ⟨h300, -, -, hc, t, hs, ht⟩ := readP_good h
  have C0 := Lib.hid (progFact_any hP)
  have C1 := Lib.hid (Read_right hP hN h)
  have HW := Lib.hid (fun (V : World) (A : Option Addr) (c : Nat) (hV : Below w.heap.size w V) (hA : NodesAt V A o (i + 1)) => Write_good (c := c) (hP.at hV) hA hc hs)
  rw [wrT_short ht h300] at HW
  clear hP hN h hc hs ht h300
  go_enter Tryd.func5, Tryd.ntmps5
  go_wp2_with fail
  refine C0.out.mono ?_
  rintro e w1 ⟨rfl, hb1⟩
  go_wp2_with fail
  refine (C1.out _ hb1).mono ?_
  rintro e w2 ⟨⟨A, c, rfl, hA⟩, -, hb2⟩
  have C2 := Lib.hid (HW.out w2 A c hb2 hA)
  have HB := Lib.hid hb2
  clear HW C0 C1 hA hb1 hb2
  go_wp2_with fail
  refine C2.out.mono ?_
  rintro e w3 ⟨rfl, hb3⟩
  have HB3 := Lib.hid (HB.out.trans (hb3.mono HB.out.size))
  clear hb3 C2
  go_wp2_with fail
  go_ret
  exact ⟨rfl, HB3.out⟩
end
theorem ProgAgain_walk (s : ByteArray) (hs : s.size < 2 ^ 47) {W : World} (w : World) (hw : w = W) (hP : Pow10 W.heap.size W) (hN : ∀ V, Below W.heap.size W V → NumErrs V) :
    Calls Tryd.prog 5 #[.string s] w fun e w' => e = .returned (.bool true) ∧ Below W.heap.size W w' := by
  subst hw
  cases h : readP s with
  | bad k => exact PA_bad hP hN h
  | good i l o => exact PA_good hP hN h
end Go.Proofs.YtdgncngkalgknaaDoor
