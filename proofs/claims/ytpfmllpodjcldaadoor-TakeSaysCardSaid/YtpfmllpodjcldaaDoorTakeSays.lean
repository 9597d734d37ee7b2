/-
  The walk of TakeSays.
-/
import Derived.Test.YtpfmllpodjcldaaDoorTakeR3
import Derived.Test.YtpfmllpodjcldaaDoorAs
namespace Go.Proofs.YtpfmllpodjcldaaDoor
open Go.RowKit
set_option maxRecDepth 100000
set_option linter.unusedVariables false

set_option maxHeartbeats 8000000 in
theorem TakeSays_walk (L : List (List Int)) (A : Option Addr) (c : Nat) {W : World} (hL : RowsIn anyB 1 W A L) (nL : L.length ≤ maxLen) (m : Nat) (S : List Int) (As : Option Addr) (cs : Nat) (hS5 : S.length = m * 5) (hS : IntsAt W As S) (hs : m * 5 < 2 ^ 47) (bS : ∀ x ∈ S, I64 x)
    (w : World) (hw : w = W) (hE : ErrT W) :
    Calls Tryd.prog 3 #[.slice A L.length c, .slice As m cs] w fun e w' => e = .returned (.bool true) ∧ Below W.heap.size W w' := by
  subst hw
  have nL2 : L.length ≤ 9223372036854775807 := by unfold maxLen at nL; omega
  have H1 := Lib.hid (TCheck_any (c := c) hL rfl nL)
  have H2 := Lib.hid (RGraph_any (c := c) hL rfl nL)
  have HE0 := Lib.hid (Error_is (gCode L) (gCode L) true w hE (by simp))
  have HP := Lib.hid (fun V (hV : Below w.heap.size w V) => Play_any (c := c) (cs := cs) (hL.below hV) rfl nL (hS.below hV) (Nat.le_of_eq hS5.symm) hs)
  have HR := Lib.hid (fun V (hV : Below w.heap.size w V) => RPlay_any (c := c) (cs := cs) (hL.below hV) rfl nL (hS.below hV) (Nat.le_of_eq hS5.symm) hs)
  have HEr := Lib.hid (fun V (hV : Below w.heap.size w V) k => Error_is k k true V (hE.next hV) (by simp))
  have HEz := Lib.hid (show ∀ V, Below w.heap.size w V → Calls Tryd.prog 7 #[.nilIface, .int .i64 0] V (fun e w' => e = .returned (.bool true) ∧ Below V.heap.size V w') from fun V hV => Error_is 0 0 true V (hE.next hV) (by decide))
  clear hE hS hL
  generalize errVal (gCode L) = ev at *
  generalize gCode L = code at *
  generalize L.length = n at *
  go_enter Tryd.func3, Tryd.ntmps3
  go_wp2_with (first | (go_at_call 8; with_reducible refine H1.out.mono ?_; rintro e w' ⟨rfl, rfl⟩) | (go_at_call 9; with_reducible refine H2.out.mono ?_; rintro e w' ⟨rfl, rfl⟩) | (go_at_call 7; with_reducible refine HE0.out.mono ?_; rintro e w1 ⟨rfl, hb1⟩))
  clear H1 H2 HE0
  refine (HR.out w1 hb1).mono ?_
  rintro e w2 ⟨⟨k, i, ho, hp⟩, hb2⟩
  have hw2 := hb1.trans (hb2.mono hb1.size)
  rcases hp with ⟨hk, rfl⟩ | ⟨rfl, A1, n1, c1, hn1, rfl, hr1⟩
  · go_wp2_with fail
    refine (HP.out w2 hw2).mono ?_
    rintro e w3 ⟨hp, hb3⟩
    have hw3 := hw2.trans (hb3.mono hw2.size)
    obtain ⟨k2, i2, ho2, hp2⟩ := hp.out
    obtain ⟨rfl, rfl⟩ := ho.same ho2
    rcases hp2 with ⟨hk2, rfl⟩ | ⟨hk2, _⟩
    · have HE := HEr.out w3 hw3 k
      rw [errVal_pos hk] at HE
      have HE := Lib.hid HE
      have HRo := Lib.hid (fun V => Rows_any (w := V) (A := none) (A' := none) (c := 0) (c' := 0) (n := 0) (L := []) RowsIn.nil RowsIn.nil rfl (by omega) (fun i hi => by omega))
      clear hp ho ho2 HP HR HEr hk hk2
      go_wp2_with (first | (go_at_call 7; with_reducible refine HE.out.mono ?_; rintro e w4 ⟨rfl, hb4⟩) | (go_at_call 12; with_reducible refine (HRo.out _).mono ?_; rintro e w5 ⟨rfl, d, rfl⟩))
      go_ret
      exact ⟨rfl, belowD (hw3.trans (hb4.mono hw3.size)) _⟩
    · exact absurd hk2 hk
  · have Hn1 := Lib.hid hn1
    clear hn1
    go_wp2_with fail
    refine (HP.out w2 hw2).mono ?_
    rintro e w3 ⟨hp, hb3⟩
    have hw3 := hw2.trans (hb3.mono hw2.size)
    obtain ⟨k2, i2, ho2, hp2⟩ := hp.out
    obtain ⟨e1, rfl⟩ := ho.same ho2
    rcases hp2 with ⟨hk2, _⟩ | ⟨_, hi2, h0, hall, A2, n2, c2, hn2, rfl, hg⟩
    · exact absurd e1.symm hk2
    · subst hi2
      have HE := Lib.hid (HEz.out w3 hw3)
      have hG := (play_law (gOk h0) hall).1
      have hf := hG.few
      have hr2 := hg.rows (fun l hl => by
        obtain ⟨j, hj, e⟩ := List.getElem_of_mem hl
        have := hG.row j hj
        rw [List.getD_eq_getElem?_getD, List.getElem?_eq_getElem hj] at this
        have h3 : l.length = (playG L S m).length := by rw [← e]; exact this
        rw [h3]
        unfold maxLen; omega)
      have hne : n1 = n2 := by rw [Hn1.out, hn2]
      subst hne
      have HRo := Lib.hid (fun V (hV : Below w3.heap.size w3 V) => Rows_any (c := c2) (c' := c1) (n := n1) (hr2.below hV) ((hr1.below hb3).below hV) Hn1.out.symm (by omega) (fun j hj => by rw [hG.row j (by omega)]; omega))
      clear hp ho ho2 HP HR HEr hr1 hr2 hg hG hf hall e1 hn2 h0
      go_wp2_with (first | (go_at_call 7; with_reducible refine HE.out.mono ?_; rintro e w4 ⟨rfl, hb4⟩) | (go_at_call 12; with_reducible refine (HRo.out _ hb4).mono ?_; rintro e w5 ⟨rfl, d, rfl⟩))
      go_ret
      exact ⟨rfl, belowD (hw3.trans (hb4.mono hw3.size)) _⟩
end Go.Proofs.YtpfmllpodjcldaaDoor
