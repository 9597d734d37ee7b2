/-
  The walk of TakeStays.
-/
import Derived.Test.YtpfmllpodjcldaaTakeSound
namespace Go.Proofs.Ytpfmllpodjcldaa
open Go.RowKit
set_option maxRecDepth 100000
set_option linter.unusedVariables false

set_option maxHeartbeats 8000000 in
theorem TakeStays_walk (L : List (List Int)) (A : Option Addr) (c : Nat) {W : World} (hL : RowsIn anyB 1 W A L) (nL : L.length ≤ maxLen) (m : Nat) (S : List Int) (As : Option Addr) (cs : Nat) (hS5 : S.length = m * 5) (hS : IntsAt W As S) (hs : m * 5 < 2 ^ 47) (bS : ∀ x ∈ S, I64 x)
    (right : Int) (br : I64 right) (who : Int) (bw : I64 who) (over : Int) (bo : I64 over) (w : World) (hw : w = W) :
    Calls Try.prog 4 #[.slice A L.length c, .slice As m cs, .int .i64 right, .int .i64 who, .int .i64 over] w fun e w' => e = .returned (.bool true) ∧ Below W.heap.size W w' := by
  subst hw
  have nL2 : L.length ≤ 9223372036854775807 := by unfold maxLen at nL; omega
  have HP := Lib.hid (fun V (hV : Below w.heap.size w V) => Play_any (c := c) (cs := cs) (hL.below hV) rfl nL (hS.below hV) (Nat.le_of_eq hS5.symm) hs)
  by_cases hz : askCode L right who over = 0
  · obtain ⟨wn, on, kb, hok, rfl, rfl, rfl, hk, hwn, hon, hne⟩ := askCode_zero hz
    have HC := Lib.hid (fun V (hV : Below w.heap.size w V) => Can_ok (c := c) (hL.below hV) rfl hok hk hwn hon hne)
    have Hok := Lib.hid hok
    clear hL hS hz
    have Hlen := Lib.hid (show L.length ≤ 20 from hok.few)
    have Hcan := Lib.hid (gCan_iff (L := L) (kb := kb) (who := wn) (over := on) hwn)
    have Hwn := Lib.hid hwn
    have Hon := Lib.hid hon
    have Hk := Lib.hid hk
    have Hne := Lib.hid hne
    obtain ⟨r, hr⟩ : ∃ r, 2 ^ kb = r := ⟨_, rfl⟩
    rw [hr] at HC br ⊢
    have Hr := Lib.hid hr
    clear hr
    generalize hnn : L.length = n at *
    go_enter Try.func4, Try.ntmps4
    go_wp2_with fail
    refine (takeFact_true w).mono ?_
    rintro e w1 ⟨rfl, hb1⟩
    go_wp2_with fail
    refine (HC.out w1 hb1).mono ?_
    rintro e w2 ⟨⟨b, rfl, hbt⟩, hb2⟩
    have hw2 := hb1.trans (hb2.mono hb1.size)
    go_wp2_with fail
    refine (HP.out w2 hw2).mono ?_
    rintro e w3 ⟨hp, hb3⟩
    have hw3 := hw2.trans (hb3.mono hw2.size)
    clear HC HP hb1 hb2 hb3
    rcases hp.form with ⟨a, i, k, rfl⟩ | ⟨h0, h60, hall, A', n', c', hn', rfl, hg⟩
    · go_wp2_with fail
      go_ret
      exact ⟨rfl, hw3⟩
    · obtain ⟨h1, h2⟩ := play_law Hok.out hall
      have hle : L.length ≤ (playG L S m).length := h2.can.1
      have hcan := h2.can.2 kb wn on (by show wn < L.length; rw [hnn]; exact Hwn.out) (by show on < L.length; rw [hnn]; exact Hon.out)
      have hrows := hg.rows (fun l hl => by
        obtain ⟨i, hi, e⟩ := List.getElem_of_mem hl
        have := h1.row i hi
        rw [List.getD_eq_getElem?_getD, List.getElem?_eq_getElem hi] at this
        have h3 : l.length = (playG L S m).length := by rw [← e]; exact this
        rw [h3]
        have := h1.few
        unfold maxLen; omega)
      have HC2 := Lib.hid (Can_ok (c := c') hrows hn'.symm h1 Hk.out (who := wn) (over := on) (by have := Hwn.out; omega) (by have := Hon.out; omega) Hne.out)
      have Hcan2 := Lib.hid (gCan_iff (L := playG L S m) (kb := kb) (who := wn) (over := on) (by have := Hwn.out; omega))
      rw [Hr.out] at HC2
      have Hiff := Lib.hid (show gCan (playG L S m) kb wn on ↔ gCan L kb wn on by
        rw [Hcan2.out, Hcan.out, ← hnn]; exact hcan)
      clear hg hall hp h2 hle hn' h1 hcan hrows Hcan2
      go_wp2_with fail
      refine HC2.out.mono ?_
      rintro e w4 ⟨⟨b2, rfl, hbt2⟩, hb4⟩
      have hw4 := hw3.trans (hb4.mono hw3.size)
      obtain rfl : b2 = b := by
        rw [Bool.eq_iff_iff, hbt2, hbt, Hiff.out]
      clear hbt hbt2 HC2
      go_wp2_with fail
      go_ret
      exact ⟨ret_bool (by simp), hw4⟩
  · have HC := Lib.hid (fun V (hV : Below w.heap.size w V) => Can_bad (c := c) (hL.below hV) rfl nL ⟨br, bw, bo⟩ hz)
    clear hL hS hz
    generalize askCode L right who over = code at *
    go_enter Try.func4, Try.ntmps4
    go_wp2_with fail
    refine (takeFact_true w).mono ?_
    rintro e w1 ⟨rfl, hb1⟩
    go_wp2_with fail
    refine (HC.out w1 hb1).mono ?_
    rintro e w2 ⟨rfl, hb2⟩
    have hw2 := hb1.trans (hb2.mono hb1.size)
    go_wp2_with fail
    refine (HP.out w2 hw2).mono ?_
    rintro e w3 ⟨hp, hb3⟩
    have hw3 := hw2.trans (hb3.mono hw2.size)
    rcases hp.form with ⟨a, i, k, rfl⟩ | ⟨h0, h60, hall, A', n', c', hn', rfl, hg⟩
    · go_wp2_with fail
      go_ret
      exact ⟨rfl, hw3⟩
    · go_wp2_with fail
      go_ret
      exact ⟨rfl, hw3⟩
end Go.Proofs.Ytpfmllpodjcldaa
