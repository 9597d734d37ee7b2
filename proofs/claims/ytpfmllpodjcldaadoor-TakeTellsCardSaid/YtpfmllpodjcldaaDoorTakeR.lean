/-
  Contract: quietwingref1.Graph.
-/
import Derived.Test.YtpfmllpodjcldaaDoorTakeC
import Derived.Test.YtpfmllpodjcldaaDoorRin
namespace Go.Proofs.YtpfmllpodjcldaaDoor
open Go.RowKit
set_option maxRecDepth 100000
set_option linter.unusedVariables false

theorem RinD_is (n lo hi : Int) (b : Bool) (w : World) (hb : decide (lo ≤ n ∧ n ≤ hi) = b) :
    Calls Tryd.prog 32 #[.int .i64 n, .int .i64 lo, .int .i64 hi] w fun e w' => e = .returned (.bool b) ∧ w = w' := Rin_is n lo hi b w (by rw [← hb, Bool.decide_and])
set_option maxHeartbeats 4000000 in
theorem RGraph_any {ok : Nat → Prop} {w : World} {A : Option Addr} {c n : Nat} {L : List (List Int)} (hL : RowsIn ok 1 w A L) (hn : L.length = n) (nm : n ≤ maxLen) :
    Calls Tryd.prog 9 #[.slice A n c] w fun e w' => e = .returned (.int .i64 (gCode L)) ∧ w = w' := by
  have nm2 : n ≤ 9223372036854775807 := by unfold maxLen at nm; omega
  by_cases h20 : 20 < n
  · have e1 : decide ((n : Int) > 20) = true := by simp; omega
    have Hr := Lib.hid (show gCode L = 4 by unfold gCode; rw [if_pos (by rw [hn]; exact h20)])
    clear hL hn
    go_enter Tryd.func9, Tryd.ntmps9
    go_wp2_with fail
    go_ret
    exact ⟨ret_int (by rw [Hr.out]; rfl), rfl⟩
  have e1 : decide ((n : Int) > 20) = false := by simp; omega
  have Hc := Lib.hid (show gCode L = firstC (gRows L) n 0 by unfold gCode; rw [if_neg (by rw [hn]; exact h20), hn])
  have HL := Lib.hid hL
  clear hL
  go_enter Tryd.func9, Tryd.ntmps9
  go_wp2_with fail
  go_loopw [3] (fun i wr => ∃ k : Nat, k ≤ n ∧ i = .int .i64 k ∧ Hid (firstC (gRows L) n 0 = firstC (gRows L) (n - k) k) ∧ w = wr) (fun i _ => n - (intOf i).toNat)
  case atStart => exact ⟨0, Nat.zero_le _, rfl, Lib.hid rfl, rfl⟩
  case round =>
    obtain ⟨k, hk, rfl, hfc, hwr⟩ := hrel
    subst hwr
    by_cases hlt : k < n
    · obtain ⟨b, off, Ai, ni, ci, rfl, c0, hli, hni, hi⟩ := HL.out.get (i := k) (by omega)
      rw [Nat.mul_one] at hli
      have hrow : gRows L k = gRowF n k (L.getD k []) := by unfold gRows; rw [hn]
      generalize L.getD k [] = l at *
      by_cases hsz : ni = n
      · subst hsz
        have dz : ((ni : Int) != (ni : Int)) = false := by simp
        rw [gRowF, if_neg (fun h => h hli)] at hrow
        have Hrow := Lib.hid hrow
        have HI := Lib.hid hi
        have hlen := Lib.hid hli
        have Hk := Lib.hid hlt
        clear hrow hi hli
        go_wp2_with fail
        go_loopw [4] (fun i wo => ∃ j : Nat, j ≤ ni ∧ i = .int .i64 j ∧ Hid (firstC (gCellF k l) ni 0 = firstC (gCellF k l) (ni - j) j) ∧ w = wo) (fun i _ => ni - (intOf i).toNat)
        case atStart => exact ⟨0, Nat.zero_le _, rfl, Lib.hid rfl, rfl⟩
        case round =>
          obtain ⟨j, hj, rfl, hfo, hwo⟩ := hrel
          subst hwo
          by_cases hjl : j < ni
          · obtain ⟨b3, off3, rfl, o0⟩ := int_cell HI.out (i := j) (by rw [hlen.out]; exact hjl)
            have hcf : gCellF k l j = cellF k j (nI l j) := rfl
            generalize nI l j = x at *
            have HF := Lib.hid (fun (hne : cellF k j x ≠ 0) => show gCode L = cellF k j x by
              have h6 : gRows L k = cellF k j x := by rw [Hrow.out, hfo.out, firstC_bad hjl (by rw [hcf]; exact hne), hcf]
              rw [Hc.out, hfc.out, firstC_bad Hk.out (by rw [h6]; exact hne), h6])
            have HG := Lib.hid (fun (he : cellF k j x = 0) => show firstC (gCellF k l) ni 0 = firstC (gCellF k l) (ni - (j + 1)) (j + 1) by
              rw [hfo.out, firstC_next hjl (by rw [hcf]; exact he)])
            clear hfo hcf
            by_cases hx : 0 ≤ x ∧ x ≤ 7
            · have W0 := Lib.hid (fun V => RinD_is x 0 7 true V (decide_eq_true hx))
              by_cases he : k = j
              · subst he
                have dk : ((k : Int) == (k : Int)) = true := by simp
                by_cases hz : x = 0
                · subst hz
                  have Hn := Lib.hid (HG.out (by unfold cellF; rw [if_neg (fun h => h hx), if_neg (fun h => h.2 rfl)]))
                  clear HF HG hx
                  go_wp2_with (with_reducible refine (W0.out _).mono ?_; rintro e w' ⟨rfl, rfl⟩)
                  refine ⟨⟨k + 1, ?ya, ?yb, Hn, trivial⟩, ?yd⟩
                  case ya => omega
                  case yb => go_num
                  case yd => simp [intOf]; omega
                · have dx : (x != 0) = true := by simpa using hz
                  have Hr := Lib.hid (show gCode L = 6 by
                    have h6 : cellF k k x = 6 := by unfold cellF; rw [if_neg (fun h => h hx), if_pos ⟨rfl, hz⟩]
                    rw [HF.out (by rw [h6]; decide), h6])
                  clear HF HG hx hz
                  go_wp2_with (with_reducible refine (W0.out _).mono ?_; rintro e w' ⟨rfl, rfl⟩)
                  go_ret
                  exact ⟨ret_int (by rw [Hr.out]; rfl), rfl⟩
              · have dk : ((k : Int) == (j : Int)) = false := by simp; omega
                have Hn := Lib.hid (HG.out (by unfold cellF; rw [if_neg (fun h => h hx), if_neg (fun h => he h.1)]))
                clear HF HG hx he
                go_wp2_with (with_reducible refine (W0.out _).mono ?_; rintro e w' ⟨rfl, rfl⟩)
                refine ⟨⟨j + 1, ?ya, ?yb, Hn, trivial⟩, ?yd⟩
                case ya => omega
                case yb => go_num
                case yd => simp [intOf]; omega
            · have W0 := Lib.hid (fun V => RinD_is x 0 7 false V (decide_eq_false hx))
              have Hr := Lib.hid (show gCode L = 1 by
                have h6 : cellF k j x = 1 := by unfold cellF; rw [if_pos hx]
                rw [HF.out (by rw [h6]; decide), h6])
              clear HF HG hx
              go_wp2_with (with_reducible refine (W0.out _).mono ?_; rintro e w' ⟨rfl, rfl⟩)
              go_ret
              exact ⟨ret_int (by rw [Hr.out]; rfl), rfl⟩
          · obtain rfl : j = ni := by omega
            have Hn := Lib.hid (show firstC (gRows L) j 0 = firstC (gRows L) (j - (k + 1)) (k + 1) by
              rw [hfc.out, firstC_next Hk.out (by rw [Hrow.out, hfo.out, firstC_end])])
            clear hfo hfc
            go_wp2_with fail
            refine ⟨⟨k + 1, ?ya, ?yb, Hn, trivial⟩, ?yd⟩
            case ya => have := Hk.out; omega
            case yb => go_num
            case yd => have := Hk.out; simp [intOf]; omega
      · have dz : ((ni : Int) != (n : Int)) = true := by simp; omega
        have Hr := Lib.hid (show gCode L = 3 by
          have h6 : gRows L k = 3 := by rw [hrow]; unfold gRowF; rw [if_pos (by omega)]
          rw [Hc.out, hfc.out, firstC_bad hlt (by rw [h6]; decide), h6])
        clear hrow hfc hi hsz
        go_wp2_with fail
        go_ret
        exact ⟨ret_int (by rw [Hr.out]; rfl), rfl⟩
    · obtain rfl : k = n := by omega
      have Hr := Lib.hid (show gCode L = 0 by rw [Hc.out, hfc.out, firstC_end])
      clear hfc
      go_wp2_with fail
      go_ret
      exact ⟨ret_int (by rw [Hr.out]; rfl), rfl⟩
end Go.Proofs.YtpfmllpodjcldaaDoor
