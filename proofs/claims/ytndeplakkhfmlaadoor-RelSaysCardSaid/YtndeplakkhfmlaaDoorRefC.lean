/-
  Contract of the reference: Closure.
-/
import Derived.Test.YtndeplakkhfmlaaDoorSets
import Derived.Test.YtndeplakkhfmlaaDoorPush
import Derived.Test.YtndeplakkhfmlaaDoorCnt
import Derived.Test.YtndeplakkhfmlaaDoorClose
import Derived.Test.YtndeplakkhfmlaaDoorEither
namespace Go.Proofs.YtndeplakkhfmlaaDoor
open Go.RowKit
set_option maxRecDepth 100000
set_option linter.unusedVariables false

theorem roundsTo_succ (r : List Nat) (s t : Nat) : roundsTo r s (t + 1) = roundTo r (roundsTo r s t) r.length := rfl

set_option maxHeartbeats 2000000 in
theorem RClosure_any (r : List Nat) (hlen : r.length ≤ 12) (hb : Bd r.length r) (A : Option Addr) (c : Nat) (w : World) (h : IntsAt w A (castL r)) :
    Calls Tryd.prog 31 #[.slice A r.length c] w fun e w' => ∃ B c', e = .returned (.slice B r.length c') ∧ IntsAt w' B (castL (closed r)) ∧ Below w.heap.size w w' := by
  have Hm := Lib.hid (map_reach hb)
  have Hr12 := Lib.hid (fun i => Nat.lt_of_lt_of_le (hb i) (Nat.pow_le_pow_right (by decide) hlen))
  have Hs12 := Lib.hid (fun (i t u : Nat) (hi : i < r.length) => Nat.lt_of_lt_of_le (roundTo_lt hb (roundsTo_lt hb (Nat.pow_lt_pow_right (by decide) hi) t) u) (Nat.pow_le_pow_right (by decide) hlen))
  have Hss := Lib.hid (fun s t => roundsTo_succ r s t)
  have Hrs := Lib.hid (fun s t => roundTo_succ r s t)
  have Hre := Lib.hid (fun i => show reachFrom r i = roundsTo r (2 ^ i) r.length from rfl)
  generalize hn : r.length = n at *
  have Hn := Lib.hid hn
  clear hn hb
  go_enter Tryd.func31, Tryd.ntmps31
  go_wp2
  go_loopw [3, 4] (fun o i wr => ∃ k : Nat, k ≤ n ∧ i = .int .i64 k ∧ OwnI wr w.heap.size o (castL ((List.range k).map (reachFrom r))) ∧ Below w.heap.size w wr) (fun _ i _ => n - (intOf i).toNat)
  case atStart => exact ⟨0, Nat.zero_le _, rfl, OwnI.nil _ _, Below.refl _ _⟩
  case round =>
    obtain ⟨k, hk, rfl, hown, hbw⟩ := hrel
    by_cases hlt : k < n
    · have C1 := Lib.hid (fun V => Pow2_any k V (by omega))
      have hA := h.below hbw
      go_wp2_with (go_at_call 8; with_reducible refine (C1.out _).mono ?_; rintro e w' ⟨rfl, rfl⟩)
      go_loop [5, 6] (fun s t => ∃ u : Nat, u ≤ n ∧ t = .int .i64 u ∧ s = .int .i64 (roundsTo r (2 ^ k) u : Nat)) (fun _ t => n - (intOf t).toNat)
      case atStart => exact ⟨0, Nat.zero_le _, rfl, rfl⟩
      case round =>
        obtain ⟨t, ht, rfl, rfl⟩ := hrel
        by_cases hltt : t < n
        · go_wp2
          go_loop [5, 7] (fun s j => ∃ u : Nat, u ≤ n ∧ j = .int .i64 u ∧ s = .int .i64 (roundTo r (roundsTo r (2 ^ k) t) u : Nat)) (fun _ j => n - (intOf j).toNat)
          case atStart => exact ⟨0, Nat.zero_le _, rfl, rfl⟩
          case round =>
            obtain ⟨u, hu, rfl, rfl⟩ := hrel
            have hs := Hs12.out k t u hlt
            have Hst := Lib.hid (Hrs.out (roundsTo r (2 ^ k) t) u)
            have Hnx := Lib.hid (Hss.out (2 ^ k) t)
            by_cases hltu : u < n
            · obtain ⟨b, off, rfl, hc⟩ := hA.row (k := u) (by have := Hn.out; omega)
              have hru := Hr12.out u
              have Hsj := Lib.hid (show stepJ r (roundTo r (roundsTo r (2 ^ k) t) u) u = if (roundTo r (roundsTo r (2 ^ k) t) u).testBit u then roundTo r (roundsTo r (2 ^ k) t) u ||| row r u else roundTo r (roundsTo r (2 ^ k) t) u from rfl)
              generalize roundTo r (roundsTo r (2 ^ k) t) u = s at *
              generalize row r u = x at *
              cases hbit : s.testBit u with
              | true =>
                have C2 := Lib.hid (fun V => Bit_is s u true V (by omega) (by omega) hbit)
                have C3 := Lib.hid (fun V => Either_any s x V (by omega) (by omega))
                have He := Lib.hid (show roundTo r (roundsTo r (2 ^ k) t) (u + 1) = s ||| x by rw [Hst.out, Hsj.out, if_pos hbit])
                clear hbit
                go_wp2_with (first | (go_at_call 28; with_reducible refine (C2.out _).mono ?_; rintro e w' ⟨rfl, rfl⟩) | (go_at_call 22; with_reducible refine (C3.out _).mono ?_; rintro e w' ⟨rfl, rfl⟩))
                refine ⟨⟨u + 1, ?xa, ?xb, ?xc⟩, ?xd⟩
                case xa => omega
                case xb => go_num
                case xc => rw [He.out]
                case xd => simp [intOf]; omega
              | false =>
                have C2 := Lib.hid (fun V => Bit_is s u false V (by omega) (by omega) hbit)
                have He := Lib.hid (show roundTo r (roundsTo r (2 ^ k) t) (u + 1) = s by rw [Hst.out, Hsj.out, if_neg (by rw [hbit]; simp)])
                clear hbit
                go_wp2_with (go_at_call 28; with_reducible refine (C2.out _).mono ?_; rintro e w' ⟨rfl, rfl⟩)
                refine ⟨⟨u + 1, ?ya, ?yb, ?yc⟩, ?yd⟩
                case ya => omega
                case yb => go_num
                case yc => rw [He.out]
                case yd => simp [intOf]; omega
            · obtain rfl : u = n := by omega
              go_wp2
              refine ⟨⟨t + 1, ?za, ?zb, ?zc⟩, ?zd⟩
              case za => omega
              case zb => go_num
              case zc => rw [Hnx.out]
              case zd => simp [intOf]; omega
        · obtain rfl : t = n := by omega
          have Hfin := Lib.hid (Hre.out k)
          have hlen2 : (castL ((List.range k).map (reachFrom r))).length = k := by rw [length_castL]; simp
          have hl40 : (castL ((List.range k).map (reachFrom r))).length < 2 ^ 40 := by omega
          clear hlen2
          have hnx : ∀ x, castL ((List.range k).map (reachFrom r)) ++ [((roundsTo r (2 ^ k) t : Nat) : Int)] = x → castL ((List.range (k + 1)).map (reachFrom r)) = x := fun x hx => by
            rw [← hx, List.range_succ, List.map_append]
            unfold castL
            rw [List.map_append, ← Hfin.out]; rfl
          have Hnxt := Lib.hid hnx
          clear hnx
          generalize roundsTo r (2 ^ k) t = s at *
          go_wp2_with (at_builtin; refine wpList_push_int rfl _ _ rfl rfl (hown.next ((Below.refl _ _).alloc (Nat.le_refl _) _)) _ (s : Int) rfl (cell_of_row _ _ 0 _ _ _ (heap_alloc_new _ _)) hl40 (by have := hbw.size; simp; omega) ?_; intro v' w' hown' _ _ hbl)
          have hb' := hbl w (hbw.alloc hbw.size _)
          clear hbl
          go_wp2
          refine ⟨⟨k + 1, ?wa, ?wb, ?wc, hb'⟩, ?wd⟩
          case wa => omega
          case wb => go_num
          case wc => rw [Hnxt.out _ rfl]; exact hown'
          case wd => simp [intOf]; omega
    · obtain rfl : k = n := by omega
      obtain ⟨B, cc, rfl, hi⟩ := hown.form
      have e := Hm.out
      go_wp2
      go_ret
      refine ⟨B, cc, ?_, ?_, hbw⟩
      · simp [castL]
      · rw [← e]; exact hi
end Go.Proofs.YtndeplakkhfmlaaDoor
