/-
  Contract of the reference: Order.
-/
import Derived.Test.YtpfmllpodjcldaaDoorRefC
import Derived.Test.YtpfmllpodjcldaaDoorOrderLaw
import Derived.Test.YtpfmllpodjcldaaDoorOrder
namespace Go.Proofs.YtpfmllpodjcldaaDoor
open Go.RowKit
set_option maxRecDepth 100000
set_option linter.unusedVariables false

set_option maxHeartbeats 2000000 in
theorem ROrder_any (r : List Nat) (hlen : r.length ≤ 12) (hb : Bd r.length r) (A : Option Addr) (c : Nat) (w : World) (h : IntsAt w A (castL r)) :
    Calls Tryd.prog 47 #[.slice A r.length c] w fun e w' => e = .returned (.bool (orderB (closed r))) ∧ Below w.heap.size w w' := by
  have Hc := Lib.hid (RClosure_any r hlen hb A c w h)
  have hcb := closed_lt r hb
  have Hord := Lib.hid (orderB_iff (c := closed r) (by rw [length_closed]; omega) (by rw [length_closed]; exact hcb))
  have Hcn := Lib.hid (length_closed r)
  have Hr12 := Lib.hid (fun i => Nat.lt_of_lt_of_le (hcb i) (Nat.pow_le_pow_right (by decide) hlen))
  clear hcb hb h
  generalize closed r = cl at *
  generalize r.length = n at *
  go_enter Tryd.func47, Tryd.ntmps47
  go_wp2_with fail
  refine Hc.out.mono ?_
  rintro e w1 ⟨B, c', rfl, hi, hb1⟩
  clear Hc
  go_wp2_with fail
  go_loop [4] (fun i => ∃ k : Nat, k ≤ n ∧ i = .int .i64 k ∧ Hid (∀ a b, a < k → b < n → a ≠ b → (row cl a).testBit b = true → (row cl b).testBit a = false)) (fun i => n - (intOf i).toNat)
  case atStart => exact ⟨0, Nat.zero_le _, rfl, fun a b h => by omega⟩
  case round =>
    obtain ⟨k, hk, rfl, hall⟩ := hrel
    by_cases hlt : k < n
    · go_wp2_with fail
      go_loop [5] (fun i => ∃ j : Nat, j ≤ n ∧ i = .int .i64 j ∧ Hid (∀ b, b < j → k ≠ b → (row cl k).testBit b = true → (row cl b).testBit k = false)) (fun i => n - (intOf i).toNat)
      case atStart => exact ⟨0, Nat.zero_le _, rfl, fun b h => by omega⟩
      case round =>
        obtain ⟨j, hj, rfl, hrow⟩ := hrel
        by_cases hltj : j < n
        · obtain ⟨b, off, rfl, ka⟩ := hi.row (k := k) (by rw [Hcn.out]; exact hlt)
          obtain ⟨b', off', hE, kb⟩ := hi.row (k := j) (by rw [Hcn.out]; exact hltj)
          obtain ⟨rfl, rfl⟩ : b = b' ∧ off = off' := by injection hE with hE; injection hE with e1 e2; exact ⟨e1, e2⟩
          clear hE
          have ra := Hr12.out k
          have rb := Hr12.out j
          have next := fun (hx : k ≠ j → (row cl k).testBit j = true → (row cl j).testBit k = false) (b : Nat) (hb : b < j + 1) (hne : k ≠ b) (hbit : (row cl k).testBit b = true) => show (row cl b).testBit k = false from by
            rcases Nat.lt_or_ge b j with h | h
            · exact hrow.out b h hne hbit
            · obtain rfl : b = j := by omega
              exact hx hne hbit
          by_cases hkj : k = j
          · have g : ((k : Int) != (j : Int)) = false := by simp; omega
            have Hn := Lib.hid (next fun h => absurd hkj h)
            clear hkj next hrow
            go_wp2_with fail
            refine ⟨⟨j + 1, ?ya, ?yb, Hn⟩, ?yd⟩
            case ya => omega
            case yb => go_num
            case yd => simp [intOf]; omega
          · have g : ((k : Int) != (j : Int)) = true := by simp; omega
            cases b1 : (row cl k).testBit j with
            | false =>
              have C1 := Lib.hid (fun V => Bit_is (row cl k) j false V (by omega) (by omega) b1)
              have Hn := Lib.hid (next fun _ h => by rw [b1] at h; cases h)
              clear hkj next hrow b1
              generalize row cl k = x at *
              generalize row cl j = y at *
              go_wp2_with (go_at_call 55; with_reducible refine (C1.out _).mono ?_; rintro e w' ⟨rfl, rfl⟩)
              refine ⟨⟨j + 1, ?za, ?zb, Hn⟩, ?zd⟩
              case za => omega
              case zb => go_num
              case zd => simp [intOf]; omega
            | true =>
              have C1 := Lib.hid (fun V => Bit_is (row cl k) j true V (by omega) (by omega) b1)
              cases b2 : (row cl j).testBit k with
              | false =>
                have C2 := Lib.hid (fun V => Bit_is (row cl j) k false V (by omega) (by omega) b2)
                have Hn := Lib.hid (next fun _ h => b2)
                clear hkj next hrow b1 b2
                generalize row cl k = x at *
                generalize row cl j = y at *
                go_wp2_with (first | (go_at_call 55; with_reducible refine (C1.out _).mono ?_; rintro e w' ⟨rfl, rfl⟩) | (go_at_call 55; with_reducible refine (C2.out _).mono ?_; rintro e w' ⟨rfl, rfl⟩))
                refine ⟨⟨j + 1, ?wa, ?wb, Hn⟩, ?wd⟩
                case wa => omega
                case wb => go_num
                case wd => simp [intOf]; omega
              | true =>
                have C2 := Lib.hid (fun V => Bit_is (row cl j) k true V (by omega) (by omega) b2)
                have Hno := Lib.hid (show orderB cl = false from Bool.eq_false_iff.2 fun e => by
                  have := Hord.out.1 e k j (by rw [Hcn.out]; exact hlt) (by rw [Hcn.out]; exact hltj) hkj b1
                  rw [b2] at this; cases this)
                clear hkj next hrow b1 b2
                generalize row cl k = x at *
                generalize row cl j = y at *
                go_wp2_with (first | (go_at_call 55; with_reducible refine (C1.out _).mono ?_; rintro e w' ⟨rfl, rfl⟩) | (go_at_call 55; with_reducible refine (C2.out _).mono ?_; rintro e w' ⟨rfl, rfl⟩))
                go_ret
                exact ⟨ret_bool Hno.out.symm, hb1⟩
        · obtain rfl : j = n := by omega
          have Hn := Lib.hid (show ∀ a b, a < k + 1 → b < j → a ≠ b → (row cl a).testBit b = true → (row cl b).testBit a = false from fun a b ha hb hne hbit => by
            rcases Nat.lt_or_ge a k with h | h
            · exact hall.out a b h hb hne hbit
            · obtain rfl : a = k := by omega
              exact hrow.out b hb hne hbit)
          clear hall hrow
          go_wp2_with fail
          refine ⟨⟨k + 1, ?va, ?vb, Hn⟩, ?vd⟩
          case va => omega
          case vb => go_num
          case vd => simp [intOf]; omega
    · obtain rfl : k = n := by omega
      have Hyes := Lib.hid (show orderB cl = true from Hord.out.2 fun a b ha hb hne hbit => hall.out a b (by rw [← Hcn.out]; exact ha) (by rw [← Hcn.out]; exact hb) hne hbit)
      clear hall
      go_wp2_with fail
      go_ret
      exact ⟨ret_bool Hyes.out.symm, hb1⟩
end Go.Proofs.YtpfmllpodjcldaaDoor
