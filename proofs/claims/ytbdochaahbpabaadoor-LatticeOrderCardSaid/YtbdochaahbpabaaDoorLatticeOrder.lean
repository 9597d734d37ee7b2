/-
  The walk of quietwinglaw1.LatticeOrder.
-/
import Derived.Test.YtbdochaahbpabaaDoorLatLaw3
import Derived.Test.YtbdochaahbpabaaDoorFrame
namespace Go.Proofs.YtbdochaahbpabaaDoor
open Go.RowKit
set_option maxRecDepth 100000
set_option linter.unusedVariables false

set_option maxHeartbeats 4000000 in
theorem LatticeOrder_ok (r : List Nat) (h1 : r.length ≤ 12) (h2 : Bd r.length r) (A : Option Addr) (c : Nat) (a b : Nat) (w : World) (h : IntsAt w A (castL r)) (hT : Tab w) (ha : a < r.length) (hb : b < r.length) :
    Calls Tryd.prog 8 #[.slice A r.length c, .int .i64 a, .int .i64 b] w fun e w' => e = .returned (.bool true) ∧ Below w.heap.size w w' := by
  by_cases hord : orderB (closed r) = true
  · have Hc := Lib.hid (fun (V : World) (hV : IntsAt V A (castL r)) => Closure_ok r h1 h2 A c V hV)
    have ho := fun (V : World) (hV : IntsAt V A (castL r)) (hTV : Tab V) => Order_ok r h1 h2 A c V hV hTV
    have hj := fun (V : World) (hV : IntsAt V A (castL r)) (hTV : Tab V) => Join_any (castL r) (by rw [length_castL]; omega) A c a b V hV hTV
    have hm := fun (V : World) (hV : IntsAt V A (castL r)) (hTV : Tab V) => Meet_any (castL r) (by rw [length_castL]; omega) A c a b V hV hTV
    have hat := above_true h1 h2 hord ha hb
    have haf := above_false h1 h2 ha hb
    rw [hord] at ho
    rw [length_castL] at hj hm
    obtain ⟨jv, jc, hje⟩ : ∃ jv jc, boundV (castL r) false a b = (jv, jc) := ⟨_, _, rfl⟩
    obtain ⟨mv, mc, hme⟩ : ∃ mv mc, boundV (castL r) true a b = (mv, mc) := ⟨_, _, rfl⟩
    rw [hje] at hj hat haf
    rw [hme] at hm hat haf
    have Ho := Lib.hid ho
    have Hj := Lib.hid hj
    have Hm := Lib.hid hm
    have Hat := Lib.hid hat
    have Haf := Lib.hid haf
    have hcn := length_closed r
    have hcb := closed_lt r h2
    clear hj hm hje hme h2 ho hat haf hord
    generalize closed r = cl at *
    generalize r.length = n at *
    have Hcn := Lib.hid hcn
    have hca12 : row cl a < 2 ^ 12 := Nat.lt_of_lt_of_le (hcb a) (Nat.pow_le_pow_right (by decide) h1)
    clear hcn hcb
    go_enter Tryd.func8, Tryd.ntmps8
    go_wp2_with fail
    refine (latticeFact_any _ hT).mono ?_
    rintro e w1 ⟨rfl, hb1⟩
    have hi1 := h.below hb1
    have hT1 := hT.next hb1
    go_wp2_with fail
    refine (Hc.out w1 hi1).mono ?_
    rintro e w2 ⟨B, cc, rfl, hC, hb2⟩
    have hi2 := hi1.below hb2
    have hT2 := hT1.next hb2
    have hbl2 := hb1.trans (hb2.mono hb1.size)
    clear h hi1 hT hT1 hb1 hb2 Hc
    go_wp2_with fail
    refine (Ho.out w2 hi2 hT2).mono ?_
    rintro e w3 ⟨rfl, hb3⟩
    have hi3 := hi2.below hb3
    have hT3 := hT2.next hb3
    have hC3 := hC.below hb3
    have hbl3 := hbl2.trans (hb3.mono hbl2.size)
    clear hi2 hT2 hC hb3 hbl2 Ho
    have g1 : decide ((a : Int) < 0) = false := by simp
    have g2 : decide ((b : Int) < 0) = false := by simp
    have g4 : decide ((a : Int) ≥ (n : Int)) = false := by simp; omega
    have g5 : decide ((b : Int) ≥ (n : Int)) = false := by simp; omega
    go_wp2_with fail
    refine (Hj.out w3 hi3 hT3).mono ?_
    rintro e w4 ⟨rfl, hb4⟩
    have hi4 := hi3.below hb4
    have hT4 := hT3.next hb4
    have hC4 := hC3.below hb4
    have hbl4 := hbl3.trans (hb4.mono hbl3.size)
    clear hi3 hT3 hC3 hb4 hbl3 Hj
    go_wp2_with fail
    refine (Hm.out w4 hi4 hT4).mono ?_
    rintro e w5 ⟨rfl, hb5⟩
    have hC5 := hC4.below hb5
    have hbl5 := hbl4.trans (hb5.mono hbl4.size)
    clear hi4 hT4 hC4 hb5 hbl4 Hm
    obtain ⟨bc, oc, rfl, ka⟩ := hC5.row (k := a) (by rw [Hcn.out]; exact ha)
    cases hab : (row cl a).testBit b with
    | true =>
      obtain ⟨hj, hm⟩ := Hat.out hab
      injection hj with hj1 hj2
      injection hm with hm1 hm2
      subst hj1 hj2 hm1 hm2
      have C1 := Lib.hid (fun V => Bit_is (row cl a) b true V (by omega) (by omega) hab)
      clear hab Hat Haf
      rw [show errVal 0 = .nilIface from rfl]
      generalize row cl a = x at *
      go_wp2_with (go_at_call 21; with_reducible refine (C1.out _).mono ?_; rintro e w' ⟨rfl, rfl⟩)
      go_ret
      exact ⟨rfl, hbl5⟩
    | false =>
      obtain ⟨hj, hm⟩ := Haf.out hab
      have C1 := Lib.hid (fun V => Bit_is (row cl a) b false V (by omega) (by omega) hab)
      clear hab Hat Haf
      generalize row cl a = x at *
      by_cases hj0 : jc = 0
      · have f1 : (jv == (b : Int)) = false := by simpa using hj hj0
        subst hj0
        by_cases hm0 : mc = 0
        · have f2 : (mv == (a : Int)) = false := by simpa using hm hm0
          subst hm0
          clear hj hm
          rw [show errVal 0 = .nilIface from rfl]
          go_wp2_with (go_at_call 21; with_reducible refine (C1.out _).mono ?_; rintro e w' ⟨rfl, rfl⟩)
          go_ret
          exact ⟨rfl, hbl5⟩
        · clear hj hm
          rw [show errVal 0 = .nilIface from rfl, (show errVal mc = .iface 72 (.int .i64 mc) by unfold errVal; rw [if_neg hm0])]
          clear hm0
          go_wp2_with (go_at_call 21; with_reducible refine (C1.out _).mono ?_; rintro e w' ⟨rfl, rfl⟩)
          go_ret
          exact ⟨rfl, hbl5⟩
      · by_cases hm0 : mc = 0
        · have f2 : (mv == (a : Int)) = false := by simpa using hm hm0
          subst hm0
          clear hj hm
          rw [(show errVal jc = .iface 72 (.int .i64 jc) by unfold errVal; rw [if_neg hj0]), show errVal 0 = .nilIface from rfl]
          clear hj0
          go_wp2_with (go_at_call 21; with_reducible refine (C1.out _).mono ?_; rintro e w' ⟨rfl, rfl⟩)
          go_ret
          exact ⟨rfl, hbl5⟩
        · clear hj hm
          rw [(show errVal jc = .iface 72 (.int .i64 jc) by unfold errVal; rw [if_neg hj0]), (show errVal mc = .iface 72 (.int .i64 mc) by unfold errVal; rw [if_neg hm0])]
          clear hm0 hj0
          go_wp2_with (go_at_call 21; with_reducible refine (C1.out _).mono ?_; rintro e w' ⟨rfl, rfl⟩)
          go_ret
          exact ⟨rfl, hbl5⟩
  · have Hc := Lib.hid (fun (V : World) (hV : IntsAt V A (castL r)) => Closure_ok r h1 h2 A c V hV)
    have ho := fun (V : World) (hV : IntsAt V A (castL r)) (hTV : Tab V) => Order_ok r h1 h2 A c V hV hTV
    rw [show orderB (closed r) = false by simpa using hord] at ho
    have Ho := Lib.hid ho
    clear ho hord h2
    generalize closed r = cl at *
    generalize r.length = n at *
    go_enter Tryd.func8, Tryd.ntmps8
    go_wp2_with fail
    refine (latticeFact_any _ hT).mono ?_
    rintro e w1 ⟨rfl, hb1⟩
    have hi1 := h.below hb1
    have hT1 := hT.next hb1
    go_wp2_with fail
    refine (Hc.out w1 hi1).mono ?_
    rintro e w2 ⟨B, cc, rfl, hC, hb2⟩
    have hi2 := hi1.below hb2
    have hT2 := hT1.next hb2
    have hbl2 := hb1.trans (hb2.mono hb1.size)
    clear h hi1 hT hT1 hb1 hb2 Hc
    go_wp2_with fail
    refine (Ho.out w2 hi2 hT2).mono ?_
    rintro e w3 ⟨rfl, hb3⟩
    go_wp2_with fail
    go_ret
    exact ⟨rfl, hbl2.trans (hb3.mono hbl2.size)⟩

set_option maxHeartbeats 2000000 in
theorem LatticeOrder_out (r : List Nat) (h1 : r.length ≤ 12) (h2 : Bd r.length r) (A : Option Addr) (c : Nat) (a b : Int) (w : World) (h : IntsAt w A (castL r)) (hT : Tab w)
    (hout : ¬ ((0 ≤ a ∧ a < r.length) ∧ (0 ≤ b ∧ b < r.length))) :
    Calls Tryd.prog 8 #[.slice A r.length c, .int .i64 a, .int .i64 b] w fun e w' => e = .returned (.bool true) ∧ Below w.heap.size w w' := by
  have Hc := Lib.hid (fun (V : World) (hV : IntsAt V A (castL r)) => Closure_ok r h1 h2 A c V hV)
  have Ho := Lib.hid (fun (V : World) (hV : IntsAt V A (castL r)) (hTV : Tab V) => Order_ok r h1 h2 A c V hV hTV)
  clear h2
  generalize closed r = cl at *
  generalize orderB cl = is at *
  generalize r.length = n at *
  go_enter Tryd.func8, Tryd.ntmps8
  go_wp2_with fail
  refine (latticeFact_any _ hT).mono ?_
  rintro e w1 ⟨rfl, hb1⟩
  have hi1 := h.below hb1
  go_wp2_with fail
  refine (Hc.out w1 hi1).mono ?_
  rintro e w2 ⟨B, cc, rfl, hC, hb2⟩
  have hT2 := (hT.next hb1).next hb2
  have hi2 := hi1.below hb2
  have hbl' := hb1.trans (hb2.mono hb1.size)
  clear h hi1 hT hb1 hb2 Hc hC
  go_wp2_with fail
  refine (Ho.out w2 hi2 hT2).mono ?_
  rintro e w3 ⟨rfl, hb3⟩
  have hbl2 := hbl'.trans (hb3.mono hbl'.size)
  clear hi2 hT2 Ho hb3 hbl'
  cases is with
  | false =>
    go_wp2_with fail
    go_ret
    exact ⟨rfl, hbl2⟩
  | true =>
    by_cases z0 : a < 0
    · have y0 : decide (a < 0) = true := by simpa using z0
      clear z0 hout
      go_wp2_with fail
      go_ret
      exact ⟨rfl, hbl2⟩
    · have y0 : decide (a < 0) = false := by simpa using z0
      by_cases z1 : a ≥ (n : Int)
      · have y1 : decide (a ≥ (n : Int)) = true := by simpa using z1
        clear z1 hout
        go_wp2_with fail
        go_ret
        exact ⟨rfl, hbl2⟩
      · have y1 : decide (a ≥ (n : Int)) = false := by simpa using z1
        by_cases z2 : b < 0
        · have y2 : decide (b < 0) = true := by simpa using z2
          clear z2 hout
          go_wp2_with fail
          go_ret
          exact ⟨rfl, hbl2⟩
        · have y2 : decide (b < 0) = false := by simpa using z2
          by_cases z3 : b ≥ (n : Int)
          · have y3 : decide (b ≥ (n : Int)) = true := by simpa using z3
            clear z3 hout
            go_wp2_with fail
            go_ret
            exact ⟨rfl, hbl2⟩
          · exact absurd (by refine ⟨⟨?_, ?_⟩, ⟨?_, ?_⟩⟩ <;> omega) hout
theorem LatticeOrder_bad (l : List Int) (hl : l.length < 2 ^ 60) (hbad : relCode l ≠ 0) (A : Option Addr) (c : Nat) (a b : Int) (w : World) (h : IntsAt w A l) (hT : Tab w) :
    Calls Tryd.prog 8 #[.slice A l.length c, .int .i64 a, .int .i64 b] w fun e w' => e = .returned (.bool true) ∧ Below w.heap.size w w' := by
  have Hc := Lib.hid (fun (V : World) (hV : IntsAt V A l) => Closure_bad l A c V hV hl hbad)
  have Ho := Lib.hid (fun (V : World) (hV : IntsAt V A l) => Order_bad l A c V hV hl hbad)
  clear hl hbad
  generalize l.length = n at *
  generalize relCode l = m at *
  go_enter Tryd.func8, Tryd.ntmps8
  go_wp2_with fail
  refine (latticeFact_any _ hT).mono ?_
  rintro e w1 ⟨rfl, hb1⟩
  have hi1 := h.below hb1
  go_wp2_with fail
  refine (Hc.out w1 hi1).mono ?_
  rintro e w2 ⟨rfl, rfl⟩
  clear h hT Hc
  go_wp2_with fail
  refine (Ho.out _ hi1).mono ?_
  rintro e w3 ⟨rfl, hb3⟩
  clear hi1 Ho
  go_wp2_with fail
  go_ret
  exact ⟨rfl, hb1.trans (hb3.mono hb1.size)⟩
theorem LatticeOrder_walk (l : List Int) (A : Option Addr) (c : Nat) {W : World} (h : IntsAt W A l) (hl : l.length < 2 ^ 47) (hI : ∀ x ∈ l, I64 x) (a : Int) (ha : I64 a) (b : Int) (hb : I64 b) (w : World) (hw : w = W) (hT : Tab W) :
    Calls Tryd.prog 8 #[.slice A l.length c, .int .i64 a, .int .i64 b] w fun e w' => e = .returned (.bool true) ∧ Below w.heap.size w w' := by
  subst hw
  by_cases hcode : relCode l = 0
  · obtain ⟨r, rfl, h12, hb'⟩ := relCode_ok hcode
    rw [length_castL]
    by_cases hin : (0 ≤ a ∧ a < r.length) ∧ (0 ≤ b ∧ b < r.length)
    · obtain ⟨⟨a0, a1⟩, ⟨b0, b1⟩⟩ := hin
      obtain ⟨an, rfl⟩ := Int.eq_ofNat_of_zero_le a0
      obtain ⟨bn, rfl⟩ := Int.eq_ofNat_of_zero_le b0
      exact LatticeOrder_ok r h12 hb' A c an bn w h hT (by omega) (by omega)
    · exact LatticeOrder_out r h12 hb' A c a b w h hT hin
  · exact LatticeOrder_bad l (by omega) hcode A c a b w h hT
end Go.Proofs.YtbdochaahbpabaaDoor

