/-
  Contract: take.act: what is taken, what is granted.
-/
import Derived.Test.YtpfmllpodjcldaaDoorTakeP
import Derived.Test.YtpfmllpodjcldaaDoorStillD
namespace Go.Proofs.YtpfmllpodjcldaaDoor
open Go.RowKit
set_option maxRecDepth 100000
set_option linter.unusedVariables false
section
variable {B : Nat} {w : World} {A : Option Addr} {n c : Nat} {L : List (List Int)}

set_option maxHeartbeats 8000000 in
theorem Act_Take {who of_ t r : Nat} (h : GridAt B w (.slice A n c) L) (hok : GOk L) (hn : L.length = n) (hB : B ≤ w.heap.size) (hw : who < n) (ho : of_ < n) (ht : t < n) (hr : 1 ≤ r ∧ r ≤ 7) :
    Calls Tryd.prog 35 #[.slice A n c, .agg #[.int .i64 0, .int .i64 who, .int .i64 of_, .int .i64 t, .int .i64 r]] w fun e w' => ((who = t ∨ gN L who of_ &&& 1 = 0 ∨ r &&& gN L of_ t ≠ r) ∧ e = .returned (.tuple #[.slice none 0 0, .iface 59 (.int .i64 7)]) ∨
      ¬ (who = t ∨ gN L who of_ &&& 1 = 0 ∨ r &&& gN L of_ t ≠ r) ∧ e = .returned (.tuple #[.slice A n c, .nilIface]) ∧ GridAt B w' (.slice A n c) (setG L who t ((gN L who t ||| r : Nat) : Int))) ∧ Below B w w' := by
  have hn20 : n ≤ 20 := by have := hok.few; omega
  have W1 := Lib.hid (fun V => Within3_is 0 0 2 true V (by simp))
  have W2 := Lib.hid (fun V => Within3_is (who : Int) 0 ((n : Int) - 1) true V (decide_eq_true (by omega)))
  have W3 := Lib.hid (fun V => Within3_is (of_ : Int) 0 ((n : Int) - 1) true V (decide_eq_true (by omega)))
  have W4 := Lib.hid (fun V => Within3_is (t : Int) 0 ((n : Int) - 1) true V (decide_eq_true (by omega)))
  have W5 := Lib.hid (fun V => Within3_is (r : Int) 1 7 true V (decide_eq_true (by omega)))
  have hb0 := (Below.refl B w).alloc hB (.cells #[.int .i64 0, .int .i64 who, .int .i64 of_, .int .i64 t, .int .i64 r] 65)
  have hg0 := h.below ((Below.refl w.heap.size w).alloc (Nat.le_refl _) (.cells #[.int .i64 0, .int .i64 who, .int .i64 of_, .int .i64 t, .int .i64 r] 65))
  have hbx := BoxN.new w 65 #[.int .i64 0, .int .i64 who, .int .i64 of_, .int .i64 t, .int .i64 r]
  obtain ⟨bo, gs, cs, rfl, hbo, hall⟩ := grid_all hg0 hok hn (by omega)
  have g1 := (hall who hw).1
  have g2 := ((hall who hw).2.2.1 of_ ho).1
  have g3 := (hall of_ (by omega)).1
  have g4 := ((hall of_ (by omega)).2.2.1 t ht).1
  have x0 := hbx.cell (k := 0) rfl
  have x1 := hbx.cell (k := 1) rfl
  have x2 := hbx.cell (k := 2) rfl
  have x3 := hbx.cell (k := 3) rfl
  have x4 := hbx.cell (k := 4) rfl
  have l1 := hok.lt (x := who) (y := of_) (by omega) (by omega)
  have l2 := hok.lt (x := of_) (y := t) (by omega) (by omega)
  have b1 : bits .and .i64 ((gN L who of_ : Nat) : Int) 1 = ((gN L who of_ &&& 1 : Nat) : Int) := bits_and_nat _ 1 (by omega) (by decide)
  have b2 := andNot_nat r (by omega) (gN L of_ t) l2
  have hz2 := anN_zero r (by omega) (gN L of_ t) l2
  have Hall := Lib.hid hall
  have Hbx := Lib.hid hbx
  clear h hbx hall
  by_cases ha : who = t
  · have Hc := Lib.hid (show who = t ∨ gN L who of_ &&& 1 = 0 ∨ r &&& gN L of_ t ≠ r from .inl ha)
    have da : (((who : Nat) : Int) == ((t : Nat) : Int)) = true := by simp [ha]
    have Hb := Lib.hid hb0
    generalize gN L who of_ = v1 at *
    generalize gN L of_ t = v2 at *
    generalize v1 &&& 1 = v3 at *
    generalize anN r v2 = v4 at *
    clear hz2 ha Hall Hbx hb0 l1 l2 hg0
    go_enter Tryd.func35, Tryd.ntmps35
    go_wp2_with (first | (with_reducible refine (W1.out _).mono ?_; rintro e w' ⟨rfl, rfl⟩) | (with_reducible refine (W2.out _).mono ?_; rintro e w' ⟨rfl, rfl⟩) | (with_reducible refine (W3.out _).mono ?_; rintro e w' ⟨rfl, rfl⟩) | (with_reducible refine (W4.out _).mono ?_; rintro e w' ⟨rfl, rfl⟩) | (with_reducible refine (W5.out _).mono ?_; rintro e w' ⟨rfl, rfl⟩))
    go_quiet (fail)
    go_wp2_with fail
    go_quiet (fail)
    go_wp2_with fail
    go_ret2
    exact ⟨.inl ⟨Hc.out, rfl⟩, belowD Hb.out _⟩
  have da : (((who : Nat) : Int) == ((t : Nat) : Int)) = false := by simp; omega
  by_cases hb : gN L who of_ &&& 1 = 0
  · have Hc := Lib.hid (show who = t ∨ gN L who of_ &&& 1 = 0 ∨ r &&& gN L of_ t ≠ r from .inr (.inl hb))
    have Hb := Lib.hid hb0
    rw [hb] at b1
    generalize gN L who of_ = v1 at *
    generalize gN L of_ t = v2 at *
    generalize anN r v2 = v4 at *
    clear hz2 ha Hall Hbx hb0 l1 l2 hb hg0
    go_enter Tryd.func35, Tryd.ntmps35
    go_wp2_with (first | (with_reducible refine (W1.out _).mono ?_; rintro e w' ⟨rfl, rfl⟩) | (with_reducible refine (W2.out _).mono ?_; rintro e w' ⟨rfl, rfl⟩) | (with_reducible refine (W3.out _).mono ?_; rintro e w' ⟨rfl, rfl⟩) | (with_reducible refine (W4.out _).mono ?_; rintro e w' ⟨rfl, rfl⟩) | (with_reducible refine (W5.out _).mono ?_; rintro e w' ⟨rfl, rfl⟩))
    go_quiet (fail)
    go_wp2_with fail
    go_quiet (fail)
    go_wp2_with fail
    go_ret2
    exact ⟨.inl ⟨Hc.out, rfl⟩, belowD Hb.out _⟩
  have db : (((gN L who of_ &&& 1 : Nat) : Int) == 0) = false := beq_eq_false_iff_ne.2 (fun e => hb (Int.ofNat.inj e))
  by_cases hc : r &&& gN L of_ t = r
  · have Hc := Lib.hid (show ¬ (who = t ∨ gN L who of_ &&& 1 = 0 ∨ r &&& gN L of_ t ≠ r) by rintro (h | h | h); exact ha h; exact hb h; exact h hc)
    have dc := hz2.2 hc
    rw [dc] at b2
    have Hb := Lib.hid hb0
    have Hne := Lib.hid ha
    have t1 := (Hall.out who (by omega)).1
    have t2 := ((Hall.out who (by omega)).2.2.1 t ht).1
    have t3 := ((Hall.out who (by omega)).2.2.1 t ht).2
    have Hgs := Lib.hid (Hall.out who (by omega)).2.1
    have Hst := Lib.hid (fun y => (Hall.out who (by omega)).2.2.2 t y)
    have l3 := hok.lt (x := who) (y := t) (by omega) (by omega)
    have b5 := bits_or_nat (gN L who t) r (by omega) (by omega)
    clear hz2 ha Hall Hbx hb0 l1 l2 l3 hb hc dc hg0
    generalize gN L who of_ &&& 1 = v3 at *
    generalize gN L who of_ = v1 at *
    generalize gN L who t ||| r = v6 at *
    generalize gN L who t = v7 at *
    generalize gN L of_ t = v2 at *
    go_enter Tryd.func35, Tryd.ntmps35
    go_wp2_with (first | (with_reducible refine (W1.out _).mono ?_; rintro e w' ⟨rfl, rfl⟩) | (with_reducible refine (W2.out _).mono ?_; rintro e w' ⟨rfl, rfl⟩) | (with_reducible refine (W3.out _).mono ?_; rintro e w' ⟨rfl, rfl⟩) | (with_reducible refine (W4.out _).mono ?_; rintro e w' ⟨rfl, rfl⟩) | (with_reducible refine (W5.out _).mono ?_; rintro e w' ⟨rfl, rfl⟩))
    go_quiet (fail)
    go_wp2_with fail
    go_quiet (fail)
    go_wp2_with fail
    refine wp_still_tailD2 12 (by kernel_rfl) (by kernel_rfl) ?_
    simp only [List.take_succ_cons, List.take_zero, List.drop_succ_cons, List.drop_zero]
    repeat still_step
    refine wpStill_nil ?_
    go_wp2_with fail
    go_ret2
    refine ⟨.inr ⟨Hc.out, rfl, ?_⟩, ?_⟩
    · exact GridAt.drewN (Hst.out _) _
    · exact (belowD Hb.out _).setCell (p := ⟨gs who, t, none⟩) (Hgs.out) _
  · have Hc := Lib.hid (show who = t ∨ gN L who of_ &&& 1 = 0 ∨ r &&& gN L of_ t ≠ r from .inr (.inr hc))
    have dc : (((anN r (gN L of_ t) : Nat) : Int) != 0) = true := by
      have : anN r (gN L of_ t) ≠ 0 := fun e => hc (hz2.1 e)
      simpa using this
    have Hb := Lib.hid hb0
    clear hz2 ha Hall Hbx hb0 l1 l2 hc hb hg0
    generalize gN L who of_ &&& 1 = v3 at *
    generalize gN L who of_ = v1 at *
    generalize anN r (gN L of_ t) = v4 at *
    generalize gN L of_ t = v2 at *
    go_enter Tryd.func35, Tryd.ntmps35
    go_wp2_with (first | (with_reducible refine (W1.out _).mono ?_; rintro e w' ⟨rfl, rfl⟩) | (with_reducible refine (W2.out _).mono ?_; rintro e w' ⟨rfl, rfl⟩) | (with_reducible refine (W3.out _).mono ?_; rintro e w' ⟨rfl, rfl⟩) | (with_reducible refine (W4.out _).mono ?_; rintro e w' ⟨rfl, rfl⟩) | (with_reducible refine (W5.out _).mono ?_; rintro e w' ⟨rfl, rfl⟩))
    go_quiet (fail)
    go_wp2_with fail
    go_quiet (fail)
    go_wp2_with fail
    go_ret2
    exact ⟨.inl ⟨Hc.out, rfl⟩, belowD Hb.out _⟩

set_option maxHeartbeats 8000000 in
theorem Act_Grant {who of_ t r : Nat} (h : GridAt B w (.slice A n c) L) (hok : GOk L) (hn : L.length = n) (hB : B ≤ w.heap.size) (hw : who < n) (ho : of_ < n) (ht : t < n) (hr : 1 ≤ r ∧ r ≤ 7) :
    Calls Tryd.prog 35 #[.slice A n c, .agg #[.int .i64 1, .int .i64 who, .int .i64 of_, .int .i64 t, .int .i64 r]] w fun e w' => ((of_ = t ∨ gN L who of_ &&& 2 = 0 ∨ r &&& gN L who t ≠ r) ∧ e = .returned (.tuple #[.slice none 0 0, .iface 59 (.int .i64 7)]) ∨
      ¬ (of_ = t ∨ gN L who of_ &&& 2 = 0 ∨ r &&& gN L who t ≠ r) ∧ e = .returned (.tuple #[.slice A n c, .nilIface]) ∧ GridAt B w' (.slice A n c) (setG L of_ t ((gN L of_ t ||| r : Nat) : Int))) ∧ Below B w w' := by
  have hn20 : n ≤ 20 := by have := hok.few; omega
  have W1 := Lib.hid (fun V => Within3_is 1 0 2 true V (by simp))
  have W2 := Lib.hid (fun V => Within3_is (who : Int) 0 ((n : Int) - 1) true V (decide_eq_true (by omega)))
  have W3 := Lib.hid (fun V => Within3_is (of_ : Int) 0 ((n : Int) - 1) true V (decide_eq_true (by omega)))
  have W4 := Lib.hid (fun V => Within3_is (t : Int) 0 ((n : Int) - 1) true V (decide_eq_true (by omega)))
  have W5 := Lib.hid (fun V => Within3_is (r : Int) 1 7 true V (decide_eq_true (by omega)))
  have hb0 := (Below.refl B w).alloc hB (.cells #[.int .i64 1, .int .i64 who, .int .i64 of_, .int .i64 t, .int .i64 r] 65)
  have hg0 := h.below ((Below.refl w.heap.size w).alloc (Nat.le_refl _) (.cells #[.int .i64 1, .int .i64 who, .int .i64 of_, .int .i64 t, .int .i64 r] 65))
  have hbx := BoxN.new w 65 #[.int .i64 1, .int .i64 who, .int .i64 of_, .int .i64 t, .int .i64 r]
  obtain ⟨bo, gs, cs, rfl, hbo, hall⟩ := grid_all hg0 hok hn (by omega)
  have g1 := (hall who hw).1
  have g2 := ((hall who hw).2.2.1 of_ ho).1
  have g3 := (hall who (by omega)).1
  have g4 := ((hall who (by omega)).2.2.1 t ht).1
  have x0 := hbx.cell (k := 0) rfl
  have x1 := hbx.cell (k := 1) rfl
  have x2 := hbx.cell (k := 2) rfl
  have x3 := hbx.cell (k := 3) rfl
  have x4 := hbx.cell (k := 4) rfl
  have l1 := hok.lt (x := who) (y := of_) (by omega) (by omega)
  have l2 := hok.lt (x := who) (y := t) (by omega) (by omega)
  have b1 : bits .and .i64 ((gN L who of_ : Nat) : Int) 2 = ((gN L who of_ &&& 2 : Nat) : Int) := bits_and_nat _ 2 (by omega) (by decide)
  have b2 := andNot_nat r (by omega) (gN L who t) l2
  have hz2 := anN_zero r (by omega) (gN L who t) l2
  have Hall := Lib.hid hall
  have Hbx := Lib.hid hbx
  clear h hbx hall
  by_cases ha : of_ = t
  · have Hc := Lib.hid (show of_ = t ∨ gN L who of_ &&& 2 = 0 ∨ r &&& gN L who t ≠ r from .inl ha)
    have da : (((of_ : Nat) : Int) == ((t : Nat) : Int)) = true := by simp [ha]
    have Hb := Lib.hid hb0
    generalize gN L who of_ = v1 at *
    generalize gN L who t = v2 at *
    generalize v1 &&& 2 = v3 at *
    generalize anN r v2 = v4 at *
    clear hz2 ha Hall Hbx hb0 l1 l2 hg0
    go_enter Tryd.func35, Tryd.ntmps35
    go_wp2_with (first | (with_reducible refine (W1.out _).mono ?_; rintro e w' ⟨rfl, rfl⟩) | (with_reducible refine (W2.out _).mono ?_; rintro e w' ⟨rfl, rfl⟩) | (with_reducible refine (W3.out _).mono ?_; rintro e w' ⟨rfl, rfl⟩) | (with_reducible refine (W4.out _).mono ?_; rintro e w' ⟨rfl, rfl⟩) | (with_reducible refine (W5.out _).mono ?_; rintro e w' ⟨rfl, rfl⟩))
    go_quiet (fail)
    go_wp2_with fail
    go_quiet (fail)
    go_wp2_with fail
    go_quiet (fail)
    go_wp2_with fail
    go_ret2
    exact ⟨.inl ⟨Hc.out, rfl⟩, belowD Hb.out _⟩
  have da : (((of_ : Nat) : Int) == ((t : Nat) : Int)) = false := by simp; omega
  by_cases hb : gN L who of_ &&& 2 = 0
  · have Hc := Lib.hid (show of_ = t ∨ gN L who of_ &&& 2 = 0 ∨ r &&& gN L who t ≠ r from .inr (.inl hb))
    have Hb := Lib.hid hb0
    rw [hb] at b1
    generalize gN L who of_ = v1 at *
    generalize gN L who t = v2 at *
    generalize anN r v2 = v4 at *
    clear hz2 ha Hall Hbx hb0 l1 l2 hb hg0
    go_enter Tryd.func35, Tryd.ntmps35
    go_wp2_with (first | (with_reducible refine (W1.out _).mono ?_; rintro e w' ⟨rfl, rfl⟩) | (with_reducible refine (W2.out _).mono ?_; rintro e w' ⟨rfl, rfl⟩) | (with_reducible refine (W3.out _).mono ?_; rintro e w' ⟨rfl, rfl⟩) | (with_reducible refine (W4.out _).mono ?_; rintro e w' ⟨rfl, rfl⟩) | (with_reducible refine (W5.out _).mono ?_; rintro e w' ⟨rfl, rfl⟩))
    go_quiet (fail)
    go_wp2_with fail
    go_quiet (fail)
    go_wp2_with fail
    go_quiet (fail)
    go_wp2_with fail
    go_ret2
    exact ⟨.inl ⟨Hc.out, rfl⟩, belowD Hb.out _⟩
  have db : (((gN L who of_ &&& 2 : Nat) : Int) == 0) = false := beq_eq_false_iff_ne.2 (fun e => hb (Int.ofNat.inj e))
  by_cases hc : r &&& gN L who t = r
  · have Hc := Lib.hid (show ¬ (of_ = t ∨ gN L who of_ &&& 2 = 0 ∨ r &&& gN L who t ≠ r) by rintro (h | h | h); exact ha h; exact hb h; exact h hc)
    have dc := hz2.2 hc
    rw [dc] at b2
    have Hb := Lib.hid hb0
    have Hne := Lib.hid ha
    have t1 := (Hall.out of_ (by omega)).1
    have t2 := ((Hall.out of_ (by omega)).2.2.1 t ht).1
    have t3 := ((Hall.out of_ (by omega)).2.2.1 t ht).2
    have Hgs := Lib.hid (Hall.out of_ (by omega)).2.1
    have Hst := Lib.hid (fun y => (Hall.out of_ (by omega)).2.2.2 t y)
    have l3 := hok.lt (x := of_) (y := t) (by omega) (by omega)
    have b5 := bits_or_nat (gN L of_ t) r (by omega) (by omega)
    clear hz2 ha Hall Hbx hb0 l1 l2 l3 hb hc dc hg0
    generalize gN L who of_ &&& 2 = v3 at *
    generalize gN L who of_ = v1 at *
    generalize gN L of_ t ||| r = v6 at *
    generalize gN L of_ t = v7 at *
    generalize gN L who t = v2 at *
    go_enter Tryd.func35, Tryd.ntmps35
    go_wp2_with (first | (with_reducible refine (W1.out _).mono ?_; rintro e w' ⟨rfl, rfl⟩) | (with_reducible refine (W2.out _).mono ?_; rintro e w' ⟨rfl, rfl⟩) | (with_reducible refine (W3.out _).mono ?_; rintro e w' ⟨rfl, rfl⟩) | (with_reducible refine (W4.out _).mono ?_; rintro e w' ⟨rfl, rfl⟩) | (with_reducible refine (W5.out _).mono ?_; rintro e w' ⟨rfl, rfl⟩))
    go_quiet (fail)
    go_wp2_with fail
    go_quiet (fail)
    go_wp2_with fail
    go_quiet (fail)
    go_wp2_with fail
    refine wp_still_tailD2 12 (by kernel_rfl) (by kernel_rfl) ?_
    simp only [List.take_succ_cons, List.take_zero, List.drop_succ_cons, List.drop_zero]
    repeat still_step
    refine wpStill_nil ?_
    go_wp2_with fail
    go_ret2
    refine ⟨.inr ⟨Hc.out, rfl, ?_⟩, ?_⟩
    · exact GridAt.drewN (Hst.out _) _
    · exact (belowD Hb.out _).setCell (p := ⟨gs of_, t, none⟩) (Hgs.out) _
  · have Hc := Lib.hid (show of_ = t ∨ gN L who of_ &&& 2 = 0 ∨ r &&& gN L who t ≠ r from .inr (.inr hc))
    have dc : (((anN r (gN L who t) : Nat) : Int) != 0) = true := by
      have : anN r (gN L who t) ≠ 0 := fun e => hc (hz2.1 e)
      simpa using this
    have Hb := Lib.hid hb0
    clear hz2 ha Hall Hbx hb0 l1 l2 hc hb hg0
    generalize gN L who of_ &&& 2 = v3 at *
    generalize gN L who of_ = v1 at *
    generalize anN r (gN L who t) = v4 at *
    generalize gN L who t = v2 at *
    go_enter Tryd.func35, Tryd.ntmps35
    go_wp2_with (first | (with_reducible refine (W1.out _).mono ?_; rintro e w' ⟨rfl, rfl⟩) | (with_reducible refine (W2.out _).mono ?_; rintro e w' ⟨rfl, rfl⟩) | (with_reducible refine (W3.out _).mono ?_; rintro e w' ⟨rfl, rfl⟩) | (with_reducible refine (W4.out _).mono ?_; rintro e w' ⟨rfl, rfl⟩) | (with_reducible refine (W5.out _).mono ?_; rintro e w' ⟨rfl, rfl⟩))
    go_quiet (fail)
    go_wp2_with fail
    go_quiet (fail)
    go_wp2_with fail
    go_quiet (fail)
    go_wp2_with fail
    go_ret2
    exact ⟨.inl ⟨Hc.out, rfl⟩, belowD Hb.out _⟩
end
end Go.Proofs.YtpfmllpodjcldaaDoor
