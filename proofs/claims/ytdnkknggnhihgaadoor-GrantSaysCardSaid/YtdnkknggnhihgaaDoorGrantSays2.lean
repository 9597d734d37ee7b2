/-
  The walk of GrantSays, where the grants are right.
-/
import Derived.Test.YtdnkknggnhihgaaDoorGrantSays
namespace Go.Proofs.YtdnkknggnhihgaaDoor
open Go.RowKit
set_option maxRecDepth 100000
set_option linter.unusedVariables false

theorem gCode_one {users : Int} {G : List Int} {n : Nat} (h : gCode users G n = 0) : 1 ≤ users ∧ users ≤ 8 := (gCode_ok h).1
set_option maxHeartbeats 4000000 in
theorem GrantSays_neg_neg (users : Int) (n : Nat) (G : List Int) (A : Option Addr) (c : Nat) (w : World) (hl : G.length = n * 3) (h : IntsAt w A G) (s3 : n * 3 < 2 ^ 47) (hcap : n ≤ c) (fr to : Int) (hz : gCode users G n = 0) (ht : to < 0) (hf : fr < 0) (hE : ErrT w) :
    Calls Tryd.prog 9 #[.int .i64 users, .slice A n c, .int .i64 fr, .int .i64 to] w fun e w' => e = .returned (.bool true) ∧ Below w.heap.size w w' := by
  have hu := gCode_one hz
  have C1 := Lib.hid (fun V (hV : IntsAt V A G) => (RGivens_any users n G A c V hV (by omega) (by omega) hcap).mono fun e w' ⟨he, hb⟩ => (⟨by rw [he, hz]; rfl, hb⟩ : e = Ending.returned (.int .i64 0) ∧ Below V.heap.size V w'))
  have C2 := Lib.hid (fun V (hV : IntsAt V A G) => (GCheck_any users n G A c V hV (by omega) (by omega) hcap).mono fun e w' ⟨he, hb⟩ => (⟨by rw [he, hz]; rfl, hb⟩ : e = Ending.returned .nilIface ∧ Below V.heap.size V w'))
  have CS := Lib.hid (fun V (hV : IntsAt V A G) => RGranted_any n G A c V hV (by omega) (by omega) (gSet_ok hz))
  have C3 := Lib.hid (fun V (hV : IntsAt V A G) => GHolds_ok users n G A c V hV (by omega) (by omega) hcap hz)
  have hp : pCode users G n to = 1 := by unfold pCode; rw [if_pos hz, if_neg (by omega)]
  have C4 := Lib.hid (fun V (hV : IntsAt V A G) => GPath_bad users n G to A c V hV (by omega) (by omega) hcap hp (by decide))
  have hr : rCode users G n fr to = 1 := by unfold rCode; rw [if_pos hz, if_neg (by omega)]
  have C5 := Lib.hid (fun V (hV : IntsAt V A G) => GRevoke_bad users n G fr to A c V hV (by omega) (by omega) hcap hr (by decide))
  have CG := Lib.hid (fun V => Givens_any [] [] 0 0 rfl rfl none none 0 0 V IntsAt.nil IntsAt.nil (by decide) (by decide) (r := true) (by decide))
  have CI := Lib.hid (fun V => Ints_below [] none none 0 0 V IntsAt.nil IntsAt.nil (by decide))
  have HE0 := Lib.hid (fun V (hV : Below w.heap.size w V) => (Error_is 0 0 true V (hE.next hV) (by decide) : Calls Tryd.prog 23 #[.nilIface, .int .i64 0] V _))
  have HE1 := Lib.hid (fun V (hV : Below w.heap.size w V) => (Error_is 1 1 true V (hE.next hV) (by decide) : Calls Tryd.prog 23 #[.iface 84 (.int .i64 1), .int .i64 1] V _))
  have t0 : decide (to < 0) = true := by simpa using ht
  have f0 : decide (fr < 0) = true := by simpa using hf
  clear ht hf hp hr hz hE
  generalize gSet G n = s at *
  go_enter Tryd.func9, Tryd.ntmps9
  go_wp2_with fail
  refine (C1.out _ h).mono ?_
  rintro e w1 ⟨rfl, hb1⟩
  have hb01 := hb1
  go_wp2_with fail
  refine (C2.out _ (h.below hb01)).mono ?_
  rintro e w2 ⟨rfl, hb2⟩
  have hb02 := hb01.trans (hb2.mono hb01.size)
  go_wp2_with fail
  refine (HE0.out _ hb02).mono ?_
  rintro e w3 ⟨rfl, hb3⟩
  have hb03 := hb02.trans (hb3.mono hb02.size)
  go_wp2_with fail
  refine (CS.out _ (h.below hb03)).mono ?_
  rintro e w' ⟨rfl, rfl⟩
  go_wp2_with fail
  refine (C3.out _ (h.below hb03)).mono ?_
  rintro e w4 ⟨rfl, hb4⟩
  have hb04 := hb03.trans (hb4.mono hb03.size)
  go_wp2_with fail
  refine (HE0.out _ hb04).mono ?_
  rintro e w5 ⟨rfl, hb5⟩
  have hb05 := hb04.trans (hb5.mono hb04.size)
  go_wp2_with fail
  refine (C4.out _ (h.below hb05)).mono ?_
  rintro e w6 ⟨rfl, hb6⟩
  have hb06 := hb05.trans (hb6.mono hb05.size)
  go_wp2_with fail
  refine (HE1.out _ hb06).mono ?_
  rintro e w7 ⟨rfl, hb7⟩
  have hb07 := hb06.trans (hb7.mono hb06.size)
  go_wp2_with fail
  refine (CI.out _).mono ?_
  rintro e w8 ⟨rfl, hb8⟩
  have hb08 := hb07.trans (hb8.mono hb07.size)
  go_wp2_with fail
  refine (C5.out _ (h.below hb08)).mono ?_
  rintro e w9 ⟨rfl, hb9⟩
  have hb09 := hb08.trans (hb9.mono hb08.size)
  go_wp2_with fail
  refine (HE1.out _ hb09).mono ?_
  rintro e w10 ⟨rfl, hb10⟩
  have hb010 := hb09.trans (hb10.mono hb09.size)
  go_wp2_with fail
  refine (CG.out _).mono ?_
  rintro e w11 ⟨rfl, hb11⟩
  have hb011 := hb010.trans (hb11.mono hb010.size)
  go_wp2_with fail
  go_ret
  exact ⟨rfl, hb011⟩

set_option maxHeartbeats 4000000 in
theorem GrantSays_neg_big (users : Int) (n : Nat) (G : List Int) (A : Option Addr) (c : Nat) (w : World) (hl : G.length = n * 3) (h : IntsAt w A G) (s3 : n * 3 < 2 ^ 47) (hcap : n ≤ c) (fr to : Int) (hz : gCode users G n = 0) (ht : to < 0) (hf : users ≤ fr) (hE : ErrT w) :
    Calls Tryd.prog 9 #[.int .i64 users, .slice A n c, .int .i64 fr, .int .i64 to] w fun e w' => e = .returned (.bool true) ∧ Below w.heap.size w w' := by
  have hu := gCode_one hz
  have C1 := Lib.hid (fun V (hV : IntsAt V A G) => (RGivens_any users n G A c V hV (by omega) (by omega) hcap).mono fun e w' ⟨he, hb⟩ => (⟨by rw [he, hz]; rfl, hb⟩ : e = Ending.returned (.int .i64 0) ∧ Below V.heap.size V w'))
  have C2 := Lib.hid (fun V (hV : IntsAt V A G) => (GCheck_any users n G A c V hV (by omega) (by omega) hcap).mono fun e w' ⟨he, hb⟩ => (⟨by rw [he, hz]; rfl, hb⟩ : e = Ending.returned .nilIface ∧ Below V.heap.size V w'))
  have CS := Lib.hid (fun V (hV : IntsAt V A G) => RGranted_any n G A c V hV (by omega) (by omega) (gSet_ok hz))
  have C3 := Lib.hid (fun V (hV : IntsAt V A G) => GHolds_ok users n G A c V hV (by omega) (by omega) hcap hz)
  have hp : pCode users G n to = 1 := by unfold pCode; rw [if_pos hz, if_neg (by omega)]
  have C4 := Lib.hid (fun V (hV : IntsAt V A G) => GPath_bad users n G to A c V hV (by omega) (by omega) hcap hp (by decide))
  have hr : rCode users G n fr to = 1 := by unfold rCode; rw [if_pos hz, if_neg (by omega)]
  have C5 := Lib.hid (fun V (hV : IntsAt V A G) => GRevoke_bad users n G fr to A c V hV (by omega) (by omega) hcap hr (by decide))
  have CG := Lib.hid (fun V => Givens_any [] [] 0 0 rfl rfl none none 0 0 V IntsAt.nil IntsAt.nil (by decide) (by decide) (r := true) (by decide))
  have CI := Lib.hid (fun V => Ints_below [] none none 0 0 V IntsAt.nil IntsAt.nil (by decide))
  have HE0 := Lib.hid (fun V (hV : Below w.heap.size w V) => (Error_is 0 0 true V (hE.next hV) (by decide) : Calls Tryd.prog 23 #[.nilIface, .int .i64 0] V _))
  have HE1 := Lib.hid (fun V (hV : Below w.heap.size w V) => (Error_is 1 1 true V (hE.next hV) (by decide) : Calls Tryd.prog 23 #[.iface 84 (.int .i64 1), .int .i64 1] V _))
  have t0 : decide (to < 0) = true := by simpa using ht
  have f0 : decide (fr < 0) = false := by simp; omega
  have f1 : decide (fr ≥ users) = true := by simp; omega
  clear ht hf hp hr hz hE
  generalize gSet G n = s at *
  go_enter Tryd.func9, Tryd.ntmps9
  go_wp2_with fail
  refine (C1.out _ h).mono ?_
  rintro e w1 ⟨rfl, hb1⟩
  have hb01 := hb1
  go_wp2_with fail
  refine (C2.out _ (h.below hb01)).mono ?_
  rintro e w2 ⟨rfl, hb2⟩
  have hb02 := hb01.trans (hb2.mono hb01.size)
  go_wp2_with fail
  refine (HE0.out _ hb02).mono ?_
  rintro e w3 ⟨rfl, hb3⟩
  have hb03 := hb02.trans (hb3.mono hb02.size)
  go_wp2_with fail
  refine (CS.out _ (h.below hb03)).mono ?_
  rintro e w' ⟨rfl, rfl⟩
  go_wp2_with fail
  refine (C3.out _ (h.below hb03)).mono ?_
  rintro e w4 ⟨rfl, hb4⟩
  have hb04 := hb03.trans (hb4.mono hb03.size)
  go_wp2_with fail
  refine (HE0.out _ hb04).mono ?_
  rintro e w5 ⟨rfl, hb5⟩
  have hb05 := hb04.trans (hb5.mono hb04.size)
  go_wp2_with fail
  refine (C4.out _ (h.below hb05)).mono ?_
  rintro e w6 ⟨rfl, hb6⟩
  have hb06 := hb05.trans (hb6.mono hb05.size)
  go_wp2_with fail
  refine (HE1.out _ hb06).mono ?_
  rintro e w7 ⟨rfl, hb7⟩
  have hb07 := hb06.trans (hb7.mono hb06.size)
  go_wp2_with fail
  refine (CI.out _).mono ?_
  rintro e w8 ⟨rfl, hb8⟩
  have hb08 := hb07.trans (hb8.mono hb07.size)
  go_wp2_with fail
  refine (C5.out _ (h.below hb08)).mono ?_
  rintro e w9 ⟨rfl, hb9⟩
  have hb09 := hb08.trans (hb9.mono hb08.size)
  go_wp2_with fail
  refine (HE1.out _ hb09).mono ?_
  rintro e w10 ⟨rfl, hb10⟩
  have hb010 := hb09.trans (hb10.mono hb09.size)
  go_wp2_with fail
  refine (CG.out _).mono ?_
  rintro e w11 ⟨rfl, hb11⟩
  have hb011 := hb010.trans (hb11.mono hb010.size)
  go_wp2_with fail
  go_ret
  exact ⟨rfl, hb011⟩

set_option maxHeartbeats 4000000 in
theorem GrantSays_neg_in (users : Int) (n : Nat) (G : List Int) (A : Option Addr) (c : Nat) (w : World) (hl : G.length = n * 3) (h : IntsAt w A G) (s3 : n * 3 < 2 ^ 47) (hcap : n ≤ c) (fr to : Int) (hz : gCode users G n = 0) (ht : to < 0) (hf : 0 ≤ fr ∧ fr < users) (hE : ErrT w) :
    Calls Tryd.prog 9 #[.int .i64 users, .slice A n c, .int .i64 fr, .int .i64 to] w fun e w' => e = .returned (.bool true) ∧ Below w.heap.size w w' := by
  have hu := gCode_one hz
  have C1 := Lib.hid (fun V (hV : IntsAt V A G) => (RGivens_any users n G A c V hV (by omega) (by omega) hcap).mono fun e w' ⟨he, hb⟩ => (⟨by rw [he, hz]; rfl, hb⟩ : e = Ending.returned (.int .i64 0) ∧ Below V.heap.size V w'))
  have C2 := Lib.hid (fun V (hV : IntsAt V A G) => (GCheck_any users n G A c V hV (by omega) (by omega) hcap).mono fun e w' ⟨he, hb⟩ => (⟨by rw [he, hz]; rfl, hb⟩ : e = Ending.returned .nilIface ∧ Below V.heap.size V w'))
  have CS := Lib.hid (fun V (hV : IntsAt V A G) => RGranted_any n G A c V hV (by omega) (by omega) (gSet_ok hz))
  have C3 := Lib.hid (fun V (hV : IntsAt V A G) => GHolds_ok users n G A c V hV (by omega) (by omega) hcap hz)
  have hp : pCode users G n to = 1 := by unfold pCode; rw [if_pos hz, if_neg (by omega)]
  have C4 := Lib.hid (fun V (hV : IntsAt V A G) => GPath_bad users n G to A c V hV (by omega) (by omega) hcap hp (by decide))
  have hr : rCode users G n fr to = 1 := by unfold rCode; rw [if_pos hz, if_neg (by omega)]
  have C5 := Lib.hid (fun V (hV : IntsAt V A G) => GRevoke_bad users n G fr to A c V hV (by omega) (by omega) hcap hr (by decide))
  have CG := Lib.hid (fun V => Givens_any [] [] 0 0 rfl rfl none none 0 0 V IntsAt.nil IntsAt.nil (by decide) (by decide) (r := true) (by decide))
  have CI := Lib.hid (fun V => Ints_below [] none none 0 0 V IntsAt.nil IntsAt.nil (by decide))
  have HE0 := Lib.hid (fun V (hV : Below w.heap.size w V) => (Error_is 0 0 true V (hE.next hV) (by decide) : Calls Tryd.prog 23 #[.nilIface, .int .i64 0] V _))
  have HE1 := Lib.hid (fun V (hV : Below w.heap.size w V) => (Error_is 1 1 true V (hE.next hV) (by decide) : Calls Tryd.prog 23 #[.iface 84 (.int .i64 1), .int .i64 1] V _))
  have t0 : decide (to < 0) = true := by simpa using ht
  have f0 : decide (fr < 0) = false := by simp; omega
  have f1 : decide (fr ≥ users) = false := by simp; omega
  clear ht hf hp hr hz hE
  generalize gSet G n = s at *
  go_enter Tryd.func9, Tryd.ntmps9
  go_wp2_with fail
  refine (C1.out _ h).mono ?_
  rintro e w1 ⟨rfl, hb1⟩
  have hb01 := hb1
  go_wp2_with fail
  refine (C2.out _ (h.below hb01)).mono ?_
  rintro e w2 ⟨rfl, hb2⟩
  have hb02 := hb01.trans (hb2.mono hb01.size)
  go_wp2_with fail
  refine (HE0.out _ hb02).mono ?_
  rintro e w3 ⟨rfl, hb3⟩
  have hb03 := hb02.trans (hb3.mono hb02.size)
  go_wp2_with fail
  refine (CS.out _ (h.below hb03)).mono ?_
  rintro e w' ⟨rfl, rfl⟩
  go_wp2_with fail
  refine (C3.out _ (h.below hb03)).mono ?_
  rintro e w4 ⟨rfl, hb4⟩
  have hb04 := hb03.trans (hb4.mono hb03.size)
  go_wp2_with fail
  refine (HE0.out _ hb04).mono ?_
  rintro e w5 ⟨rfl, hb5⟩
  have hb05 := hb04.trans (hb5.mono hb04.size)
  go_wp2_with fail
  refine (C4.out _ (h.below hb05)).mono ?_
  rintro e w6 ⟨rfl, hb6⟩
  have hb06 := hb05.trans (hb6.mono hb05.size)
  go_wp2_with fail
  refine (HE1.out _ hb06).mono ?_
  rintro e w7 ⟨rfl, hb7⟩
  have hb07 := hb06.trans (hb7.mono hb06.size)
  go_wp2_with fail
  refine (CI.out _).mono ?_
  rintro e w8 ⟨rfl, hb8⟩
  have hb08 := hb07.trans (hb8.mono hb07.size)
  go_wp2_with fail
  refine (C5.out _ (h.below hb08)).mono ?_
  rintro e w9 ⟨rfl, hb9⟩
  have hb09 := hb08.trans (hb9.mono hb08.size)
  go_wp2_with fail
  refine (HE1.out _ hb09).mono ?_
  rintro e w10 ⟨rfl, hb10⟩
  have hb010 := hb09.trans (hb10.mono hb09.size)
  go_wp2_with fail
  refine (CG.out _).mono ?_
  rintro e w11 ⟨rfl, hb11⟩
  have hb011 := hb010.trans (hb11.mono hb010.size)
  go_wp2_with fail
  go_ret
  exact ⟨rfl, hb011⟩

set_option maxHeartbeats 4000000 in
theorem GrantSays_big_neg (users : Int) (n : Nat) (G : List Int) (A : Option Addr) (c : Nat) (w : World) (hl : G.length = n * 3) (h : IntsAt w A G) (s3 : n * 3 < 2 ^ 47) (hcap : n ≤ c) (fr to : Int) (hz : gCode users G n = 0) (ht : users ≤ to) (hf : fr < 0) (hE : ErrT w) :
    Calls Tryd.prog 9 #[.int .i64 users, .slice A n c, .int .i64 fr, .int .i64 to] w fun e w' => e = .returned (.bool true) ∧ Below w.heap.size w w' := by
  have hu := gCode_one hz
  have C1 := Lib.hid (fun V (hV : IntsAt V A G) => (RGivens_any users n G A c V hV (by omega) (by omega) hcap).mono fun e w' ⟨he, hb⟩ => (⟨by rw [he, hz]; rfl, hb⟩ : e = Ending.returned (.int .i64 0) ∧ Below V.heap.size V w'))
  have C2 := Lib.hid (fun V (hV : IntsAt V A G) => (GCheck_any users n G A c V hV (by omega) (by omega) hcap).mono fun e w' ⟨he, hb⟩ => (⟨by rw [he, hz]; rfl, hb⟩ : e = Ending.returned .nilIface ∧ Below V.heap.size V w'))
  have CS := Lib.hid (fun V (hV : IntsAt V A G) => RGranted_any n G A c V hV (by omega) (by omega) (gSet_ok hz))
  have C3 := Lib.hid (fun V (hV : IntsAt V A G) => GHolds_ok users n G A c V hV (by omega) (by omega) hcap hz)
  have hp : pCode users G n to = 1 := by unfold pCode; rw [if_pos hz, if_neg (by omega)]
  have C4 := Lib.hid (fun V (hV : IntsAt V A G) => GPath_bad users n G to A c V hV (by omega) (by omega) hcap hp (by decide))
  have hr : rCode users G n fr to = 1 := by unfold rCode; rw [if_pos hz, if_neg (by omega)]
  have C5 := Lib.hid (fun V (hV : IntsAt V A G) => GRevoke_bad users n G fr to A c V hV (by omega) (by omega) hcap hr (by decide))
  have CG := Lib.hid (fun V => Givens_any [] [] 0 0 rfl rfl none none 0 0 V IntsAt.nil IntsAt.nil (by decide) (by decide) (r := true) (by decide))
  have CI := Lib.hid (fun V => Ints_below [] none none 0 0 V IntsAt.nil IntsAt.nil (by decide))
  have HE0 := Lib.hid (fun V (hV : Below w.heap.size w V) => (Error_is 0 0 true V (hE.next hV) (by decide) : Calls Tryd.prog 23 #[.nilIface, .int .i64 0] V _))
  have HE1 := Lib.hid (fun V (hV : Below w.heap.size w V) => (Error_is 1 1 true V (hE.next hV) (by decide) : Calls Tryd.prog 23 #[.iface 84 (.int .i64 1), .int .i64 1] V _))
  have t0 : decide (to < 0) = false := by simp; omega
  have t1 : decide (to ≥ users) = true := by simp; omega
  have f0 : decide (fr < 0) = true := by simpa using hf
  clear ht hf hp hr hz hE
  generalize gSet G n = s at *
  go_enter Tryd.func9, Tryd.ntmps9
  go_wp2_with fail
  refine (C1.out _ h).mono ?_
  rintro e w1 ⟨rfl, hb1⟩
  have hb01 := hb1
  go_wp2_with fail
  refine (C2.out _ (h.below hb01)).mono ?_
  rintro e w2 ⟨rfl, hb2⟩
  have hb02 := hb01.trans (hb2.mono hb01.size)
  go_wp2_with fail
  refine (HE0.out _ hb02).mono ?_
  rintro e w3 ⟨rfl, hb3⟩
  have hb03 := hb02.trans (hb3.mono hb02.size)
  go_wp2_with fail
  refine (CS.out _ (h.below hb03)).mono ?_
  rintro e w' ⟨rfl, rfl⟩
  go_wp2_with fail
  refine (C3.out _ (h.below hb03)).mono ?_
  rintro e w4 ⟨rfl, hb4⟩
  have hb04 := hb03.trans (hb4.mono hb03.size)
  go_wp2_with fail
  refine (HE0.out _ hb04).mono ?_
  rintro e w5 ⟨rfl, hb5⟩
  have hb05 := hb04.trans (hb5.mono hb04.size)
  go_wp2_with fail
  refine (C4.out _ (h.below hb05)).mono ?_
  rintro e w6 ⟨rfl, hb6⟩
  have hb06 := hb05.trans (hb6.mono hb05.size)
  go_wp2_with fail
  refine (HE1.out _ hb06).mono ?_
  rintro e w7 ⟨rfl, hb7⟩
  have hb07 := hb06.trans (hb7.mono hb06.size)
  go_wp2_with fail
  refine (CI.out _).mono ?_
  rintro e w8 ⟨rfl, hb8⟩
  have hb08 := hb07.trans (hb8.mono hb07.size)
  go_wp2_with fail
  refine (C5.out _ (h.below hb08)).mono ?_
  rintro e w9 ⟨rfl, hb9⟩
  have hb09 := hb08.trans (hb9.mono hb08.size)
  go_wp2_with fail
  refine (HE1.out _ hb09).mono ?_
  rintro e w10 ⟨rfl, hb10⟩
  have hb010 := hb09.trans (hb10.mono hb09.size)
  go_wp2_with fail
  refine (CG.out _).mono ?_
  rintro e w11 ⟨rfl, hb11⟩
  have hb011 := hb010.trans (hb11.mono hb010.size)
  go_wp2_with fail
  go_ret
  exact ⟨rfl, hb011⟩

set_option maxHeartbeats 4000000 in
theorem GrantSays_big_big (users : Int) (n : Nat) (G : List Int) (A : Option Addr) (c : Nat) (w : World) (hl : G.length = n * 3) (h : IntsAt w A G) (s3 : n * 3 < 2 ^ 47) (hcap : n ≤ c) (fr to : Int) (hz : gCode users G n = 0) (ht : users ≤ to) (hf : users ≤ fr) (hE : ErrT w) :
    Calls Tryd.prog 9 #[.int .i64 users, .slice A n c, .int .i64 fr, .int .i64 to] w fun e w' => e = .returned (.bool true) ∧ Below w.heap.size w w' := by
  have hu := gCode_one hz
  have C1 := Lib.hid (fun V (hV : IntsAt V A G) => (RGivens_any users n G A c V hV (by omega) (by omega) hcap).mono fun e w' ⟨he, hb⟩ => (⟨by rw [he, hz]; rfl, hb⟩ : e = Ending.returned (.int .i64 0) ∧ Below V.heap.size V w'))
  have C2 := Lib.hid (fun V (hV : IntsAt V A G) => (GCheck_any users n G A c V hV (by omega) (by omega) hcap).mono fun e w' ⟨he, hb⟩ => (⟨by rw [he, hz]; rfl, hb⟩ : e = Ending.returned .nilIface ∧ Below V.heap.size V w'))
  have CS := Lib.hid (fun V (hV : IntsAt V A G) => RGranted_any n G A c V hV (by omega) (by omega) (gSet_ok hz))
  have C3 := Lib.hid (fun V (hV : IntsAt V A G) => GHolds_ok users n G A c V hV (by omega) (by omega) hcap hz)
  have hp : pCode users G n to = 1 := by unfold pCode; rw [if_pos hz, if_neg (by omega)]
  have C4 := Lib.hid (fun V (hV : IntsAt V A G) => GPath_bad users n G to A c V hV (by omega) (by omega) hcap hp (by decide))
  have hr : rCode users G n fr to = 1 := by unfold rCode; rw [if_pos hz, if_neg (by omega)]
  have C5 := Lib.hid (fun V (hV : IntsAt V A G) => GRevoke_bad users n G fr to A c V hV (by omega) (by omega) hcap hr (by decide))
  have CG := Lib.hid (fun V => Givens_any [] [] 0 0 rfl rfl none none 0 0 V IntsAt.nil IntsAt.nil (by decide) (by decide) (r := true) (by decide))
  have CI := Lib.hid (fun V => Ints_below [] none none 0 0 V IntsAt.nil IntsAt.nil (by decide))
  have HE0 := Lib.hid (fun V (hV : Below w.heap.size w V) => (Error_is 0 0 true V (hE.next hV) (by decide) : Calls Tryd.prog 23 #[.nilIface, .int .i64 0] V _))
  have HE1 := Lib.hid (fun V (hV : Below w.heap.size w V) => (Error_is 1 1 true V (hE.next hV) (by decide) : Calls Tryd.prog 23 #[.iface 84 (.int .i64 1), .int .i64 1] V _))
  have t0 : decide (to < 0) = false := by simp; omega
  have t1 : decide (to ≥ users) = true := by simp; omega
  have f0 : decide (fr < 0) = false := by simp; omega
  have f1 : decide (fr ≥ users) = true := by simp; omega
  clear ht hf hp hr hz hE
  generalize gSet G n = s at *
  go_enter Tryd.func9, Tryd.ntmps9
  go_wp2_with fail
  refine (C1.out _ h).mono ?_
  rintro e w1 ⟨rfl, hb1⟩
  have hb01 := hb1
  go_wp2_with fail
  refine (C2.out _ (h.below hb01)).mono ?_
  rintro e w2 ⟨rfl, hb2⟩
  have hb02 := hb01.trans (hb2.mono hb01.size)
  go_wp2_with fail
  refine (HE0.out _ hb02).mono ?_
  rintro e w3 ⟨rfl, hb3⟩
  have hb03 := hb02.trans (hb3.mono hb02.size)
  go_wp2_with fail
  refine (CS.out _ (h.below hb03)).mono ?_
  rintro e w' ⟨rfl, rfl⟩
  go_wp2_with fail
  refine (C3.out _ (h.below hb03)).mono ?_
  rintro e w4 ⟨rfl, hb4⟩
  have hb04 := hb03.trans (hb4.mono hb03.size)
  go_wp2_with fail
  refine (HE0.out _ hb04).mono ?_
  rintro e w5 ⟨rfl, hb5⟩
  have hb05 := hb04.trans (hb5.mono hb04.size)
  go_wp2_with fail
  refine (C4.out _ (h.below hb05)).mono ?_
  rintro e w6 ⟨rfl, hb6⟩
  have hb06 := hb05.trans (hb6.mono hb05.size)
  go_wp2_with fail
  refine (HE1.out _ hb06).mono ?_
  rintro e w7 ⟨rfl, hb7⟩
  have hb07 := hb06.trans (hb7.mono hb06.size)
  go_wp2_with fail
  refine (CI.out _).mono ?_
  rintro e w8 ⟨rfl, hb8⟩
  have hb08 := hb07.trans (hb8.mono hb07.size)
  go_wp2_with fail
  refine (C5.out _ (h.below hb08)).mono ?_
  rintro e w9 ⟨rfl, hb9⟩
  have hb09 := hb08.trans (hb9.mono hb08.size)
  go_wp2_with fail
  refine (HE1.out _ hb09).mono ?_
  rintro e w10 ⟨rfl, hb10⟩
  have hb010 := hb09.trans (hb10.mono hb09.size)
  go_wp2_with fail
  refine (CG.out _).mono ?_
  rintro e w11 ⟨rfl, hb11⟩
  have hb011 := hb010.trans (hb11.mono hb010.size)
  go_wp2_with fail
  go_ret
  exact ⟨rfl, hb011⟩

set_option maxHeartbeats 4000000 in
theorem GrantSays_big_in (users : Int) (n : Nat) (G : List Int) (A : Option Addr) (c : Nat) (w : World) (hl : G.length = n * 3) (h : IntsAt w A G) (s3 : n * 3 < 2 ^ 47) (hcap : n ≤ c) (fr to : Int) (hz : gCode users G n = 0) (ht : users ≤ to) (hf : 0 ≤ fr ∧ fr < users) (hE : ErrT w) :
    Calls Tryd.prog 9 #[.int .i64 users, .slice A n c, .int .i64 fr, .int .i64 to] w fun e w' => e = .returned (.bool true) ∧ Below w.heap.size w w' := by
  have hu := gCode_one hz
  have C1 := Lib.hid (fun V (hV : IntsAt V A G) => (RGivens_any users n G A c V hV (by omega) (by omega) hcap).mono fun e w' ⟨he, hb⟩ => (⟨by rw [he, hz]; rfl, hb⟩ : e = Ending.returned (.int .i64 0) ∧ Below V.heap.size V w'))
  have C2 := Lib.hid (fun V (hV : IntsAt V A G) => (GCheck_any users n G A c V hV (by omega) (by omega) hcap).mono fun e w' ⟨he, hb⟩ => (⟨by rw [he, hz]; rfl, hb⟩ : e = Ending.returned .nilIface ∧ Below V.heap.size V w'))
  have CS := Lib.hid (fun V (hV : IntsAt V A G) => RGranted_any n G A c V hV (by omega) (by omega) (gSet_ok hz))
  have C3 := Lib.hid (fun V (hV : IntsAt V A G) => GHolds_ok users n G A c V hV (by omega) (by omega) hcap hz)
  have hp : pCode users G n to = 1 := by unfold pCode; rw [if_pos hz, if_neg (by omega)]
  have C4 := Lib.hid (fun V (hV : IntsAt V A G) => GPath_bad users n G to A c V hV (by omega) (by omega) hcap hp (by decide))
  have hr : rCode users G n fr to = 1 := by unfold rCode; rw [if_pos hz, if_neg (by omega)]
  have C5 := Lib.hid (fun V (hV : IntsAt V A G) => GRevoke_bad users n G fr to A c V hV (by omega) (by omega) hcap hr (by decide))
  have CG := Lib.hid (fun V => Givens_any [] [] 0 0 rfl rfl none none 0 0 V IntsAt.nil IntsAt.nil (by decide) (by decide) (r := true) (by decide))
  have CI := Lib.hid (fun V => Ints_below [] none none 0 0 V IntsAt.nil IntsAt.nil (by decide))
  have HE0 := Lib.hid (fun V (hV : Below w.heap.size w V) => (Error_is 0 0 true V (hE.next hV) (by decide) : Calls Tryd.prog 23 #[.nilIface, .int .i64 0] V _))
  have HE1 := Lib.hid (fun V (hV : Below w.heap.size w V) => (Error_is 1 1 true V (hE.next hV) (by decide) : Calls Tryd.prog 23 #[.iface 84 (.int .i64 1), .int .i64 1] V _))
  have t0 : decide (to < 0) = false := by simp; omega
  have t1 : decide (to ≥ users) = true := by simp; omega
  have f0 : decide (fr < 0) = false := by simp; omega
  have f1 : decide (fr ≥ users) = false := by simp; omega
  clear ht hf hp hr hz hE
  generalize gSet G n = s at *
  go_enter Tryd.func9, Tryd.ntmps9
  go_wp2_with fail
  refine (C1.out _ h).mono ?_
  rintro e w1 ⟨rfl, hb1⟩
  have hb01 := hb1
  go_wp2_with fail
  refine (C2.out _ (h.below hb01)).mono ?_
  rintro e w2 ⟨rfl, hb2⟩
  have hb02 := hb01.trans (hb2.mono hb01.size)
  go_wp2_with fail
  refine (HE0.out _ hb02).mono ?_
  rintro e w3 ⟨rfl, hb3⟩
  have hb03 := hb02.trans (hb3.mono hb02.size)
  go_wp2_with fail
  refine (CS.out _ (h.below hb03)).mono ?_
  rintro e w' ⟨rfl, rfl⟩
  go_wp2_with fail
  refine (C3.out _ (h.below hb03)).mono ?_
  rintro e w4 ⟨rfl, hb4⟩
  have hb04 := hb03.trans (hb4.mono hb03.size)
  go_wp2_with fail
  refine (HE0.out _ hb04).mono ?_
  rintro e w5 ⟨rfl, hb5⟩
  have hb05 := hb04.trans (hb5.mono hb04.size)
  go_wp2_with fail
  refine (C4.out _ (h.below hb05)).mono ?_
  rintro e w6 ⟨rfl, hb6⟩
  have hb06 := hb05.trans (hb6.mono hb05.size)
  go_wp2_with fail
  refine (HE1.out _ hb06).mono ?_
  rintro e w7 ⟨rfl, hb7⟩
  have hb07 := hb06.trans (hb7.mono hb06.size)
  go_wp2_with fail
  refine (CI.out _).mono ?_
  rintro e w8 ⟨rfl, hb8⟩
  have hb08 := hb07.trans (hb8.mono hb07.size)
  go_wp2_with fail
  refine (C5.out _ (h.below hb08)).mono ?_
  rintro e w9 ⟨rfl, hb9⟩
  have hb09 := hb08.trans (hb9.mono hb08.size)
  go_wp2_with fail
  refine (HE1.out _ hb09).mono ?_
  rintro e w10 ⟨rfl, hb10⟩
  have hb010 := hb09.trans (hb10.mono hb09.size)
  go_wp2_with fail
  refine (CG.out _).mono ?_
  rintro e w11 ⟨rfl, hb11⟩
  have hb011 := hb010.trans (hb11.mono hb010.size)
  go_wp2_with fail
  go_ret
  exact ⟨rfl, hb011⟩

set_option maxHeartbeats 4000000 in
theorem GrantSays_no_neg (users : Int) (n : Nat) (G : List Int) (A : Option Addr) (c : Nat) (w : World) (hl : G.length = n * 3) (h : IntsAt w A G) (s3 : n * 3 < 2 ^ 47) (hcap : n ≤ c) (fr to : Int) (hz : gCode users G n = 0) (ht : 0 ≤ to ∧ to < users) (hh : gHeld G n to = false) (hf : fr < 0) (hE : ErrT w) :
    Calls Tryd.prog 9 #[.int .i64 users, .slice A n c, .int .i64 fr, .int .i64 to] w fun e w' => e = .returned (.bool true) ∧ Below w.heap.size w w' := by
  have hu := gCode_one hz
  have C1 := Lib.hid (fun V (hV : IntsAt V A G) => (RGivens_any users n G A c V hV (by omega) (by omega) hcap).mono fun e w' ⟨he, hb⟩ => (⟨by rw [he, hz]; rfl, hb⟩ : e = Ending.returned (.int .i64 0) ∧ Below V.heap.size V w'))
  have C2 := Lib.hid (fun V (hV : IntsAt V A G) => (GCheck_any users n G A c V hV (by omega) (by omega) hcap).mono fun e w' ⟨he, hb⟩ => (⟨by rw [he, hz]; rfl, hb⟩ : e = Ending.returned .nilIface ∧ Below V.heap.size V w'))
  have CS := Lib.hid (fun V (hV : IntsAt V A G) => RGranted_any n G A c V hV (by omega) (by omega) (gSet_ok hz))
  have C3 := Lib.hid (fun V (hV : IntsAt V A G) => GHolds_ok users n G A c V hV (by omega) (by omega) hcap hz)
  have hp : pCode users G n to = 5 := by unfold pCode; rw [if_pos hz, if_pos ht, hh]; rfl
  have C4 := Lib.hid (fun V (hV : IntsAt V A G) => GPath_bad users n G to A c V hV (by omega) (by omega) hcap hp (by decide))
  have CR := Lib.hid (fun V (hV : IntsAt V A G) => RGrantPath_no n G to A c V hV (by omega) (by omega) hh)
  have hr : rCode users G n fr to = 1 := by unfold rCode; rw [if_pos hz, if_neg (by omega)]
  have C5 := Lib.hid (fun V (hV : IntsAt V A G) => GRevoke_bad users n G fr to A c V hV (by omega) (by omega) hcap hr (by decide))
  have CG := Lib.hid (fun V => Givens_any [] [] 0 0 rfl rfl none none 0 0 V IntsAt.nil IntsAt.nil (by decide) (by decide) (r := true) (by decide))
  have CI := Lib.hid (fun V => Ints_below [] none none 0 0 V IntsAt.nil IntsAt.nil (by decide))
  have HE0 := Lib.hid (fun V (hV : Below w.heap.size w V) => (Error_is 0 0 true V (hE.next hV) (by decide) : Calls Tryd.prog 23 #[.nilIface, .int .i64 0] V _))
  have HE1 := Lib.hid (fun V (hV : Below w.heap.size w V) => (Error_is 1 1 true V (hE.next hV) (by decide) : Calls Tryd.prog 23 #[.iface 84 (.int .i64 1), .int .i64 1] V _))
  have HE5 := Lib.hid (fun V (hV : Below w.heap.size w V) => (Error_is 5 5 true V (hE.next hV) (by decide) : Calls Tryd.prog 23 #[.iface 84 (.int .i64 5), .int .i64 5] V _))
  have t0 : decide (to < 0) = false := by simp; omega
  have t1 : decide (to ≥ users) = false := by simp; omega
  have f0 : decide (fr < 0) = true := by simpa using hf
  clear ht hf hp hr hz hE hh
  generalize gSet G n = s at *
  go_enter Tryd.func9, Tryd.ntmps9
  go_wp2_with fail
  refine (C1.out _ h).mono ?_
  rintro e w1 ⟨rfl, hb1⟩
  have hb01 := hb1
  go_wp2_with fail
  refine (C2.out _ (h.below hb01)).mono ?_
  rintro e w2 ⟨rfl, hb2⟩
  have hb02 := hb01.trans (hb2.mono hb01.size)
  go_wp2_with fail
  refine (HE0.out _ hb02).mono ?_
  rintro e w3 ⟨rfl, hb3⟩
  have hb03 := hb02.trans (hb3.mono hb02.size)
  go_wp2_with fail
  refine (CS.out _ (h.below hb03)).mono ?_
  rintro e w' ⟨rfl, rfl⟩
  go_wp2_with fail
  refine (C3.out _ (h.below hb03)).mono ?_
  rintro e w4 ⟨rfl, hb4⟩
  have hb04 := hb03.trans (hb4.mono hb03.size)
  go_wp2_with fail
  refine (HE0.out _ hb04).mono ?_
  rintro e w5 ⟨rfl, hb5⟩
  have hb05 := hb04.trans (hb5.mono hb04.size)
  go_wp2_with fail
  refine (CR.out _ (h.below hb05)).mono ?_
  rintro e w' ⟨rfl, rfl⟩
  go_wp2_with fail
  refine (C4.out _ (h.below hb05)).mono ?_
  rintro e w6 ⟨rfl, hb6⟩
  have hb06 := hb05.trans (hb6.mono hb05.size)
  go_wp2_with fail
  refine (HE5.out _ hb06).mono ?_
  rintro e w7 ⟨rfl, hb7⟩
  have hb07 := hb06.trans (hb7.mono hb06.size)
  go_wp2_with fail
  refine (CI.out _).mono ?_
  rintro e w8 ⟨rfl, hb8⟩
  have hb08 := hb07.trans (hb8.mono hb07.size)
  go_wp2_with fail
  refine (C5.out _ (h.below hb08)).mono ?_
  rintro e w9 ⟨rfl, hb9⟩
  have hb09 := hb08.trans (hb9.mono hb08.size)
  go_wp2_with fail
  refine (HE1.out _ hb09).mono ?_
  rintro e w10 ⟨rfl, hb10⟩
  have hb010 := hb09.trans (hb10.mono hb09.size)
  go_wp2_with fail
  refine (CG.out _).mono ?_
  rintro e w11 ⟨rfl, hb11⟩
  have hb011 := hb010.trans (hb11.mono hb010.size)
  go_wp2_with fail
  go_ret
  exact ⟨rfl, hb011⟩

set_option maxHeartbeats 4000000 in
theorem GrantSays_no_big (users : Int) (n : Nat) (G : List Int) (A : Option Addr) (c : Nat) (w : World) (hl : G.length = n * 3) (h : IntsAt w A G) (s3 : n * 3 < 2 ^ 47) (hcap : n ≤ c) (fr to : Int) (hz : gCode users G n = 0) (ht : 0 ≤ to ∧ to < users) (hh : gHeld G n to = false) (hf : users ≤ fr) (hE : ErrT w) :
    Calls Tryd.prog 9 #[.int .i64 users, .slice A n c, .int .i64 fr, .int .i64 to] w fun e w' => e = .returned (.bool true) ∧ Below w.heap.size w w' := by
  have hu := gCode_one hz
  have C1 := Lib.hid (fun V (hV : IntsAt V A G) => (RGivens_any users n G A c V hV (by omega) (by omega) hcap).mono fun e w' ⟨he, hb⟩ => (⟨by rw [he, hz]; rfl, hb⟩ : e = Ending.returned (.int .i64 0) ∧ Below V.heap.size V w'))
  have C2 := Lib.hid (fun V (hV : IntsAt V A G) => (GCheck_any users n G A c V hV (by omega) (by omega) hcap).mono fun e w' ⟨he, hb⟩ => (⟨by rw [he, hz]; rfl, hb⟩ : e = Ending.returned .nilIface ∧ Below V.heap.size V w'))
  have CS := Lib.hid (fun V (hV : IntsAt V A G) => RGranted_any n G A c V hV (by omega) (by omega) (gSet_ok hz))
  have C3 := Lib.hid (fun V (hV : IntsAt V A G) => GHolds_ok users n G A c V hV (by omega) (by omega) hcap hz)
  have hp : pCode users G n to = 5 := by unfold pCode; rw [if_pos hz, if_pos ht, hh]; rfl
  have C4 := Lib.hid (fun V (hV : IntsAt V A G) => GPath_bad users n G to A c V hV (by omega) (by omega) hcap hp (by decide))
  have CR := Lib.hid (fun V (hV : IntsAt V A G) => RGrantPath_no n G to A c V hV (by omega) (by omega) hh)
  have hr : rCode users G n fr to = 1 := by unfold rCode; rw [if_pos hz, if_neg (by omega)]
  have C5 := Lib.hid (fun V (hV : IntsAt V A G) => GRevoke_bad users n G fr to A c V hV (by omega) (by omega) hcap hr (by decide))
  have CG := Lib.hid (fun V => Givens_any [] [] 0 0 rfl rfl none none 0 0 V IntsAt.nil IntsAt.nil (by decide) (by decide) (r := true) (by decide))
  have CI := Lib.hid (fun V => Ints_below [] none none 0 0 V IntsAt.nil IntsAt.nil (by decide))
  have HE0 := Lib.hid (fun V (hV : Below w.heap.size w V) => (Error_is 0 0 true V (hE.next hV) (by decide) : Calls Tryd.prog 23 #[.nilIface, .int .i64 0] V _))
  have HE1 := Lib.hid (fun V (hV : Below w.heap.size w V) => (Error_is 1 1 true V (hE.next hV) (by decide) : Calls Tryd.prog 23 #[.iface 84 (.int .i64 1), .int .i64 1] V _))
  have HE5 := Lib.hid (fun V (hV : Below w.heap.size w V) => (Error_is 5 5 true V (hE.next hV) (by decide) : Calls Tryd.prog 23 #[.iface 84 (.int .i64 5), .int .i64 5] V _))
  have t0 : decide (to < 0) = false := by simp; omega
  have t1 : decide (to ≥ users) = false := by simp; omega
  have f0 : decide (fr < 0) = false := by simp; omega
  have f1 : decide (fr ≥ users) = true := by simp; omega
  clear ht hf hp hr hz hE hh
  generalize gSet G n = s at *
  go_enter Tryd.func9, Tryd.ntmps9
  go_wp2_with fail
  refine (C1.out _ h).mono ?_
  rintro e w1 ⟨rfl, hb1⟩
  have hb01 := hb1
  go_wp2_with fail
  refine (C2.out _ (h.below hb01)).mono ?_
  rintro e w2 ⟨rfl, hb2⟩
  have hb02 := hb01.trans (hb2.mono hb01.size)
  go_wp2_with fail
  refine (HE0.out _ hb02).mono ?_
  rintro e w3 ⟨rfl, hb3⟩
  have hb03 := hb02.trans (hb3.mono hb02.size)
  go_wp2_with fail
  refine (CS.out _ (h.below hb03)).mono ?_
  rintro e w' ⟨rfl, rfl⟩
  go_wp2_with fail
  refine (C3.out _ (h.below hb03)).mono ?_
  rintro e w4 ⟨rfl, hb4⟩
  have hb04 := hb03.trans (hb4.mono hb03.size)
  go_wp2_with fail
  refine (HE0.out _ hb04).mono ?_
  rintro e w5 ⟨rfl, hb5⟩
  have hb05 := hb04.trans (hb5.mono hb04.size)
  go_wp2_with fail
  refine (CR.out _ (h.below hb05)).mono ?_
  rintro e w' ⟨rfl, rfl⟩
  go_wp2_with fail
  refine (C4.out _ (h.below hb05)).mono ?_
  rintro e w6 ⟨rfl, hb6⟩
  have hb06 := hb05.trans (hb6.mono hb05.size)
  go_wp2_with fail
  refine (HE5.out _ hb06).mono ?_
  rintro e w7 ⟨rfl, hb7⟩
  have hb07 := hb06.trans (hb7.mono hb06.size)
  go_wp2_with fail
  refine (CI.out _).mono ?_
  rintro e w8 ⟨rfl, hb8⟩
  have hb08 := hb07.trans (hb8.mono hb07.size)
  go_wp2_with fail
  refine (C5.out _ (h.below hb08)).mono ?_
  rintro e w9 ⟨rfl, hb9⟩
  have hb09 := hb08.trans (hb9.mono hb08.size)
  go_wp2_with fail
  refine (HE1.out _ hb09).mono ?_
  rintro e w10 ⟨rfl, hb10⟩
  have hb010 := hb09.trans (hb10.mono hb09.size)
  go_wp2_with fail
  refine (CG.out _).mono ?_
  rintro e w11 ⟨rfl, hb11⟩
  have hb011 := hb010.trans (hb11.mono hb010.size)
  go_wp2_with fail
  go_ret
  exact ⟨rfl, hb011⟩

set_option maxHeartbeats 4000000 in
theorem GrantSays_no_found (users : Int) (n : Nat) (G : List Int) (A : Option Addr) (c : Nat) (w : World) (hl : G.length = n * 3) (h : IntsAt w A G) (s3 : n * 3 < 2 ^ 47) (hcap : n ≤ c) (fr to : Int) (hz : gCode users G n = 0) (ht : 0 ≤ to ∧ to < users) (hh : gHeld G n to = false) (hf : 0 ≤ fr ∧ fr < users) (ha : (List.range n).any (gP G fr to) = true) (hE : ErrT w) :
    Calls Tryd.prog 9 #[.int .i64 users, .slice A n c, .int .i64 fr, .int .i64 to] w fun e w' => e = .returned (.bool true) ∧ Below w.heap.size w w' := by
  have hu := gCode_one hz
  have C1 := Lib.hid (fun V (hV : IntsAt V A G) => (RGivens_any users n G A c V hV (by omega) (by omega) hcap).mono fun e w' ⟨he, hb⟩ => (⟨by rw [he, hz]; rfl, hb⟩ : e = Ending.returned (.int .i64 0) ∧ Below V.heap.size V w'))
  have C2 := Lib.hid (fun V (hV : IntsAt V A G) => (GCheck_any users n G A c V hV (by omega) (by omega) hcap).mono fun e w' ⟨he, hb⟩ => (⟨by rw [he, hz]; rfl, hb⟩ : e = Ending.returned .nilIface ∧ Below V.heap.size V w'))
  have CS := Lib.hid (fun V (hV : IntsAt V A G) => RGranted_any n G A c V hV (by omega) (by omega) (gSet_ok hz))
  have C3 := Lib.hid (fun V (hV : IntsAt V A G) => GHolds_ok users n G A c V hV (by omega) (by omega) hcap hz)
  have hp : pCode users G n to = 5 := by unfold pCode; rw [if_pos hz, if_pos ht, hh]; rfl
  have C4 := Lib.hid (fun V (hV : IntsAt V A G) => GPath_bad users n G to A c V hV (by omega) (by omega) hcap hp (by decide))
  have CR := Lib.hid (fun V (hV : IntsAt V A G) => RGrantPath_no n G to A c V hV (by omega) (by omega) hh)
  have hr : rCode users G n fr to = 0 := by rw [rCode_of hz ⟨hf, ht⟩, ha]; rfl
  have C5 := Lib.hid (fun V (hV : IntsAt V A G) => GRevoke_ok users n G fr to A c V hV (by omega) (by omega) hcap hr)
  have CV := fun V (hV : IntsAt V A G) => RRevoked_any users n G fr to A c V hV (by omega) (by omega) hz
  rw [ha] at CV
  have CV := Lib.hid CV
  have hcl := gCount_le (k := gK G fr to) n
  have h40 := (gCode_ok hz).2.1
  have CG := Lib.hid (fun V B B' d d' (h1 : IntsAt V B (gFilt G (gK G fr to) n)) (h2 : IntsAt V B' (gFilt G (gK G fr to) n)) => Givens_any _ _ (gCount (gK G fr to) n) (gCount (gK G fr to) n) (length_gFilt n) (length_gFilt n) B B' d d' V h1 h2 (by omega) (by omega) (r := true) (by simp))
  have CI := Lib.hid (fun V => Ints_below [] none none 0 0 V IntsAt.nil IntsAt.nil (by decide))
  have HE0 := Lib.hid (fun V (hV : Below w.heap.size w V) => (Error_is 0 0 true V (hE.next hV) (by decide) : Calls Tryd.prog 23 #[.nilIface, .int .i64 0] V _))
  have HE5 := Lib.hid (fun V (hV : Below w.heap.size w V) => (Error_is 5 5 true V (hE.next hV) (by decide) : Calls Tryd.prog 23 #[.iface 84 (.int .i64 5), .int .i64 5] V _))
  have t0 : decide (to < 0) = false := by simp; omega
  have t1 : decide (to ≥ users) = false := by simp; omega
  have f0 : decide (fr < 0) = false := by simp; omega
  have f1 : decide (fr ≥ users) = false := by simp; omega
  clear ht hf hp hr hz hE hh ha
  generalize gSet G n = s at *
  go_enter Tryd.func9, Tryd.ntmps9
  go_wp2_with fail
  refine (C1.out _ h).mono ?_
  rintro e w1 ⟨rfl, hb1⟩
  have hb01 := hb1
  go_wp2_with fail
  refine (C2.out _ (h.below hb01)).mono ?_
  rintro e w2 ⟨rfl, hb2⟩
  have hb02 := hb01.trans (hb2.mono hb01.size)
  go_wp2_with fail
  refine (HE0.out _ hb02).mono ?_
  rintro e w3 ⟨rfl, hb3⟩
  have hb03 := hb02.trans (hb3.mono hb02.size)
  go_wp2_with fail
  refine (CS.out _ (h.below hb03)).mono ?_
  rintro e w' ⟨rfl, rfl⟩
  go_wp2_with fail
  refine (C3.out _ (h.below hb03)).mono ?_
  rintro e w4 ⟨rfl, hb4⟩
  have hb04 := hb03.trans (hb4.mono hb03.size)
  go_wp2_with fail
  refine (HE0.out _ hb04).mono ?_
  rintro e w5 ⟨rfl, hb5⟩
  have hb05 := hb04.trans (hb5.mono hb04.size)
  go_wp2_with fail
  refine (CR.out _ (h.below hb05)).mono ?_
  rintro e w' ⟨rfl, rfl⟩
  go_wp2_with fail
  refine (C4.out _ (h.below hb05)).mono ?_
  rintro e w6 ⟨rfl, hb6⟩
  have hb06 := hb05.trans (hb6.mono hb05.size)
  go_wp2_with fail
  refine (HE5.out _ hb06).mono ?_
  rintro e w7 ⟨rfl, hb7⟩
  have hb07 := hb06.trans (hb7.mono hb06.size)
  go_wp2_with fail
  refine (CI.out _).mono ?_
  rintro e w8 ⟨rfl, hb8⟩
  have hb08 := hb07.trans (hb8.mono hb07.size)
  go_wp2_with fail
  refine (CV.out _ (h.below hb08)).mono ?_
  rintro e w9 ⟨⟨BV, dV, rfl, iV⟩, hb9⟩
  have hb09 := hb08.trans (hb9.mono hb08.size)
  go_wp2_with fail
  refine (C5.out _ (h.below hb09)).mono ?_
  rintro e w10 ⟨⟨B5, d5, rfl, hd5, i5⟩, hb10⟩
  have hb010 := hb09.trans (hb10.mono hb09.size)
  have iV := iV.below hb10
  go_wp2_with fail
  refine (HE0.out _ hb010).mono ?_
  rintro e w11 ⟨rfl, hb11⟩
  have hb011 := hb010.trans (hb11.mono hb010.size)
  have iV := iV.below hb11
  have i5 := i5.below hb11
  go_wp2_with fail
  refine (CG.out _ _ _ _ _ i5 iV).mono ?_
  rintro e w12 ⟨rfl, hb12⟩
  have hb012 := hb011.trans (hb12.mono hb011.size)
  go_wp2_with fail
  go_ret
  exact ⟨rfl, hb012⟩

set_option maxHeartbeats 4000000 in
theorem GrantSays_no_none (users : Int) (n : Nat) (G : List Int) (A : Option Addr) (c : Nat) (w : World) (hl : G.length = n * 3) (h : IntsAt w A G) (s3 : n * 3 < 2 ^ 47) (hcap : n ≤ c) (fr to : Int) (hz : gCode users G n = 0) (ht : 0 ≤ to ∧ to < users) (hh : gHeld G n to = false) (hf : 0 ≤ fr ∧ fr < users) (ha : (List.range n).any (gP G fr to) = false) (hE : ErrT w) :
    Calls Tryd.prog 9 #[.int .i64 users, .slice A n c, .int .i64 fr, .int .i64 to] w fun e w' => e = .returned (.bool true) ∧ Below w.heap.size w w' := by
  have hu := gCode_one hz
  have C1 := Lib.hid (fun V (hV : IntsAt V A G) => (RGivens_any users n G A c V hV (by omega) (by omega) hcap).mono fun e w' ⟨he, hb⟩ => (⟨by rw [he, hz]; rfl, hb⟩ : e = Ending.returned (.int .i64 0) ∧ Below V.heap.size V w'))
  have C2 := Lib.hid (fun V (hV : IntsAt V A G) => (GCheck_any users n G A c V hV (by omega) (by omega) hcap).mono fun e w' ⟨he, hb⟩ => (⟨by rw [he, hz]; rfl, hb⟩ : e = Ending.returned .nilIface ∧ Below V.heap.size V w'))
  have CS := Lib.hid (fun V (hV : IntsAt V A G) => RGranted_any n G A c V hV (by omega) (by omega) (gSet_ok hz))
  have C3 := Lib.hid (fun V (hV : IntsAt V A G) => GHolds_ok users n G A c V hV (by omega) (by omega) hcap hz)
  have hp : pCode users G n to = 5 := by unfold pCode; rw [if_pos hz, if_pos ht, hh]; rfl
  have C4 := Lib.hid (fun V (hV : IntsAt V A G) => GPath_bad users n G to A c V hV (by omega) (by omega) hcap hp (by decide))
  have CR := Lib.hid (fun V (hV : IntsAt V A G) => RGrantPath_no n G to A c V hV (by omega) (by omega) hh)
  have hr : rCode users G n fr to = 5 := by rw [rCode_of hz ⟨hf, ht⟩, ha]; rfl
  have C5 := Lib.hid (fun V (hV : IntsAt V A G) => GRevoke_bad users n G fr to A c V hV (by omega) (by omega) hcap hr (by decide))
  have CV := fun V (hV : IntsAt V A G) => RRevoked_any users n G fr to A c V hV (by omega) (by omega) hz
  rw [ha] at CV
  have CV := Lib.hid CV
  have CG := Lib.hid (fun V => Givens_any [] [] 0 0 rfl rfl none none 0 0 V IntsAt.nil IntsAt.nil (by decide) (by decide) (r := true) (by decide))
  have CI := Lib.hid (fun V => Ints_below [] none none 0 0 V IntsAt.nil IntsAt.nil (by decide))
  have HE0 := Lib.hid (fun V (hV : Below w.heap.size w V) => (Error_is 0 0 true V (hE.next hV) (by decide) : Calls Tryd.prog 23 #[.nilIface, .int .i64 0] V _))
  have HE5 := Lib.hid (fun V (hV : Below w.heap.size w V) => (Error_is 5 5 true V (hE.next hV) (by decide) : Calls Tryd.prog 23 #[.iface 84 (.int .i64 5), .int .i64 5] V _))
  have t0 : decide (to < 0) = false := by simp; omega
  have t1 : decide (to ≥ users) = false := by simp; omega
  have f0 : decide (fr < 0) = false := by simp; omega
  have f1 : decide (fr ≥ users) = false := by simp; omega
  clear ht hf hp hr hz hE hh ha
  generalize gSet G n = s at *
  go_enter Tryd.func9, Tryd.ntmps9
  go_wp2_with fail
  refine (C1.out _ h).mono ?_
  rintro e w1 ⟨rfl, hb1⟩
  have hb01 := hb1
  go_wp2_with fail
  refine (C2.out _ (h.below hb01)).mono ?_
  rintro e w2 ⟨rfl, hb2⟩
  have hb02 := hb01.trans (hb2.mono hb01.size)
  go_wp2_with fail
  refine (HE0.out _ hb02).mono ?_
  rintro e w3 ⟨rfl, hb3⟩
  have hb03 := hb02.trans (hb3.mono hb02.size)
  go_wp2_with fail
  refine (CS.out _ (h.below hb03)).mono ?_
  rintro e w' ⟨rfl, rfl⟩
  go_wp2_with fail
  refine (C3.out _ (h.below hb03)).mono ?_
  rintro e w4 ⟨rfl, hb4⟩
  have hb04 := hb03.trans (hb4.mono hb03.size)
  go_wp2_with fail
  refine (HE0.out _ hb04).mono ?_
  rintro e w5 ⟨rfl, hb5⟩
  have hb05 := hb04.trans (hb5.mono hb04.size)
  go_wp2_with fail
  refine (CR.out _ (h.below hb05)).mono ?_
  rintro e w' ⟨rfl, rfl⟩
  go_wp2_with fail
  refine (C4.out _ (h.below hb05)).mono ?_
  rintro e w6 ⟨rfl, hb6⟩
  have hb06 := hb05.trans (hb6.mono hb05.size)
  go_wp2_with fail
  refine (HE5.out _ hb06).mono ?_
  rintro e w7 ⟨rfl, hb7⟩
  have hb07 := hb06.trans (hb7.mono hb06.size)
  go_wp2_with fail
  refine (CI.out _).mono ?_
  rintro e w8 ⟨rfl, hb8⟩
  have hb08 := hb07.trans (hb8.mono hb07.size)
  go_wp2_with fail
  refine (CV.out _ (h.below hb08)).mono ?_
  rintro e w9 ⟨⟨BV, dV, rfl, iV⟩, hb9⟩
  have hb09 := hb08.trans (hb9.mono hb08.size)
  go_wp2_with fail
  refine (C5.out _ (h.below hb09)).mono ?_
  rintro e w10 ⟨rfl, hb10⟩
  have hb010 := hb09.trans (hb10.mono hb09.size)
  go_wp2_with fail
  refine (HE5.out _ hb010).mono ?_
  rintro e w11 ⟨rfl, hb11⟩
  have hb011 := hb010.trans (hb11.mono hb010.size)
  go_wp2_with fail
  refine (CG.out _).mono ?_
  rintro e w12 ⟨rfl, hb12⟩
  have hb012 := hb011.trans (hb12.mono hb011.size)
  go_wp2_with fail
  go_ret
  exact ⟨rfl, hb012⟩

set_option maxHeartbeats 4000000 in
theorem GrantSays_yes_neg (users : Int) (n : Nat) (G : List Int) (A : Option Addr) (c : Nat) (w : World) (hl : G.length = n * 3) (h : IntsAt w A G) (s3 : n * 3 < 2 ^ 47) (hcap : n ≤ c) (fr to : Int) (hz : gCode users G n = 0) (ht : 0 ≤ to ∧ to < users) (hh : gHeld G n to = true) (hf : fr < 0) (hE : ErrT w) :
    Calls Tryd.prog 9 #[.int .i64 users, .slice A n c, .int .i64 fr, .int .i64 to] w fun e w' => e = .returned (.bool true) ∧ Below w.heap.size w w' := by
  have hu := gCode_one hz
  have C1 := Lib.hid (fun V (hV : IntsAt V A G) => (RGivens_any users n G A c V hV (by omega) (by omega) hcap).mono fun e w' ⟨he, hb⟩ => (⟨by rw [he, hz]; rfl, hb⟩ : e = Ending.returned (.int .i64 0) ∧ Below V.heap.size V w'))
  have C2 := Lib.hid (fun V (hV : IntsAt V A G) => (GCheck_any users n G A c V hV (by omega) (by omega) hcap).mono fun e w' ⟨he, hb⟩ => (⟨by rw [he, hz]; rfl, hb⟩ : e = Ending.returned .nilIface ∧ Below V.heap.size V w'))
  have CS := Lib.hid (fun V (hV : IntsAt V A G) => RGranted_any n G A c V hV (by omega) (by omega) (gSet_ok hz))
  have C3 := Lib.hid (fun V (hV : IntsAt V A G) => GHolds_ok users n G A c V hV (by omega) (by omega) hcap hz)
  have hp : pCode users G n to = 0 := by unfold pCode; rw [if_pos hz, if_pos ht, hh]; rfl
  have C4 := Lib.hid (fun V (hV : IntsAt V A G) => GPath_ok users n G to A c V hV (by omega) (by omega) hcap hp)
  have CR := Lib.hid (fun V (hV : IntsAt V A G) => RGrantPath_yes (A := A) (c := c) hz (by omega) (by omega) hcap n (Nat.le_refl _) to V hV hh)
  have hr : rCode users G n fr to = 1 := by unfold rCode; rw [if_pos hz, if_neg (by omega)]
  have C5 := Lib.hid (fun V (hV : IntsAt V A G) => GRevoke_bad users n G fr to A c V hV (by omega) (by omega) hcap hr (by decide))
  have CG := Lib.hid (fun V => Givens_any [] [] 0 0 rfl rfl none none 0 0 V IntsAt.nil IntsAt.nil (by decide) (by decide) (r := true) (by decide))
  have HE0 := Lib.hid (fun V (hV : Below w.heap.size w V) => (Error_is 0 0 true V (hE.next hV) (by decide) : Calls Tryd.prog 23 #[.nilIface, .int .i64 0] V _))
  have HE1 := Lib.hid (fun V (hV : Below w.heap.size w V) => (Error_is 1 1 true V (hE.next hV) (by decide) : Calls Tryd.prog 23 #[.iface 84 (.int .i64 1), .int .i64 1] V _))
  have t0 : decide (to < 0) = false := by simp; omega
  have t1 : decide (to ≥ users) = false := by simp; omega
  have f0 : decide (fr < 0) = true := by simpa using hf
  clear ht hf hp hr hz hE hh
  generalize gSet G n = s at *
  go_enter Tryd.func9, Tryd.ntmps9
  go_wp2_with fail
  refine (C1.out _ h).mono ?_
  rintro e w1 ⟨rfl, hb1⟩
  have hb01 := hb1
  go_wp2_with fail
  refine (C2.out _ (h.below hb01)).mono ?_
  rintro e w2 ⟨rfl, hb2⟩
  have hb02 := hb01.trans (hb2.mono hb01.size)
  go_wp2_with fail
  refine (HE0.out _ hb02).mono ?_
  rintro e w3 ⟨rfl, hb3⟩
  have hb03 := hb02.trans (hb3.mono hb02.size)
  go_wp2_with fail
  refine (CS.out _ (h.below hb03)).mono ?_
  rintro e w' ⟨rfl, rfl⟩
  go_wp2_with fail
  refine (C3.out _ (h.below hb03)).mono ?_
  rintro e w4 ⟨rfl, hb4⟩
  have hb04 := hb03.trans (hb4.mono hb03.size)
  go_wp2_with fail
  refine (HE0.out _ hb04).mono ?_
  rintro e w5 ⟨rfl, hb5⟩
  have hb05 := hb04.trans (hb5.mono hb04.size)
  go_wp2_with fail
  refine (CR.out _ (h.below hb05)).mono ?_
  rintro e w6 ⟨⟨v, p, rfl, ho, hw⟩, hb6⟩
  have hb06 := hb05.trans (hb6.mono hb05.size)
  have hpl := hw.len
  have h41 := List.length_pos_iff.2 hw.ne
  obtain ⟨Av, cv, rfl, iv⟩ := ho.form
  clear ho
  have e0 : decide (p.length = 0) = false := decide_eq_false (by omega)
  have e1 : decide ((p.length : Int) = 0) = false := decide_eq_false (by omega)
  go_wp2_with fail
  refine (C4.out _ (h.below hb06)).mono ?_
  rintro e w7 ⟨⟨B4, d4, p4, rfl, hw4, i4⟩, hb7⟩
  have hb07 := hb06.trans (hb7.mono hb06.size)
  have hpp := hw.one hw4
  subst hpp
  have iv := iv.below hb7
  have CI := Lib.hid (fun V (h1 : IntsAt V B4 p) (h2 : IntsAt V Av p) => Ints_below p B4 Av d4 cv V h1 h2 (by omega))
  go_wp2_with fail
  refine (HE0.out _ hb07).mono ?_
  rintro e w8 ⟨rfl, hb8⟩
  have hb08 := hb07.trans (hb8.mono hb07.size)
  have iv := iv.below hb8
  have i4 := i4.below hb8
  go_wp2_with fail
  refine (CI.out _ i4 iv).mono ?_
  rintro e w9 ⟨rfl, hb9⟩
  have hb09 := hb08.trans (hb9.mono hb08.size)
  go_wp2_with fail
  refine (C5.out _ (h.below hb09)).mono ?_
  rintro e w10 ⟨rfl, hb10⟩
  have hb010 := hb09.trans (hb10.mono hb09.size)
  go_wp2_with fail
  refine (HE1.out _ hb010).mono ?_
  rintro e w11 ⟨rfl, hb11⟩
  have hb011 := hb010.trans (hb11.mono hb010.size)
  go_wp2_with fail
  refine (CG.out _).mono ?_
  rintro e w12 ⟨rfl, hb12⟩
  have hb012 := hb011.trans (hb12.mono hb011.size)
  go_wp2_with fail
  go_ret
  exact ⟨rfl, hb012⟩

set_option maxHeartbeats 4000000 in
theorem GrantSays_yes_big (users : Int) (n : Nat) (G : List Int) (A : Option Addr) (c : Nat) (w : World) (hl : G.length = n * 3) (h : IntsAt w A G) (s3 : n * 3 < 2 ^ 47) (hcap : n ≤ c) (fr to : Int) (hz : gCode users G n = 0) (ht : 0 ≤ to ∧ to < users) (hh : gHeld G n to = true) (hf : users ≤ fr) (hE : ErrT w) :
    Calls Tryd.prog 9 #[.int .i64 users, .slice A n c, .int .i64 fr, .int .i64 to] w fun e w' => e = .returned (.bool true) ∧ Below w.heap.size w w' := by
  have hu := gCode_one hz
  have C1 := Lib.hid (fun V (hV : IntsAt V A G) => (RGivens_any users n G A c V hV (by omega) (by omega) hcap).mono fun e w' ⟨he, hb⟩ => (⟨by rw [he, hz]; rfl, hb⟩ : e = Ending.returned (.int .i64 0) ∧ Below V.heap.size V w'))
  have C2 := Lib.hid (fun V (hV : IntsAt V A G) => (GCheck_any users n G A c V hV (by omega) (by omega) hcap).mono fun e w' ⟨he, hb⟩ => (⟨by rw [he, hz]; rfl, hb⟩ : e = Ending.returned .nilIface ∧ Below V.heap.size V w'))
  have CS := Lib.hid (fun V (hV : IntsAt V A G) => RGranted_any n G A c V hV (by omega) (by omega) (gSet_ok hz))
  have C3 := Lib.hid (fun V (hV : IntsAt V A G) => GHolds_ok users n G A c V hV (by omega) (by omega) hcap hz)
  have hp : pCode users G n to = 0 := by unfold pCode; rw [if_pos hz, if_pos ht, hh]; rfl
  have C4 := Lib.hid (fun V (hV : IntsAt V A G) => GPath_ok users n G to A c V hV (by omega) (by omega) hcap hp)
  have CR := Lib.hid (fun V (hV : IntsAt V A G) => RGrantPath_yes (A := A) (c := c) hz (by omega) (by omega) hcap n (Nat.le_refl _) to V hV hh)
  have hr : rCode users G n fr to = 1 := by unfold rCode; rw [if_pos hz, if_neg (by omega)]
  have C5 := Lib.hid (fun V (hV : IntsAt V A G) => GRevoke_bad users n G fr to A c V hV (by omega) (by omega) hcap hr (by decide))
  have CG := Lib.hid (fun V => Givens_any [] [] 0 0 rfl rfl none none 0 0 V IntsAt.nil IntsAt.nil (by decide) (by decide) (r := true) (by decide))
  have HE0 := Lib.hid (fun V (hV : Below w.heap.size w V) => (Error_is 0 0 true V (hE.next hV) (by decide) : Calls Tryd.prog 23 #[.nilIface, .int .i64 0] V _))
  have HE1 := Lib.hid (fun V (hV : Below w.heap.size w V) => (Error_is 1 1 true V (hE.next hV) (by decide) : Calls Tryd.prog 23 #[.iface 84 (.int .i64 1), .int .i64 1] V _))
  have t0 : decide (to < 0) = false := by simp; omega
  have t1 : decide (to ≥ users) = false := by simp; omega
  have f0 : decide (fr < 0) = false := by simp; omega
  have f1 : decide (fr ≥ users) = true := by simp; omega
  clear ht hf hp hr hz hE hh
  generalize gSet G n = s at *
  go_enter Tryd.func9, Tryd.ntmps9
  go_wp2_with fail
  refine (C1.out _ h).mono ?_
  rintro e w1 ⟨rfl, hb1⟩
  have hb01 := hb1
  go_wp2_with fail
  refine (C2.out _ (h.below hb01)).mono ?_
  rintro e w2 ⟨rfl, hb2⟩
  have hb02 := hb01.trans (hb2.mono hb01.size)
  go_wp2_with fail
  refine (HE0.out _ hb02).mono ?_
  rintro e w3 ⟨rfl, hb3⟩
  have hb03 := hb02.trans (hb3.mono hb02.size)
  go_wp2_with fail
  refine (CS.out _ (h.below hb03)).mono ?_
  rintro e w' ⟨rfl, rfl⟩
  go_wp2_with fail
  refine (C3.out _ (h.below hb03)).mono ?_
  rintro e w4 ⟨rfl, hb4⟩
  have hb04 := hb03.trans (hb4.mono hb03.size)
  go_wp2_with fail
  refine (HE0.out _ hb04).mono ?_
  rintro e w5 ⟨rfl, hb5⟩
  have hb05 := hb04.trans (hb5.mono hb04.size)
  go_wp2_with fail
  refine (CR.out _ (h.below hb05)).mono ?_
  rintro e w6 ⟨⟨v, p, rfl, ho, hw⟩, hb6⟩
  have hb06 := hb05.trans (hb6.mono hb05.size)
  have hpl := hw.len
  have h41 := List.length_pos_iff.2 hw.ne
  obtain ⟨Av, cv, rfl, iv⟩ := ho.form
  clear ho
  have e0 : decide (p.length = 0) = false := decide_eq_false (by omega)
  have e1 : decide ((p.length : Int) = 0) = false := decide_eq_false (by omega)
  go_wp2_with fail
  refine (C4.out _ (h.below hb06)).mono ?_
  rintro e w7 ⟨⟨B4, d4, p4, rfl, hw4, i4⟩, hb7⟩
  have hb07 := hb06.trans (hb7.mono hb06.size)
  have hpp := hw.one hw4
  subst hpp
  have iv := iv.below hb7
  have CI := Lib.hid (fun V (h1 : IntsAt V B4 p) (h2 : IntsAt V Av p) => Ints_below p B4 Av d4 cv V h1 h2 (by omega))
  go_wp2_with fail
  refine (HE0.out _ hb07).mono ?_
  rintro e w8 ⟨rfl, hb8⟩
  have hb08 := hb07.trans (hb8.mono hb07.size)
  have iv := iv.below hb8
  have i4 := i4.below hb8
  go_wp2_with fail
  refine (CI.out _ i4 iv).mono ?_
  rintro e w9 ⟨rfl, hb9⟩
  have hb09 := hb08.trans (hb9.mono hb08.size)
  go_wp2_with fail
  refine (C5.out _ (h.below hb09)).mono ?_
  rintro e w10 ⟨rfl, hb10⟩
  have hb010 := hb09.trans (hb10.mono hb09.size)
  go_wp2_with fail
  refine (HE1.out _ hb010).mono ?_
  rintro e w11 ⟨rfl, hb11⟩
  have hb011 := hb010.trans (hb11.mono hb010.size)
  go_wp2_with fail
  refine (CG.out _).mono ?_
  rintro e w12 ⟨rfl, hb12⟩
  have hb012 := hb011.trans (hb12.mono hb011.size)
  go_wp2_with fail
  go_ret
  exact ⟨rfl, hb012⟩

set_option maxHeartbeats 4000000 in
theorem GrantSays_yes_found (users : Int) (n : Nat) (G : List Int) (A : Option Addr) (c : Nat) (w : World) (hl : G.length = n * 3) (h : IntsAt w A G) (s3 : n * 3 < 2 ^ 47) (hcap : n ≤ c) (fr to : Int) (hz : gCode users G n = 0) (ht : 0 ≤ to ∧ to < users) (hh : gHeld G n to = true) (hf : 0 ≤ fr ∧ fr < users) (ha : (List.range n).any (gP G fr to) = true) (hE : ErrT w) :
    Calls Tryd.prog 9 #[.int .i64 users, .slice A n c, .int .i64 fr, .int .i64 to] w fun e w' => e = .returned (.bool true) ∧ Below w.heap.size w w' := by
  have hu := gCode_one hz
  have C1 := Lib.hid (fun V (hV : IntsAt V A G) => (RGivens_any users n G A c V hV (by omega) (by omega) hcap).mono fun e w' ⟨he, hb⟩ => (⟨by rw [he, hz]; rfl, hb⟩ : e = Ending.returned (.int .i64 0) ∧ Below V.heap.size V w'))
  have C2 := Lib.hid (fun V (hV : IntsAt V A G) => (GCheck_any users n G A c V hV (by omega) (by omega) hcap).mono fun e w' ⟨he, hb⟩ => (⟨by rw [he, hz]; rfl, hb⟩ : e = Ending.returned .nilIface ∧ Below V.heap.size V w'))
  have CS := Lib.hid (fun V (hV : IntsAt V A G) => RGranted_any n G A c V hV (by omega) (by omega) (gSet_ok hz))
  have C3 := Lib.hid (fun V (hV : IntsAt V A G) => GHolds_ok users n G A c V hV (by omega) (by omega) hcap hz)
  have hp : pCode users G n to = 0 := by unfold pCode; rw [if_pos hz, if_pos ht, hh]; rfl
  have C4 := Lib.hid (fun V (hV : IntsAt V A G) => GPath_ok users n G to A c V hV (by omega) (by omega) hcap hp)
  have CR := Lib.hid (fun V (hV : IntsAt V A G) => RGrantPath_yes (A := A) (c := c) hz (by omega) (by omega) hcap n (Nat.le_refl _) to V hV hh)
  have hr : rCode users G n fr to = 0 := by rw [rCode_of hz ⟨hf, ht⟩, ha]; rfl
  have C5 := Lib.hid (fun V (hV : IntsAt V A G) => GRevoke_ok users n G fr to A c V hV (by omega) (by omega) hcap hr)
  have CV := fun V (hV : IntsAt V A G) => RRevoked_any users n G fr to A c V hV (by omega) (by omega) hz
  rw [ha] at CV
  have CV := Lib.hid CV
  have hcl := gCount_le (k := gK G fr to) n
  have h40 := (gCode_ok hz).2.1
  have CG := Lib.hid (fun V B B' d d' (h1 : IntsAt V B (gFilt G (gK G fr to) n)) (h2 : IntsAt V B' (gFilt G (gK G fr to) n)) => Givens_any _ _ (gCount (gK G fr to) n) (gCount (gK G fr to) n) (length_gFilt n) (length_gFilt n) B B' d d' V h1 h2 (by omega) (by omega) (r := true) (by simp))
  have HE0 := Lib.hid (fun V (hV : Below w.heap.size w V) => (Error_is 0 0 true V (hE.next hV) (by decide) : Calls Tryd.prog 23 #[.nilIface, .int .i64 0] V _))
  have t0 : decide (to < 0) = false := by simp; omega
  have t1 : decide (to ≥ users) = false := by simp; omega
  have f0 : decide (fr < 0) = false := by simp; omega
  have f1 : decide (fr ≥ users) = false := by simp; omega
  clear ht hf hp hr hz hE hh ha
  generalize gSet G n = s at *
  go_enter Tryd.func9, Tryd.ntmps9
  go_wp2_with fail
  refine (C1.out _ h).mono ?_
  rintro e w1 ⟨rfl, hb1⟩
  have hb01 := hb1
  go_wp2_with fail
  refine (C2.out _ (h.below hb01)).mono ?_
  rintro e w2 ⟨rfl, hb2⟩
  have hb02 := hb01.trans (hb2.mono hb01.size)
  go_wp2_with fail
  refine (HE0.out _ hb02).mono ?_
  rintro e w3 ⟨rfl, hb3⟩
  have hb03 := hb02.trans (hb3.mono hb02.size)
  go_wp2_with fail
  refine (CS.out _ (h.below hb03)).mono ?_
  rintro e w' ⟨rfl, rfl⟩
  go_wp2_with fail
  refine (C3.out _ (h.below hb03)).mono ?_
  rintro e w4 ⟨rfl, hb4⟩
  have hb04 := hb03.trans (hb4.mono hb03.size)
  go_wp2_with fail
  refine (HE0.out _ hb04).mono ?_
  rintro e w5 ⟨rfl, hb5⟩
  have hb05 := hb04.trans (hb5.mono hb04.size)
  go_wp2_with fail
  refine (CR.out _ (h.below hb05)).mono ?_
  rintro e w6 ⟨⟨v, p, rfl, ho, hw⟩, hb6⟩
  have hb06 := hb05.trans (hb6.mono hb05.size)
  have hpl := hw.len
  have h41 := List.length_pos_iff.2 hw.ne
  obtain ⟨Av, cv, rfl, iv⟩ := ho.form
  clear ho
  have e0 : decide (p.length = 0) = false := decide_eq_false (by omega)
  have e1 : decide ((p.length : Int) = 0) = false := decide_eq_false (by omega)
  go_wp2_with fail
  refine (C4.out _ (h.below hb06)).mono ?_
  rintro e w7 ⟨⟨B4, d4, p4, rfl, hw4, i4⟩, hb7⟩
  have hb07 := hb06.trans (hb7.mono hb06.size)
  have hpp := hw.one hw4
  subst hpp
  have iv := iv.below hb7
  have CI := Lib.hid (fun V (h1 : IntsAt V B4 p) (h2 : IntsAt V Av p) => Ints_below p B4 Av d4 cv V h1 h2 (by omega))
  go_wp2_with fail
  refine (HE0.out _ hb07).mono ?_
  rintro e w8 ⟨rfl, hb8⟩
  have hb08 := hb07.trans (hb8.mono hb07.size)
  have iv := iv.below hb8
  have i4 := i4.below hb8
  go_wp2_with fail
  refine (CI.out _ i4 iv).mono ?_
  rintro e w9 ⟨rfl, hb9⟩
  have hb09 := hb08.trans (hb9.mono hb08.size)
  go_wp2_with fail
  refine (CV.out _ (h.below hb09)).mono ?_
  rintro e w10 ⟨⟨BV, dV, rfl, iV⟩, hb10⟩
  have hb010 := hb09.trans (hb10.mono hb09.size)
  go_wp2_with fail
  refine (C5.out _ (h.below hb010)).mono ?_
  rintro e w11 ⟨⟨B5, d5, rfl, hd5, i5⟩, hb11⟩
  have hb011 := hb010.trans (hb11.mono hb010.size)
  have iV := iV.below hb11
  go_wp2_with fail
  refine (HE0.out _ hb011).mono ?_
  rintro e w12 ⟨rfl, hb12⟩
  have hb012 := hb011.trans (hb12.mono hb011.size)
  have iV := iV.below hb12
  have i5 := i5.below hb12
  go_wp2_with fail
  refine (CG.out _ _ _ _ _ i5 iV).mono ?_
  rintro e w13 ⟨rfl, hb13⟩
  have hb013 := hb012.trans (hb13.mono hb012.size)
  go_wp2_with fail
  go_ret
  exact ⟨rfl, hb013⟩

set_option maxHeartbeats 4000000 in
theorem GrantSays_yes_none (users : Int) (n : Nat) (G : List Int) (A : Option Addr) (c : Nat) (w : World) (hl : G.length = n * 3) (h : IntsAt w A G) (s3 : n * 3 < 2 ^ 47) (hcap : n ≤ c) (fr to : Int) (hz : gCode users G n = 0) (ht : 0 ≤ to ∧ to < users) (hh : gHeld G n to = true) (hf : 0 ≤ fr ∧ fr < users) (ha : (List.range n).any (gP G fr to) = false) (hE : ErrT w) :
    Calls Tryd.prog 9 #[.int .i64 users, .slice A n c, .int .i64 fr, .int .i64 to] w fun e w' => e = .returned (.bool true) ∧ Below w.heap.size w w' := by
  have hu := gCode_one hz
  have C1 := Lib.hid (fun V (hV : IntsAt V A G) => (RGivens_any users n G A c V hV (by omega) (by omega) hcap).mono fun e w' ⟨he, hb⟩ => (⟨by rw [he, hz]; rfl, hb⟩ : e = Ending.returned (.int .i64 0) ∧ Below V.heap.size V w'))
  have C2 := Lib.hid (fun V (hV : IntsAt V A G) => (GCheck_any users n G A c V hV (by omega) (by omega) hcap).mono fun e w' ⟨he, hb⟩ => (⟨by rw [he, hz]; rfl, hb⟩ : e = Ending.returned .nilIface ∧ Below V.heap.size V w'))
  have CS := Lib.hid (fun V (hV : IntsAt V A G) => RGranted_any n G A c V hV (by omega) (by omega) (gSet_ok hz))
  have C3 := Lib.hid (fun V (hV : IntsAt V A G) => GHolds_ok users n G A c V hV (by omega) (by omega) hcap hz)
  have hp : pCode users G n to = 0 := by unfold pCode; rw [if_pos hz, if_pos ht, hh]; rfl
  have C4 := Lib.hid (fun V (hV : IntsAt V A G) => GPath_ok users n G to A c V hV (by omega) (by omega) hcap hp)
  have CR := Lib.hid (fun V (hV : IntsAt V A G) => RGrantPath_yes (A := A) (c := c) hz (by omega) (by omega) hcap n (Nat.le_refl _) to V hV hh)
  have hr : rCode users G n fr to = 5 := by rw [rCode_of hz ⟨hf, ht⟩, ha]; rfl
  have C5 := Lib.hid (fun V (hV : IntsAt V A G) => GRevoke_bad users n G fr to A c V hV (by omega) (by omega) hcap hr (by decide))
  have CV := fun V (hV : IntsAt V A G) => RRevoked_any users n G fr to A c V hV (by omega) (by omega) hz
  rw [ha] at CV
  have CV := Lib.hid CV
  have CG := Lib.hid (fun V => Givens_any [] [] 0 0 rfl rfl none none 0 0 V IntsAt.nil IntsAt.nil (by decide) (by decide) (r := true) (by decide))
  have HE0 := Lib.hid (fun V (hV : Below w.heap.size w V) => (Error_is 0 0 true V (hE.next hV) (by decide) : Calls Tryd.prog 23 #[.nilIface, .int .i64 0] V _))
  have HE5 := Lib.hid (fun V (hV : Below w.heap.size w V) => (Error_is 5 5 true V (hE.next hV) (by decide) : Calls Tryd.prog 23 #[.iface 84 (.int .i64 5), .int .i64 5] V _))
  have t0 : decide (to < 0) = false := by simp; omega
  have t1 : decide (to ≥ users) = false := by simp; omega
  have f0 : decide (fr < 0) = false := by simp; omega
  have f1 : decide (fr ≥ users) = false := by simp; omega
  clear ht hf hp hr hz hE hh ha
  generalize gSet G n = s at *
  go_enter Tryd.func9, Tryd.ntmps9
  go_wp2_with fail
  refine (C1.out _ h).mono ?_
  rintro e w1 ⟨rfl, hb1⟩
  have hb01 := hb1
  go_wp2_with fail
  refine (C2.out _ (h.below hb01)).mono ?_
  rintro e w2 ⟨rfl, hb2⟩
  have hb02 := hb01.trans (hb2.mono hb01.size)
  go_wp2_with fail
  refine (HE0.out _ hb02).mono ?_
  rintro e w3 ⟨rfl, hb3⟩
  have hb03 := hb02.trans (hb3.mono hb02.size)
  go_wp2_with fail
  refine (CS.out _ (h.below hb03)).mono ?_
  rintro e w' ⟨rfl, rfl⟩
  go_wp2_with fail
  refine (C3.out _ (h.below hb03)).mono ?_
  rintro e w4 ⟨rfl, hb4⟩
  have hb04 := hb03.trans (hb4.mono hb03.size)
  go_wp2_with fail
  refine (HE0.out _ hb04).mono ?_
  rintro e w5 ⟨rfl, hb5⟩
  have hb05 := hb04.trans (hb5.mono hb04.size)
  go_wp2_with fail
  refine (CR.out _ (h.below hb05)).mono ?_
  rintro e w6 ⟨⟨v, p, rfl, ho, hw⟩, hb6⟩
  have hb06 := hb05.trans (hb6.mono hb05.size)
  have hpl := hw.len
  have h41 := List.length_pos_iff.2 hw.ne
  obtain ⟨Av, cv, rfl, iv⟩ := ho.form
  clear ho
  have e0 : decide (p.length = 0) = false := decide_eq_false (by omega)
  have e1 : decide ((p.length : Int) = 0) = false := decide_eq_false (by omega)
  go_wp2_with fail
  refine (C4.out _ (h.below hb06)).mono ?_
  rintro e w7 ⟨⟨B4, d4, p4, rfl, hw4, i4⟩, hb7⟩
  have hb07 := hb06.trans (hb7.mono hb06.size)
  have hpp := hw.one hw4
  subst hpp
  have iv := iv.below hb7
  have CI := Lib.hid (fun V (h1 : IntsAt V B4 p) (h2 : IntsAt V Av p) => Ints_below p B4 Av d4 cv V h1 h2 (by omega))
  go_wp2_with fail
  refine (HE0.out _ hb07).mono ?_
  rintro e w8 ⟨rfl, hb8⟩
  have hb08 := hb07.trans (hb8.mono hb07.size)
  have iv := iv.below hb8
  have i4 := i4.below hb8
  go_wp2_with fail
  refine (CI.out _ i4 iv).mono ?_
  rintro e w9 ⟨rfl, hb9⟩
  have hb09 := hb08.trans (hb9.mono hb08.size)
  go_wp2_with fail
  refine (CV.out _ (h.below hb09)).mono ?_
  rintro e w10 ⟨⟨BV, dV, rfl, iV⟩, hb10⟩
  have hb010 := hb09.trans (hb10.mono hb09.size)
  go_wp2_with fail
  refine (C5.out _ (h.below hb010)).mono ?_
  rintro e w11 ⟨rfl, hb11⟩
  have hb011 := hb010.trans (hb11.mono hb010.size)
  go_wp2_with fail
  refine (HE5.out _ hb011).mono ?_
  rintro e w12 ⟨rfl, hb12⟩
  have hb012 := hb011.trans (hb12.mono hb011.size)
  go_wp2_with fail
  refine (CG.out _).mono ?_
  rintro e w13 ⟨rfl, hb13⟩
  have hb013 := hb012.trans (hb13.mono hb012.size)
  go_wp2_with fail
  go_ret
  exact ⟨rfl, hb013⟩
end Go.Proofs.YtdnkknggnhihgaaDoor
