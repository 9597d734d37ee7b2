/-
  The walk of RolesSays, by cases (printed by rolessays.py).
-/
import Derived.Test.YtpfmllpodjcldaaDoorRoleT
import Derived.Test.YtpfmllpodjcldaaDoorRoleS
import Derived.Test.YtpfmllpodjcldaaDoorAs
import Derived.Lib.QuietBelow
namespace Go.Proofs.YtpfmllpodjcldaaDoor
open Go.RowKit
set_option maxRecDepth 100000
set_option linter.unusedVariables false

set_option maxHeartbeats 4000000 in
theorem RolesSays_bad (U A M : List Int) (Au Aa Am : Option Addr) (cu ca cm : Nat) (few most : Int) {w : World} (hU : IntsAt w Au U) (hA : IntsAt w Aa A) (hM : IntsAt w Am M) (sU : U.length < 2 ^ 64) (sA : A.length < 2 ^ 64) (sM : M.length < 2 ^ 64) (user want : Int) {kk : Nat} (hk : rolesCode U A M few most = kk) (hne : kk ≠ 0) (hT : Tab w) (hE : ErrT w) :
    Calls Tryd.prog 5 #[.agg #[.slice Au U.length cu, .slice Aa A.length ca, .slice Am M.length cm, .int .i64 few, .int .i64 most], .int .i64 user, .int .i64 want] w fun e w' => e = .returned (.bool true) ∧ Below w.heap.size w w' := by
  have hh : hasCode U A M few most user = kk := by unfold hasCode; rw [if_neg (by rw [hk]; exact hne), hk]
  have hn : needCode0 U A M few most user want = kk := by unfold needCode0; rw [if_neg (by rw [hk]; exact hne), hk]
  have hb00 : Below w.heap.size w (w.alloc (.cells #[.slice Au U.length cu, .slice Aa A.length ca, .slice Am M.length cm, .int .i64 few, .int .i64 most] 47)) := (Below.refl _ _).alloc (Nat.le_refl _) _
  have hx0 := BoxN.new w 47 #[.slice Au U.length cu, .slice Aa A.length ca, .slice Am M.length cm, .int .i64 few, .int .i64 most]
  have C1 := Lib.hid (fun V (hV : Below w.heap.size w V) => (RRoles_any (cu := cu) (ca := ca) (cm := cm) (few := few) (most := most) (hU.below hV) (hA.below hV) (hM.below hV) sU sA sM (hT.next hV)).mono fun e w' ⟨he, hx⟩ => (⟨he, hx, hV.trans (hx.mono hV.size)⟩ : _ ∧ Below V.heap.size V w' ∧ Below w.heap.size w w'))
  have C2 := Lib.hid (fun V (hV : Below w.heap.size w V) => (RCheck_any (cu := cu) (ca := ca) (cm := cm) (few := few) (most := most) (hU.below hV) (hA.below hV) (hM.below hV) sU sA sM (hT.next hV)).mono fun e w' ⟨he, hx⟩ => (⟨he, hx, hV.trans (hx.mono hV.size)⟩ : _ ∧ Below V.heap.size V w' ∧ Below w.heap.size w w'))
  have CE := Lib.hid (fun V (hV : Below w.heap.size w V) => (Error_is kk kk true V (hE.next hV) (by simp)).mono fun e w' ⟨he, hx⟩ => (⟨he, hx, hV.trans (hx.mono hV.size)⟩ : _ ∧ Below V.heap.size V w' ∧ Below w.heap.size w w'))
  have CH := Lib.hid (fun V (hV : Below w.heap.size w V) => (RHas_bad (cu := cu) (ca := ca) (cm := cm) (hU.below hV) (hA.below hV) (hM.below hV) sU sA sM (hT.next hV) hh hne).mono fun e w' ⟨he, hx⟩ => (⟨he, hx, hV.trans (hx.mono hV.size)⟩ : _ ∧ Below V.heap.size V w' ∧ Below w.heap.size w w'))
  have CM := Lib.hid (fun V (hV : Below w.heap.size w V) => (RMay_bad (cu := cu) (ca := ca) (cm := cm) (hU.below hV) (hA.below hV) (hM.below hV) sU sA sM (hT.next hV) hh hne).mono fun e w' ⟨he, hx⟩ => (⟨he, hx, hV.trans (hx.mono hV.size)⟩ : _ ∧ Below V.heap.size V w' ∧ Below w.heap.size w w'))
  have CN := Lib.hid (fun V (hV : Below w.heap.size w V) => (RNeed_bad (cu := cu) (ca := ca) (cm := cm) (hU.below hV) (hA.below hV) (hM.below hV) sU sA sM (hT.next hV) hn hne).mono fun e w' ⟨he, hx⟩ => (⟨he, hx, hV.trans (hx.mono hV.size)⟩ : _ ∧ Below V.heap.size V w' ∧ Below w.heap.size w w'))
  rw [hk] at C1 C2
  have hev := errVal_pos hne
  rw [hev] at C2 CE
  have dk : ((kk : Int) == 0) = false := by simp; omega
  clear hU hA hM hT hE hh hn hk hev hne
  generalize U.length = m at *
  generalize A.length = n at *
  generalize M.length = k at *
  go_enter Tryd.func5, Tryd.ntmps5
  go_wp2_with fail
  refine (C1.out _ hb00).mono ?_
  rintro e w1 ⟨rfl, hb1, hb01⟩
  have hx1 := hx0.all hb1
  have e0 : w1.cell? ⟨w.heap.size, 0, none⟩ = some (.slice Au m cu) := hx1.cell rfl
  have e1 : w1.cell? ⟨w.heap.size, 1, none⟩ = some (.slice Aa n ca) := hx1.cell rfl
  have e2 : w1.cell? ⟨w.heap.size, 2, none⟩ = some (.slice Am k cm) := hx1.cell rfl
  have e3 : w1.cell? ⟨w.heap.size, 3, none⟩ = some (.int .i64 few) := hx1.cell rfl
  have e4 : w1.cell? ⟨w.heap.size, 4, none⟩ = some (.int .i64 most) := hx1.cell rfl
  go_wp2_with fail
  refine (C2.out _ hb01).mono ?_
  rintro e w2 ⟨rfl, hb2, hb02⟩
  have hx2 := hx1.all hb2
  clear e0 e1 e2 e3 e4
  have e0 : w2.cell? ⟨w.heap.size, 0, none⟩ = some (.slice Au m cu) := hx2.cell rfl
  have e1 : w2.cell? ⟨w.heap.size, 1, none⟩ = some (.slice Aa n ca) := hx2.cell rfl
  have e2 : w2.cell? ⟨w.heap.size, 2, none⟩ = some (.slice Am k cm) := hx2.cell rfl
  have e3 : w2.cell? ⟨w.heap.size, 3, none⟩ = some (.int .i64 few) := hx2.cell rfl
  have e4 : w2.cell? ⟨w.heap.size, 4, none⟩ = some (.int .i64 most) := hx2.cell rfl
  go_wp2_with fail
  refine (CE.out _ hb02).mono ?_
  rintro e w3 ⟨rfl, hb3, hb03⟩
  have hx3 := hx2.all hb3
  clear e0 e1 e2 e3 e4
  have e0 : w3.cell? ⟨w.heap.size, 0, none⟩ = some (.slice Au m cu) := hx3.cell rfl
  have e1 : w3.cell? ⟨w.heap.size, 1, none⟩ = some (.slice Aa n ca) := hx3.cell rfl
  have e2 : w3.cell? ⟨w.heap.size, 2, none⟩ = some (.slice Am k cm) := hx3.cell rfl
  have e3 : w3.cell? ⟨w.heap.size, 3, none⟩ = some (.int .i64 few) := hx3.cell rfl
  have e4 : w3.cell? ⟨w.heap.size, 4, none⟩ = some (.int .i64 most) := hx3.cell rfl
  go_wp2_with fail
  refine (CH.out _ hb03).mono ?_
  rintro e w4 ⟨rfl, hb4, hb04⟩
  have hx4 := hx3.all hb4
  clear e0 e1 e2 e3 e4
  have e0 : w4.cell? ⟨w.heap.size, 0, none⟩ = some (.slice Au m cu) := hx4.cell rfl
  have e1 : w4.cell? ⟨w.heap.size, 1, none⟩ = some (.slice Aa n ca) := hx4.cell rfl
  have e2 : w4.cell? ⟨w.heap.size, 2, none⟩ = some (.slice Am k cm) := hx4.cell rfl
  have e3 : w4.cell? ⟨w.heap.size, 3, none⟩ = some (.int .i64 few) := hx4.cell rfl
  have e4 : w4.cell? ⟨w.heap.size, 4, none⟩ = some (.int .i64 most) := hx4.cell rfl
  go_wp2_with fail
  refine (CE.out _ hb04).mono ?_
  rintro e w5 ⟨rfl, hb5, hb05⟩
  have hx5 := hx4.all hb5
  clear e0 e1 e2 e3 e4
  have e0 : w5.cell? ⟨w.heap.size, 0, none⟩ = some (.slice Au m cu) := hx5.cell rfl
  have e1 : w5.cell? ⟨w.heap.size, 1, none⟩ = some (.slice Aa n ca) := hx5.cell rfl
  have e2 : w5.cell? ⟨w.heap.size, 2, none⟩ = some (.slice Am k cm) := hx5.cell rfl
  have e3 : w5.cell? ⟨w.heap.size, 3, none⟩ = some (.int .i64 few) := hx5.cell rfl
  have e4 : w5.cell? ⟨w.heap.size, 4, none⟩ = some (.int .i64 most) := hx5.cell rfl
  go_wp2_with fail
  refine (CM.out _ hb05).mono ?_
  rintro e w6 ⟨rfl, hb6, hb06⟩
  have hx6 := hx5.all hb6
  clear e0 e1 e2 e3 e4
  have e0 : w6.cell? ⟨w.heap.size, 0, none⟩ = some (.slice Au m cu) := hx6.cell rfl
  have e1 : w6.cell? ⟨w.heap.size, 1, none⟩ = some (.slice Aa n ca) := hx6.cell rfl
  have e2 : w6.cell? ⟨w.heap.size, 2, none⟩ = some (.slice Am k cm) := hx6.cell rfl
  have e3 : w6.cell? ⟨w.heap.size, 3, none⟩ = some (.int .i64 few) := hx6.cell rfl
  have e4 : w6.cell? ⟨w.heap.size, 4, none⟩ = some (.int .i64 most) := hx6.cell rfl
  go_wp2_with fail
  refine (CE.out _ hb06).mono ?_
  rintro e w7 ⟨rfl, hb7, hb07⟩
  have hx7 := hx6.all hb7
  clear e0 e1 e2 e3 e4
  have e0 : w7.cell? ⟨w.heap.size, 0, none⟩ = some (.slice Au m cu) := hx7.cell rfl
  have e1 : w7.cell? ⟨w.heap.size, 1, none⟩ = some (.slice Aa n ca) := hx7.cell rfl
  have e2 : w7.cell? ⟨w.heap.size, 2, none⟩ = some (.slice Am k cm) := hx7.cell rfl
  have e3 : w7.cell? ⟨w.heap.size, 3, none⟩ = some (.int .i64 few) := hx7.cell rfl
  have e4 : w7.cell? ⟨w.heap.size, 4, none⟩ = some (.int .i64 most) := hx7.cell rfl
  go_wp2_with fail
  refine (CN.out _ hb07).mono ?_
  rintro e w8 ⟨rfl, hb8, hb08⟩
  have hx8 := hx7.all hb8
  clear e0 e1 e2 e3 e4
  have e0 : w8.cell? ⟨w.heap.size, 0, none⟩ = some (.slice Au m cu) := hx8.cell rfl
  have e1 : w8.cell? ⟨w.heap.size, 1, none⟩ = some (.slice Aa n ca) := hx8.cell rfl
  have e2 : w8.cell? ⟨w.heap.size, 2, none⟩ = some (.slice Am k cm) := hx8.cell rfl
  have e3 : w8.cell? ⟨w.heap.size, 3, none⟩ = some (.int .i64 few) := hx8.cell rfl
  have e4 : w8.cell? ⟨w.heap.size, 4, none⟩ = some (.int .i64 most) := hx8.cell rfl
  go_wp2_with fail
  refine (CE.out _ hb08).mono ?_
  rintro e w9 ⟨rfl, hb9, hb09⟩
  have hx9 := hx8.all hb9
  clear e0 e1 e2 e3 e4
  have e0 : w9.cell? ⟨w.heap.size, 0, none⟩ = some (.slice Au m cu) := hx9.cell rfl
  have e1 : w9.cell? ⟨w.heap.size, 1, none⟩ = some (.slice Aa n ca) := hx9.cell rfl
  have e2 : w9.cell? ⟨w.heap.size, 2, none⟩ = some (.slice Am k cm) := hx9.cell rfl
  have e3 : w9.cell? ⟨w.heap.size, 3, none⟩ = some (.int .i64 few) := hx9.cell rfl
  have e4 : w9.cell? ⟨w.heap.size, 4, none⟩ = some (.int .i64 most) := hx9.cell rfl
  go_wp2_with fail
  go_ret
  exact ⟨rfl, hb09⟩

set_option maxHeartbeats 4000000 in
theorem RolesSays_neg (U A M : List Int) (Au Aa Am : Option Addr) (cu ca cm : Nat) (few most : Int) {w : World} (hU : IntsAt w Au U) (hA : IntsAt w Aa A) (hM : IntsAt w Am M) (sU : U.length < 2 ^ 64) (sA : A.length < 2 ^ 64) (sM : M.length < 2 ^ 64) (user want : Int) (hk : rolesCode U A M few most = 0) (hu : user < 0) (hT : Tab w) (hE : ErrT w) :
    Calls Tryd.prog 5 #[.agg #[.slice Au U.length cu, .slice Aa A.length ca, .slice Am M.length cm, .int .i64 few, .int .i64 most], .int .i64 user, .int .i64 want] w fun e w' => e = .returned (.bool true) ∧ Below w.heap.size w w' := by
  have hh : hasCode U A M few most user = 1 := by unfold hasCode; rw [if_pos hk, if_neg (by omega)]
  have hn : needCode0 U A M few most user want = 1 := by unfold needCode0; rw [if_pos hk, if_neg (by omega)]
  have hb00 : Below w.heap.size w (w.alloc (.cells #[.slice Au U.length cu, .slice Aa A.length ca, .slice Am M.length cm, .int .i64 few, .int .i64 most] 47)) := (Below.refl _ _).alloc (Nat.le_refl _) _
  have hx0 := BoxN.new w 47 #[.slice Au U.length cu, .slice Aa A.length ca, .slice Am M.length cm, .int .i64 few, .int .i64 most]
  have C1 := Lib.hid (fun V (hV : Below w.heap.size w V) => (RRoles_any (cu := cu) (ca := ca) (cm := cm) (few := few) (most := most) (hU.below hV) (hA.below hV) (hM.below hV) sU sA sM (hT.next hV)).mono fun e w' ⟨he, hx⟩ => (⟨he, hx, hV.trans (hx.mono hV.size)⟩ : _ ∧ Below V.heap.size V w' ∧ Below w.heap.size w w'))
  have C2 := Lib.hid (fun V (hV : Below w.heap.size w V) => (RCheck_any (cu := cu) (ca := ca) (cm := cm) (few := few) (most := most) (hU.below hV) (hA.below hV) (hM.below hV) sU sA sM (hT.next hV)).mono fun e w' ⟨he, hx⟩ => (⟨he, hx, hV.trans (hx.mono hV.size)⟩ : _ ∧ Below V.heap.size V w' ∧ Below w.heap.size w w'))
  have CE0 := Lib.hid (fun V (hV : Below w.heap.size w V) => ((Error_is 0 0 true V (hE.next hV) (by simp) : Calls Tryd.prog 7 #[.nilIface, .int .i64 0] V _)).mono fun e w' ⟨he, hx⟩ => (⟨he, hx, hV.trans (hx.mono hV.size)⟩ : _ ∧ Below V.heap.size V w' ∧ Below w.heap.size w w'))
  have CE := Lib.hid (fun V (hV : Below w.heap.size w V) => ((Error_is 1 1 true V (hE.next hV) (by simp) : Calls Tryd.prog 7 #[.iface 59 (.int .i64 1), .int .i64 1] V _)).mono fun e w' ⟨he, hx⟩ => (⟨he, hx, hV.trans (hx.mono hV.size)⟩ : _ ∧ Below V.heap.size V w' ∧ Below w.heap.size w w'))
  have CH := Lib.hid (fun V (hV : Below w.heap.size w V) => (RHas_bad (cu := cu) (ca := ca) (cm := cm) (hU.below hV) (hA.below hV) (hM.below hV) sU sA sM (hT.next hV) hh (by decide)).mono fun e w' ⟨he, hx⟩ => (⟨he, hx, hV.trans (hx.mono hV.size)⟩ : _ ∧ Below V.heap.size V w' ∧ Below w.heap.size w w'))
  have CM := Lib.hid (fun V (hV : Below w.heap.size w V) => (RMay_bad (cu := cu) (ca := ca) (cm := cm) (hU.below hV) (hA.below hV) (hM.below hV) sU sA sM (hT.next hV) hh (by decide)).mono fun e w' ⟨he, hx⟩ => (⟨he, hx, hV.trans (hx.mono hV.size)⟩ : _ ∧ Below V.heap.size V w' ∧ Below w.heap.size w w'))
  have CN := Lib.hid (fun V (hV : Below w.heap.size w V) => (RNeed_bad (cu := cu) (ca := ca) (cm := cm) (hU.below hV) (hA.below hV) (hM.below hV) sU sA sM (hT.next hV) hn (by decide)).mono fun e w' ⟨he, hx⟩ => (⟨he, hx, hV.trans (hx.mono hV.size)⟩ : _ ∧ Below V.heap.size V w' ∧ Below w.heap.size w w'))
  rw [hk] at C1 C2
  rw [errVal_zero] at C2
  have u1 : decide (user < 0) = true := decide_eq_true hu
  clear hU hA hM hT hE hh hn hk hu
  generalize U.length = m at *
  generalize A.length = n at *
  generalize M.length = k at *
  go_enter Tryd.func5, Tryd.ntmps5
  go_wp2_with fail
  refine (C1.out _ hb00).mono ?_
  rintro e w1 ⟨rfl, hb1, hb01⟩
  have hx1 := hx0.all hb1
  have e0 : w1.cell? ⟨w.heap.size, 0, none⟩ = some (.slice Au m cu) := hx1.cell rfl
  have e1 : w1.cell? ⟨w.heap.size, 1, none⟩ = some (.slice Aa n ca) := hx1.cell rfl
  have e2 : w1.cell? ⟨w.heap.size, 2, none⟩ = some (.slice Am k cm) := hx1.cell rfl
  have e3 : w1.cell? ⟨w.heap.size, 3, none⟩ = some (.int .i64 few) := hx1.cell rfl
  have e4 : w1.cell? ⟨w.heap.size, 4, none⟩ = some (.int .i64 most) := hx1.cell rfl
  go_wp2_with fail
  refine (C2.out _ hb01).mono ?_
  rintro e w2 ⟨rfl, hb2, hb02⟩
  have hx2 := hx1.all hb2
  clear e0 e1 e2 e3 e4
  have e0 : w2.cell? ⟨w.heap.size, 0, none⟩ = some (.slice Au m cu) := hx2.cell rfl
  have e1 : w2.cell? ⟨w.heap.size, 1, none⟩ = some (.slice Aa n ca) := hx2.cell rfl
  have e2 : w2.cell? ⟨w.heap.size, 2, none⟩ = some (.slice Am k cm) := hx2.cell rfl
  have e3 : w2.cell? ⟨w.heap.size, 3, none⟩ = some (.int .i64 few) := hx2.cell rfl
  have e4 : w2.cell? ⟨w.heap.size, 4, none⟩ = some (.int .i64 most) := hx2.cell rfl
  go_wp2_with fail
  refine (CE0.out _ hb02).mono ?_
  rintro e w3 ⟨rfl, hb3, hb03⟩
  have hx3 := hx2.all hb3
  clear e0 e1 e2 e3 e4
  have e0 : w3.cell? ⟨w.heap.size, 0, none⟩ = some (.slice Au m cu) := hx3.cell rfl
  have e1 : w3.cell? ⟨w.heap.size, 1, none⟩ = some (.slice Aa n ca) := hx3.cell rfl
  have e2 : w3.cell? ⟨w.heap.size, 2, none⟩ = some (.slice Am k cm) := hx3.cell rfl
  have e3 : w3.cell? ⟨w.heap.size, 3, none⟩ = some (.int .i64 few) := hx3.cell rfl
  have e4 : w3.cell? ⟨w.heap.size, 4, none⟩ = some (.int .i64 most) := hx3.cell rfl
  go_wp2_with fail
  refine (CH.out _ hb03).mono ?_
  rintro e w4 ⟨rfl, hb4, hb04⟩
  have hx4 := hx3.all hb4
  clear e0 e1 e2 e3 e4
  have e0 : w4.cell? ⟨w.heap.size, 0, none⟩ = some (.slice Au m cu) := hx4.cell rfl
  have e1 : w4.cell? ⟨w.heap.size, 1, none⟩ = some (.slice Aa n ca) := hx4.cell rfl
  have e2 : w4.cell? ⟨w.heap.size, 2, none⟩ = some (.slice Am k cm) := hx4.cell rfl
  have e3 : w4.cell? ⟨w.heap.size, 3, none⟩ = some (.int .i64 few) := hx4.cell rfl
  have e4 : w4.cell? ⟨w.heap.size, 4, none⟩ = some (.int .i64 most) := hx4.cell rfl
  go_wp2_with fail
  refine (CE.out _ hb04).mono ?_
  rintro e w5 ⟨rfl, hb5, hb05⟩
  have hx5 := hx4.all hb5
  clear e0 e1 e2 e3 e4
  have e0 : w5.cell? ⟨w.heap.size, 0, none⟩ = some (.slice Au m cu) := hx5.cell rfl
  have e1 : w5.cell? ⟨w.heap.size, 1, none⟩ = some (.slice Aa n ca) := hx5.cell rfl
  have e2 : w5.cell? ⟨w.heap.size, 2, none⟩ = some (.slice Am k cm) := hx5.cell rfl
  have e3 : w5.cell? ⟨w.heap.size, 3, none⟩ = some (.int .i64 few) := hx5.cell rfl
  have e4 : w5.cell? ⟨w.heap.size, 4, none⟩ = some (.int .i64 most) := hx5.cell rfl
  go_wp2_with fail
  refine (CM.out _ hb05).mono ?_
  rintro e w6 ⟨rfl, hb6, hb06⟩
  have hx6 := hx5.all hb6
  clear e0 e1 e2 e3 e4
  have e0 : w6.cell? ⟨w.heap.size, 0, none⟩ = some (.slice Au m cu) := hx6.cell rfl
  have e1 : w6.cell? ⟨w.heap.size, 1, none⟩ = some (.slice Aa n ca) := hx6.cell rfl
  have e2 : w6.cell? ⟨w.heap.size, 2, none⟩ = some (.slice Am k cm) := hx6.cell rfl
  have e3 : w6.cell? ⟨w.heap.size, 3, none⟩ = some (.int .i64 few) := hx6.cell rfl
  have e4 : w6.cell? ⟨w.heap.size, 4, none⟩ = some (.int .i64 most) := hx6.cell rfl
  go_wp2_with fail
  refine (CE.out _ hb06).mono ?_
  rintro e w7 ⟨rfl, hb7, hb07⟩
  have hx7 := hx6.all hb7
  clear e0 e1 e2 e3 e4
  have e0 : w7.cell? ⟨w.heap.size, 0, none⟩ = some (.slice Au m cu) := hx7.cell rfl
  have e1 : w7.cell? ⟨w.heap.size, 1, none⟩ = some (.slice Aa n ca) := hx7.cell rfl
  have e2 : w7.cell? ⟨w.heap.size, 2, none⟩ = some (.slice Am k cm) := hx7.cell rfl
  have e3 : w7.cell? ⟨w.heap.size, 3, none⟩ = some (.int .i64 few) := hx7.cell rfl
  have e4 : w7.cell? ⟨w.heap.size, 4, none⟩ = some (.int .i64 most) := hx7.cell rfl
  go_wp2_with fail
  refine (CN.out _ hb07).mono ?_
  rintro e w8 ⟨rfl, hb8, hb08⟩
  have hx8 := hx7.all hb8
  clear e0 e1 e2 e3 e4
  have e0 : w8.cell? ⟨w.heap.size, 0, none⟩ = some (.slice Au m cu) := hx8.cell rfl
  have e1 : w8.cell? ⟨w.heap.size, 1, none⟩ = some (.slice Aa n ca) := hx8.cell rfl
  have e2 : w8.cell? ⟨w.heap.size, 2, none⟩ = some (.slice Am k cm) := hx8.cell rfl
  have e3 : w8.cell? ⟨w.heap.size, 3, none⟩ = some (.int .i64 few) := hx8.cell rfl
  have e4 : w8.cell? ⟨w.heap.size, 4, none⟩ = some (.int .i64 most) := hx8.cell rfl
  go_wp2_with fail
  refine (CE.out _ hb08).mono ?_
  rintro e w9 ⟨rfl, hb9, hb09⟩
  have hx9 := hx8.all hb9
  clear e0 e1 e2 e3 e4
  have e0 : w9.cell? ⟨w.heap.size, 0, none⟩ = some (.slice Au m cu) := hx9.cell rfl
  have e1 : w9.cell? ⟨w.heap.size, 1, none⟩ = some (.slice Aa n ca) := hx9.cell rfl
  have e2 : w9.cell? ⟨w.heap.size, 2, none⟩ = some (.slice Am k cm) := hx9.cell rfl
  have e3 : w9.cell? ⟨w.heap.size, 3, none⟩ = some (.int .i64 few) := hx9.cell rfl
  have e4 : w9.cell? ⟨w.heap.size, 4, none⟩ = some (.int .i64 most) := hx9.cell rfl
  go_wp2_with fail
  go_ret
  exact ⟨rfl, hb09⟩

set_option maxHeartbeats 4000000 in
theorem RolesSays_big (U A M : List Int) (Au Aa Am : Option Addr) (cu ca cm : Nat) (few most : Int) {w : World} (hU : IntsAt w Au U) (hA : IntsAt w Aa A) (hM : IntsAt w Am M) (sU : U.length < 2 ^ 64) (sA : A.length < 2 ^ 64) (sM : M.length < 2 ^ 64) (user want : Int) (hk : rolesCode U A M few most = 0) (hu : (U.length : Int) ≤ user) (hT : Tab w) (hE : ErrT w) :
    Calls Tryd.prog 5 #[.agg #[.slice Au U.length cu, .slice Aa A.length ca, .slice Am M.length cm, .int .i64 few, .int .i64 most], .int .i64 user, .int .i64 want] w fun e w' => e = .returned (.bool true) ∧ Below w.heap.size w w' := by
  have hh : hasCode U A M few most user = 1 := by unfold hasCode; rw [if_pos hk, if_neg (by omega)]
  have hn : needCode0 U A M few most user want = 1 := by unfold needCode0; rw [if_pos hk, if_neg (by omega)]
  have hb00 : Below w.heap.size w (w.alloc (.cells #[.slice Au U.length cu, .slice Aa A.length ca, .slice Am M.length cm, .int .i64 few, .int .i64 most] 47)) := (Below.refl _ _).alloc (Nat.le_refl _) _
  have hx0 := BoxN.new w 47 #[.slice Au U.length cu, .slice Aa A.length ca, .slice Am M.length cm, .int .i64 few, .int .i64 most]
  have C1 := Lib.hid (fun V (hV : Below w.heap.size w V) => (RRoles_any (cu := cu) (ca := ca) (cm := cm) (few := few) (most := most) (hU.below hV) (hA.below hV) (hM.below hV) sU sA sM (hT.next hV)).mono fun e w' ⟨he, hx⟩ => (⟨he, hx, hV.trans (hx.mono hV.size)⟩ : _ ∧ Below V.heap.size V w' ∧ Below w.heap.size w w'))
  have C2 := Lib.hid (fun V (hV : Below w.heap.size w V) => (RCheck_any (cu := cu) (ca := ca) (cm := cm) (few := few) (most := most) (hU.below hV) (hA.below hV) (hM.below hV) sU sA sM (hT.next hV)).mono fun e w' ⟨he, hx⟩ => (⟨he, hx, hV.trans (hx.mono hV.size)⟩ : _ ∧ Below V.heap.size V w' ∧ Below w.heap.size w w'))
  have CE0 := Lib.hid (fun V (hV : Below w.heap.size w V) => ((Error_is 0 0 true V (hE.next hV) (by simp) : Calls Tryd.prog 7 #[.nilIface, .int .i64 0] V _)).mono fun e w' ⟨he, hx⟩ => (⟨he, hx, hV.trans (hx.mono hV.size)⟩ : _ ∧ Below V.heap.size V w' ∧ Below w.heap.size w w'))
  have CE := Lib.hid (fun V (hV : Below w.heap.size w V) => ((Error_is 1 1 true V (hE.next hV) (by simp) : Calls Tryd.prog 7 #[.iface 59 (.int .i64 1), .int .i64 1] V _)).mono fun e w' ⟨he, hx⟩ => (⟨he, hx, hV.trans (hx.mono hV.size)⟩ : _ ∧ Below V.heap.size V w' ∧ Below w.heap.size w w'))
  have CH := Lib.hid (fun V (hV : Below w.heap.size w V) => (RHas_bad (cu := cu) (ca := ca) (cm := cm) (hU.below hV) (hA.below hV) (hM.below hV) sU sA sM (hT.next hV) hh (by decide)).mono fun e w' ⟨he, hx⟩ => (⟨he, hx, hV.trans (hx.mono hV.size)⟩ : _ ∧ Below V.heap.size V w' ∧ Below w.heap.size w w'))
  have CM := Lib.hid (fun V (hV : Below w.heap.size w V) => (RMay_bad (cu := cu) (ca := ca) (cm := cm) (hU.below hV) (hA.below hV) (hM.below hV) sU sA sM (hT.next hV) hh (by decide)).mono fun e w' ⟨he, hx⟩ => (⟨he, hx, hV.trans (hx.mono hV.size)⟩ : _ ∧ Below V.heap.size V w' ∧ Below w.heap.size w w'))
  have CN := Lib.hid (fun V (hV : Below w.heap.size w V) => (RNeed_bad (cu := cu) (ca := ca) (cm := cm) (hU.below hV) (hA.below hV) (hM.below hV) sU sA sM (hT.next hV) hn (by decide)).mono fun e w' ⟨he, hx⟩ => (⟨he, hx, hV.trans (hx.mono hV.size)⟩ : _ ∧ Below V.heap.size V w' ∧ Below w.heap.size w w'))
  rw [hk] at C1 C2
  rw [errVal_zero] at C2
  have u1 : decide (user < 0) = false := decide_eq_false (by omega)
  have u2 : decide (user ≥ (U.length : Int)) = true := decide_eq_true hu
  clear hU hA hM hT hE hh hn hk hu
  generalize U.length = m at *
  generalize A.length = n at *
  generalize M.length = k at *
  go_enter Tryd.func5, Tryd.ntmps5
  go_wp2_with fail
  refine (C1.out _ hb00).mono ?_
  rintro e w1 ⟨rfl, hb1, hb01⟩
  have hx1 := hx0.all hb1
  have e0 : w1.cell? ⟨w.heap.size, 0, none⟩ = some (.slice Au m cu) := hx1.cell rfl
  have e1 : w1.cell? ⟨w.heap.size, 1, none⟩ = some (.slice Aa n ca) := hx1.cell rfl
  have e2 : w1.cell? ⟨w.heap.size, 2, none⟩ = some (.slice Am k cm) := hx1.cell rfl
  have e3 : w1.cell? ⟨w.heap.size, 3, none⟩ = some (.int .i64 few) := hx1.cell rfl
  have e4 : w1.cell? ⟨w.heap.size, 4, none⟩ = some (.int .i64 most) := hx1.cell rfl
  go_wp2_with fail
  refine (C2.out _ hb01).mono ?_
  rintro e w2 ⟨rfl, hb2, hb02⟩
  have hx2 := hx1.all hb2
  clear e0 e1 e2 e3 e4
  have e0 : w2.cell? ⟨w.heap.size, 0, none⟩ = some (.slice Au m cu) := hx2.cell rfl
  have e1 : w2.cell? ⟨w.heap.size, 1, none⟩ = some (.slice Aa n ca) := hx2.cell rfl
  have e2 : w2.cell? ⟨w.heap.size, 2, none⟩ = some (.slice Am k cm) := hx2.cell rfl
  have e3 : w2.cell? ⟨w.heap.size, 3, none⟩ = some (.int .i64 few) := hx2.cell rfl
  have e4 : w2.cell? ⟨w.heap.size, 4, none⟩ = some (.int .i64 most) := hx2.cell rfl
  go_wp2_with fail
  refine (CE0.out _ hb02).mono ?_
  rintro e w3 ⟨rfl, hb3, hb03⟩
  have hx3 := hx2.all hb3
  clear e0 e1 e2 e3 e4
  have e0 : w3.cell? ⟨w.heap.size, 0, none⟩ = some (.slice Au m cu) := hx3.cell rfl
  have e1 : w3.cell? ⟨w.heap.size, 1, none⟩ = some (.slice Aa n ca) := hx3.cell rfl
  have e2 : w3.cell? ⟨w.heap.size, 2, none⟩ = some (.slice Am k cm) := hx3.cell rfl
  have e3 : w3.cell? ⟨w.heap.size, 3, none⟩ = some (.int .i64 few) := hx3.cell rfl
  have e4 : w3.cell? ⟨w.heap.size, 4, none⟩ = some (.int .i64 most) := hx3.cell rfl
  go_wp2_with fail
  refine (CH.out _ hb03).mono ?_
  rintro e w4 ⟨rfl, hb4, hb04⟩
  have hx4 := hx3.all hb4
  clear e0 e1 e2 e3 e4
  have e0 : w4.cell? ⟨w.heap.size, 0, none⟩ = some (.slice Au m cu) := hx4.cell rfl
  have e1 : w4.cell? ⟨w.heap.size, 1, none⟩ = some (.slice Aa n ca) := hx4.cell rfl
  have e2 : w4.cell? ⟨w.heap.size, 2, none⟩ = some (.slice Am k cm) := hx4.cell rfl
  have e3 : w4.cell? ⟨w.heap.size, 3, none⟩ = some (.int .i64 few) := hx4.cell rfl
  have e4 : w4.cell? ⟨w.heap.size, 4, none⟩ = some (.int .i64 most) := hx4.cell rfl
  go_wp2_with fail
  refine (CE.out _ hb04).mono ?_
  rintro e w5 ⟨rfl, hb5, hb05⟩
  have hx5 := hx4.all hb5
  clear e0 e1 e2 e3 e4
  have e0 : w5.cell? ⟨w.heap.size, 0, none⟩ = some (.slice Au m cu) := hx5.cell rfl
  have e1 : w5.cell? ⟨w.heap.size, 1, none⟩ = some (.slice Aa n ca) := hx5.cell rfl
  have e2 : w5.cell? ⟨w.heap.size, 2, none⟩ = some (.slice Am k cm) := hx5.cell rfl
  have e3 : w5.cell? ⟨w.heap.size, 3, none⟩ = some (.int .i64 few) := hx5.cell rfl
  have e4 : w5.cell? ⟨w.heap.size, 4, none⟩ = some (.int .i64 most) := hx5.cell rfl
  go_wp2_with fail
  refine (CM.out _ hb05).mono ?_
  rintro e w6 ⟨rfl, hb6, hb06⟩
  have hx6 := hx5.all hb6
  clear e0 e1 e2 e3 e4
  have e0 : w6.cell? ⟨w.heap.size, 0, none⟩ = some (.slice Au m cu) := hx6.cell rfl
  have e1 : w6.cell? ⟨w.heap.size, 1, none⟩ = some (.slice Aa n ca) := hx6.cell rfl
  have e2 : w6.cell? ⟨w.heap.size, 2, none⟩ = some (.slice Am k cm) := hx6.cell rfl
  have e3 : w6.cell? ⟨w.heap.size, 3, none⟩ = some (.int .i64 few) := hx6.cell rfl
  have e4 : w6.cell? ⟨w.heap.size, 4, none⟩ = some (.int .i64 most) := hx6.cell rfl
  go_wp2_with fail
  refine (CE.out _ hb06).mono ?_
  rintro e w7 ⟨rfl, hb7, hb07⟩
  have hx7 := hx6.all hb7
  clear e0 e1 e2 e3 e4
  have e0 : w7.cell? ⟨w.heap.size, 0, none⟩ = some (.slice Au m cu) := hx7.cell rfl
  have e1 : w7.cell? ⟨w.heap.size, 1, none⟩ = some (.slice Aa n ca) := hx7.cell rfl
  have e2 : w7.cell? ⟨w.heap.size, 2, none⟩ = some (.slice Am k cm) := hx7.cell rfl
  have e3 : w7.cell? ⟨w.heap.size, 3, none⟩ = some (.int .i64 few) := hx7.cell rfl
  have e4 : w7.cell? ⟨w.heap.size, 4, none⟩ = some (.int .i64 most) := hx7.cell rfl
  go_wp2_with fail
  refine (CN.out _ hb07).mono ?_
  rintro e w8 ⟨rfl, hb8, hb08⟩
  have hx8 := hx7.all hb8
  clear e0 e1 e2 e3 e4
  have e0 : w8.cell? ⟨w.heap.size, 0, none⟩ = some (.slice Au m cu) := hx8.cell rfl
  have e1 : w8.cell? ⟨w.heap.size, 1, none⟩ = some (.slice Aa n ca) := hx8.cell rfl
  have e2 : w8.cell? ⟨w.heap.size, 2, none⟩ = some (.slice Am k cm) := hx8.cell rfl
  have e3 : w8.cell? ⟨w.heap.size, 3, none⟩ = some (.int .i64 few) := hx8.cell rfl
  have e4 : w8.cell? ⟨w.heap.size, 4, none⟩ = some (.int .i64 most) := hx8.cell rfl
  go_wp2_with fail
  refine (CE.out _ hb08).mono ?_
  rintro e w9 ⟨rfl, hb9, hb09⟩
  have hx9 := hx8.all hb9
  clear e0 e1 e2 e3 e4
  have e0 : w9.cell? ⟨w.heap.size, 0, none⟩ = some (.slice Au m cu) := hx9.cell rfl
  have e1 : w9.cell? ⟨w.heap.size, 1, none⟩ = some (.slice Aa n ca) := hx9.cell rfl
  have e2 : w9.cell? ⟨w.heap.size, 2, none⟩ = some (.slice Am k cm) := hx9.cell rfl
  have e3 : w9.cell? ⟨w.heap.size, 3, none⟩ = some (.int .i64 few) := hx9.cell rfl
  have e4 : w9.cell? ⟨w.heap.size, 4, none⟩ = some (.int .i64 most) := hx9.cell rfl
  go_wp2_with fail
  go_ret
  exact ⟨rfl, hb09⟩

set_option maxHeartbeats 4000000 in
theorem RolesSays_mask (U A M : List Int) (Au Aa Am : Option Addr) (cu ca cm : Nat) (few most : Int) {w : World} (hU : IntsAt w Au U) (hA : IntsAt w Aa A) (hM : IntsAt w Am M) (sU : U.length < 2 ^ 64) (sA : A.length < 2 ^ 64) (sM : M.length < 2 ^ 64) (user want : Int) (hk : rolesCode U A M few most = 0) (r Un Mn : List Nat) (fN : Nat) (hok : ROk U A M few most r Un Mn fN) (u : Nat) (huu : user = u) (huU : u < U.length) (hwm : ¬ (0 ≤ want ∧ want < 1024)) (hT : Tab w) (hE : ErrT w) :
    Calls Tryd.prog 5 #[.agg #[.slice Au U.length cu, .slice Aa A.length ca, .slice Am M.length cm, .int .i64 few, .int .i64 most], .int .i64 user, .int .i64 want] w fun e w' => e = .returned (.bool true) ∧ Below w.heap.size w w' := by
  subst huu
  have hlU : U.length = Un.length := by rw [hok.u, length_castL]
  have hlA : A.length = r.length := by rw [hok.a, length_castL]
  have hlMn : M.length = Mn.length := by rw [hok.m, length_castL]
  have hla := hok.la
  have hlu := hok.lu
  have hs := hok.bu u
  have hm : decide (0 ≤ want ∧ want < ((2 ^ 10 : Nat) : Int)) = false := decide_eq_false (by simpa using hwm)
  have hn : needCode0 U A M few most u want = 1 := by unfold needCode0; rw [if_pos hk, if_neg (fun h => hwm h.2)]
  have hb00 : Below w.heap.size w (w.alloc (.cells #[.slice Au U.length cu, .slice Aa A.length ca, .slice Am M.length cm, .int .i64 few, .int .i64 most] 47)) := (Below.refl _ _).alloc (Nat.le_refl _) _
  have hx0 := BoxN.new w 47 #[.slice Au U.length cu, .slice Aa A.length ca, .slice Am M.length cm, .int .i64 few, .int .i64 most]
  have C1 := Lib.hid (fun V (hV : Below w.heap.size w V) => (RRoles_any (cu := cu) (ca := ca) (cm := cm) (few := few) (most := most) (hU.below hV) (hA.below hV) (hM.below hV) sU sA sM (hT.next hV)).mono fun e w' ⟨he, hx⟩ => (⟨he, hx, hV.trans (hx.mono hV.size)⟩ : _ ∧ Below V.heap.size V w' ∧ Below w.heap.size w w'))
  have C2 := Lib.hid (fun V (hV : Below w.heap.size w V) => (RCheck_any (cu := cu) (ca := ca) (cm := cm) (few := few) (most := most) (hU.below hV) (hA.below hV) (hM.below hV) sU sA sM (hT.next hV)).mono fun e w' ⟨he, hx⟩ => (⟨he, hx, hV.trans (hx.mono hV.size)⟩ : _ ∧ Below V.heap.size V w' ∧ Below w.heap.size w w'))
  have CE0 := Lib.hid (fun V (hV : Below w.heap.size w V) => ((Error_is 0 0 true V (hE.next hV) (by simp) : Calls Tryd.prog 7 #[.nilIface, .int .i64 0] V _)).mono fun e w' ⟨he, hx⟩ => (⟨he, hx, hV.trans (hx.mono hV.size)⟩ : _ ∧ Below V.heap.size V w' ∧ Below w.heap.size w w'))
  have C8 := Lib.hid (fun V (hV : Below w.heap.size w V) => (RRoleSet_any (Au := Au) (nu := U.length) (cu := cu) (ca := ca) (Am := Am) (cm := cm) (few := few) (most := most) (nm := M.length) hla hok.ba (by rw [← hok.a]; exact hA.below hV) hs).mono fun e w' ⟨he, hx⟩ => (⟨he, hx, hV.trans (hx.mono hV.size)⟩ : _ ∧ Below V.heap.size V w' ∧ Below w.heap.size w w'))
  have C9 := Lib.hid (fun V (hV : Below w.heap.size w V) => (RTaskSet_any (Au := Au) (nu := U.length) (cu := cu) (ca := ca) (Am := Am) (cm := cm) (few := few) (most := most) (M := Mn) hla hok.ba (by rw [← hok.a]; exact hA.below hV) hok.lm hok.bm (by rw [← hok.m]; exact hM.below hV) hs).mono fun e w' ⟨he, hx⟩ => (⟨he, hx, hV.trans (hx.mono hV.size)⟩ : _ ∧ Below V.heap.size V w' ∧ Below w.heap.size w w'))
  have CH := Lib.hid (fun V (hV : Below w.heap.size w V) => (RHas_ok (cu := cu) (ca := ca) (cm := cm) (hU.below hV) (hA.below hV) (hM.below hV) (hT.next hV) hok hk huU).mono fun e w' ⟨he, hx⟩ => (⟨he, hx, hV.trans (hx.mono hV.size)⟩ : _ ∧ Below V.heap.size V w' ∧ Below w.heap.size w w'))
  have CM := Lib.hid (fun V (hV : Below w.heap.size w V) => (RMay_ok (cu := cu) (ca := ca) (cm := cm) (hU.below hV) (hA.below hV) (hM.below hV) (hT.next hV) hok hk huU).mono fun e w' ⟨he, hx⟩ => (⟨he, hx, hV.trans (hx.mono hV.size)⟩ : _ ∧ Below V.heap.size V w' ∧ Below w.heap.size w w'))
  have CK := Lib.hid (fun V (hV : Below w.heap.size w V) => (((show Calls Tryd.prog 25 #[.int .i64 want, .int .i64 10] V _ from RMask_is want 10 false V (by omega) hm).mono fun e w' ⟨he, hw⟩ => (⟨he, hw ▸ Below.refl _ _⟩ : _ ∧ Below V.heap.size V w'))).mono fun e w' ⟨he, hx⟩ => (⟨he, hx, hV.trans (hx.mono hV.size)⟩ : _ ∧ Below V.heap.size V w' ∧ Below w.heap.size w w'))
  have CN := Lib.hid (fun V (hV : Below w.heap.size w V) => (RNeed_bad (cu := cu) (ca := ca) (cm := cm) (hU.below hV) (hA.below hV) (hM.below hV) sU sA sM (hT.next hV) hn (by decide)).mono fun e w' ⟨he, hx⟩ => (⟨he, hx, hV.trans (hx.mono hV.size)⟩ : _ ∧ Below V.heap.size V w' ∧ Below w.heap.size w w'))
  have CE1 := Lib.hid (fun V (hV : Below w.heap.size w V) => ((Error_is 1 1 true V (hE.next hV) (by simp) : Calls Tryd.prog 7 #[.iface 59 (.int .i64 1), .int .i64 1] V _)).mono fun e w' ⟨he, hx⟩ => (⟨he, hx, hV.trans (hx.mono hV.size)⟩ : _ ∧ Below V.heap.size V w' ∧ Below w.heap.size w w'))
  rw [hk] at C1 C2
  rw [errVal_zero] at C2
  rw [← hlA] at C8
  rw [← hlMn, ← hlA] at C9
  clear hwm hm hn
  have hUr : IntsAt w Au (castL Un) := by rw [← hok.u]; exact hU
  obtain ⟨b, off, hAu, hc⟩ := hUr.row (k := u) (by omega)
  subst hAu
  have hbw := block_lt hc
  have huI : (u : Int) < U.length := by omega
  have hm8 : U.length ≤ 8 := by omega
  have u1 : decide ((u : Int) < 0) = false := by simp
  have u2 : decide ((u : Int) ≥ (U.length : Int)) = false := decide_eq_false (by omega)
  clear hU hA hM hT hE hok hk hs hla hlu hUr hlU hlA hlMn sU sA sM
  generalize taskS r Mn (row Un u) = tx at *
  generalize allS r (row Un u) = hx at *
  generalize row Un u = s0 at *
  generalize U.length = m at *
  generalize A.length = n at *
  generalize M.length = k at *
  go_enter Tryd.func5, Tryd.ntmps5
  go_wp2_with fail
  refine (C1.out _ hb00).mono ?_
  rintro e w1 ⟨rfl, hb1, hb01⟩
  have hx1 := hx0.all hb1
  have e0 : w1.cell? ⟨w.heap.size, 0, none⟩ = some (.slice (some ⟨b, off, none⟩) m cu) := hx1.cell rfl
  have e1 : w1.cell? ⟨w.heap.size, 1, none⟩ = some (.slice Aa n ca) := hx1.cell rfl
  have e2 : w1.cell? ⟨w.heap.size, 2, none⟩ = some (.slice Am k cm) := hx1.cell rfl
  have e3 : w1.cell? ⟨w.heap.size, 3, none⟩ = some (.int .i64 few) := hx1.cell rfl
  have e4 : w1.cell? ⟨w.heap.size, 4, none⟩ = some (.int .i64 most) := hx1.cell rfl
  have e5 := (hb01.cell (p := ⟨b, off + u, none⟩) hbw).trans hc
  go_wp2_with fail
  refine (C2.out _ hb01).mono ?_
  rintro e w2 ⟨rfl, hb2, hb02⟩
  have hx2 := hx1.all hb2
  clear e0 e1 e2 e3 e4 e5
  have e0 : w2.cell? ⟨w.heap.size, 0, none⟩ = some (.slice (some ⟨b, off, none⟩) m cu) := hx2.cell rfl
  have e1 : w2.cell? ⟨w.heap.size, 1, none⟩ = some (.slice Aa n ca) := hx2.cell rfl
  have e2 : w2.cell? ⟨w.heap.size, 2, none⟩ = some (.slice Am k cm) := hx2.cell rfl
  have e3 : w2.cell? ⟨w.heap.size, 3, none⟩ = some (.int .i64 few) := hx2.cell rfl
  have e4 : w2.cell? ⟨w.heap.size, 4, none⟩ = some (.int .i64 most) := hx2.cell rfl
  have e5 := (hb02.cell (p := ⟨b, off + u, none⟩) hbw).trans hc
  go_wp2_with fail
  refine (CE0.out _ hb02).mono ?_
  rintro e w3 ⟨rfl, hb3, hb03⟩
  have hx3 := hx2.all hb3
  clear e0 e1 e2 e3 e4 e5
  have e0 : w3.cell? ⟨w.heap.size, 0, none⟩ = some (.slice (some ⟨b, off, none⟩) m cu) := hx3.cell rfl
  have e1 : w3.cell? ⟨w.heap.size, 1, none⟩ = some (.slice Aa n ca) := hx3.cell rfl
  have e2 : w3.cell? ⟨w.heap.size, 2, none⟩ = some (.slice Am k cm) := hx3.cell rfl
  have e3 : w3.cell? ⟨w.heap.size, 3, none⟩ = some (.int .i64 few) := hx3.cell rfl
  have e4 : w3.cell? ⟨w.heap.size, 4, none⟩ = some (.int .i64 most) := hx3.cell rfl
  have e5 := (hb03.cell (p := ⟨b, off + u, none⟩) hbw).trans hc
  go_wp2_with fail
  refine wp_still_tailD 6 (by kernel_rfl) (by kernel_rfl) ?_
  simp only [List.take_succ_cons, List.take_zero, List.drop_succ_cons, List.drop_zero]
  repeat still_step
  refine wpStill_nil ?_
  go_wp2_with fail
  refine (C8.out _ (belowD hb03 1)).mono ?_
  rintro e w4 ⟨rfl, hb4, hb04⟩
  have hx4 := (hx3.drewN 1).all hb4
  clear e0 e1 e2 e3 e4 e5
  have e0 : w4.cell? ⟨w.heap.size, 0, none⟩ = some (.slice (some ⟨b, off, none⟩) m cu) := hx4.cell rfl
  have e1 : w4.cell? ⟨w.heap.size, 1, none⟩ = some (.slice Aa n ca) := hx4.cell rfl
  have e2 : w4.cell? ⟨w.heap.size, 2, none⟩ = some (.slice Am k cm) := hx4.cell rfl
  have e3 : w4.cell? ⟨w.heap.size, 3, none⟩ = some (.int .i64 few) := hx4.cell rfl
  have e4 : w4.cell? ⟨w.heap.size, 4, none⟩ = some (.int .i64 most) := hx4.cell rfl
  have e5 := (hb04.cell (p := ⟨b, off + u, none⟩) hbw).trans hc
  go_wp2_with fail
  refine wp_still_tailD 6 (by kernel_rfl) (by kernel_rfl) ?_
  simp only [List.take_succ_cons, List.take_zero, List.drop_succ_cons, List.drop_zero]
  repeat still_step
  refine wpStill_nil ?_
  go_wp2_with fail
  refine (C9.out _ (belowD hb04 1)).mono ?_
  rintro e w5 ⟨rfl, hb5, hb05⟩
  have hx5 := (hx4.drewN 1).all hb5
  clear e0 e1 e2 e3 e4 e5
  have e0 : w5.cell? ⟨w.heap.size, 0, none⟩ = some (.slice (some ⟨b, off, none⟩) m cu) := hx5.cell rfl
  have e1 : w5.cell? ⟨w.heap.size, 1, none⟩ = some (.slice Aa n ca) := hx5.cell rfl
  have e2 : w5.cell? ⟨w.heap.size, 2, none⟩ = some (.slice Am k cm) := hx5.cell rfl
  have e3 : w5.cell? ⟨w.heap.size, 3, none⟩ = some (.int .i64 few) := hx5.cell rfl
  have e4 : w5.cell? ⟨w.heap.size, 4, none⟩ = some (.int .i64 most) := hx5.cell rfl
  have e5 := (hb05.cell (p := ⟨b, off + u, none⟩) hbw).trans hc
  go_wp2_with fail
  refine (CH.out _ hb05).mono ?_
  rintro e w6 ⟨rfl, hb6, hb06⟩
  have hx6 := hx5.all hb6
  clear e0 e1 e2 e3 e4 e5
  have e0 : w6.cell? ⟨w.heap.size, 0, none⟩ = some (.slice (some ⟨b, off, none⟩) m cu) := hx6.cell rfl
  have e1 : w6.cell? ⟨w.heap.size, 1, none⟩ = some (.slice Aa n ca) := hx6.cell rfl
  have e2 : w6.cell? ⟨w.heap.size, 2, none⟩ = some (.slice Am k cm) := hx6.cell rfl
  have e3 : w6.cell? ⟨w.heap.size, 3, none⟩ = some (.int .i64 few) := hx6.cell rfl
  have e4 : w6.cell? ⟨w.heap.size, 4, none⟩ = some (.int .i64 most) := hx6.cell rfl
  have e5 := (hb06.cell (p := ⟨b, off + u, none⟩) hbw).trans hc
  go_wp2_with fail
  refine (CE0.out _ hb06).mono ?_
  rintro e w7 ⟨rfl, hb7, hb07⟩
  have hx7 := hx6.all hb7
  clear e0 e1 e2 e3 e4 e5
  have e0 : w7.cell? ⟨w.heap.size, 0, none⟩ = some (.slice (some ⟨b, off, none⟩) m cu) := hx7.cell rfl
  have e1 : w7.cell? ⟨w.heap.size, 1, none⟩ = some (.slice Aa n ca) := hx7.cell rfl
  have e2 : w7.cell? ⟨w.heap.size, 2, none⟩ = some (.slice Am k cm) := hx7.cell rfl
  have e3 : w7.cell? ⟨w.heap.size, 3, none⟩ = some (.int .i64 few) := hx7.cell rfl
  have e4 : w7.cell? ⟨w.heap.size, 4, none⟩ = some (.int .i64 most) := hx7.cell rfl
  have e5 := (hb07.cell (p := ⟨b, off + u, none⟩) hbw).trans hc
  go_wp2_with fail
  refine (CM.out _ hb07).mono ?_
  rintro e w8 ⟨rfl, hb8, hb08⟩
  have hx8 := hx7.all hb8
  clear e0 e1 e2 e3 e4 e5
  have e0 : w8.cell? ⟨w.heap.size, 0, none⟩ = some (.slice (some ⟨b, off, none⟩) m cu) := hx8.cell rfl
  have e1 : w8.cell? ⟨w.heap.size, 1, none⟩ = some (.slice Aa n ca) := hx8.cell rfl
  have e2 : w8.cell? ⟨w.heap.size, 2, none⟩ = some (.slice Am k cm) := hx8.cell rfl
  have e3 : w8.cell? ⟨w.heap.size, 3, none⟩ = some (.int .i64 few) := hx8.cell rfl
  have e4 : w8.cell? ⟨w.heap.size, 4, none⟩ = some (.int .i64 most) := hx8.cell rfl
  have e5 := (hb08.cell (p := ⟨b, off + u, none⟩) hbw).trans hc
  go_wp2_with fail
  refine (CE0.out _ hb08).mono ?_
  rintro e w9 ⟨rfl, hb9, hb09⟩
  have hx9 := hx8.all hb9
  clear e0 e1 e2 e3 e4 e5
  have e0 : w9.cell? ⟨w.heap.size, 0, none⟩ = some (.slice (some ⟨b, off, none⟩) m cu) := hx9.cell rfl
  have e1 : w9.cell? ⟨w.heap.size, 1, none⟩ = some (.slice Aa n ca) := hx9.cell rfl
  have e2 : w9.cell? ⟨w.heap.size, 2, none⟩ = some (.slice Am k cm) := hx9.cell rfl
  have e3 : w9.cell? ⟨w.heap.size, 3, none⟩ = some (.int .i64 few) := hx9.cell rfl
  have e4 : w9.cell? ⟨w.heap.size, 4, none⟩ = some (.int .i64 most) := hx9.cell rfl
  have e5 := (hb09.cell (p := ⟨b, off + u, none⟩) hbw).trans hc
  go_wp2_with fail
  refine (CK.out _ hb09).mono ?_
  rintro e w10 ⟨rfl, hb10, hb010⟩
  have hx10 := hx9.all hb10
  clear e0 e1 e2 e3 e4 e5
  have e0 : w10.cell? ⟨w.heap.size, 0, none⟩ = some (.slice (some ⟨b, off, none⟩) m cu) := hx10.cell rfl
  have e1 : w10.cell? ⟨w.heap.size, 1, none⟩ = some (.slice Aa n ca) := hx10.cell rfl
  have e2 : w10.cell? ⟨w.heap.size, 2, none⟩ = some (.slice Am k cm) := hx10.cell rfl
  have e3 : w10.cell? ⟨w.heap.size, 3, none⟩ = some (.int .i64 few) := hx10.cell rfl
  have e4 : w10.cell? ⟨w.heap.size, 4, none⟩ = some (.int .i64 most) := hx10.cell rfl
  have e5 := (hb010.cell (p := ⟨b, off + u, none⟩) hbw).trans hc
  go_wp2_with fail
  refine (CN.out _ hb010).mono ?_
  rintro e w11 ⟨rfl, hb11, hb011⟩
  have hx11 := hx10.all hb11
  clear e0 e1 e2 e3 e4 e5
  have e0 : w11.cell? ⟨w.heap.size, 0, none⟩ = some (.slice (some ⟨b, off, none⟩) m cu) := hx11.cell rfl
  have e1 : w11.cell? ⟨w.heap.size, 1, none⟩ = some (.slice Aa n ca) := hx11.cell rfl
  have e2 : w11.cell? ⟨w.heap.size, 2, none⟩ = some (.slice Am k cm) := hx11.cell rfl
  have e3 : w11.cell? ⟨w.heap.size, 3, none⟩ = some (.int .i64 few) := hx11.cell rfl
  have e4 : w11.cell? ⟨w.heap.size, 4, none⟩ = some (.int .i64 most) := hx11.cell rfl
  have e5 := (hb011.cell (p := ⟨b, off + u, none⟩) hbw).trans hc
  go_wp2_with fail
  refine (CE1.out _ hb011).mono ?_
  rintro e w12 ⟨rfl, hb12, hb012⟩
  have hx12 := hx11.all hb12
  clear e0 e1 e2 e3 e4 e5
  have e0 : w12.cell? ⟨w.heap.size, 0, none⟩ = some (.slice (some ⟨b, off, none⟩) m cu) := hx12.cell rfl
  have e1 : w12.cell? ⟨w.heap.size, 1, none⟩ = some (.slice Aa n ca) := hx12.cell rfl
  have e2 : w12.cell? ⟨w.heap.size, 2, none⟩ = some (.slice Am k cm) := hx12.cell rfl
  have e3 : w12.cell? ⟨w.heap.size, 3, none⟩ = some (.int .i64 few) := hx12.cell rfl
  have e4 : w12.cell? ⟨w.heap.size, 4, none⟩ = some (.int .i64 most) := hx12.cell rfl
  have e5 := (hb012.cell (p := ⟨b, off + u, none⟩) hbw).trans hc
  go_wp2_with fail
  go_ret
  exact ⟨rfl, hb012⟩

set_option maxHeartbeats 4000000 in
theorem RolesSays_none (U A M : List Int) (Au Aa Am : Option Addr) (cu ca cm : Nat) (few most : Int) {w : World} (hU : IntsAt w Au U) (hA : IntsAt w Aa A) (hM : IntsAt w Am M) (sU : U.length < 2 ^ 64) (sA : A.length < 2 ^ 64) (sM : M.length < 2 ^ 64) (user want : Int) (hk : rolesCode U A M few most = 0) (r Un Mn : List Nat) (fN : Nat) (hok : ROk U A M few most r Un Mn fN) (u : Nat) (huu : user = u) (huU : u < U.length) (wn : Nat) (hwn : want = wn) (hwv : wn < 1024) (h1 : needTo r Mn (allS r (row Un u)) wn (2 ^ r.length) = -1) (hT : Tab w) (hE : ErrT w) :
    Calls Tryd.prog 5 #[.agg #[.slice Au U.length cu, .slice Aa A.length ca, .slice Am M.length cm, .int .i64 few, .int .i64 most], .int .i64 user, .int .i64 want] w fun e w' => e = .returned (.bool true) ∧ Below w.heap.size w w' := by
  subst hwn
  subst huu
  have hlU : U.length = Un.length := by rw [hok.u, length_castL]
  have hlA : A.length = r.length := by rw [hok.a, length_castL]
  have hlMn : M.length = Mn.length := by rw [hok.m, length_castL]
  have hla := hok.la
  have hlu := hok.lu
  have hs := hok.bu u
  have hm : decide (0 ≤ (wn : Int) ∧ (wn : Int) < ((2 ^ 10 : Nat) : Int)) = true := decide_eq_true (by constructor <;> simp <;> omega)
  have hb00 : Below w.heap.size w (w.alloc (.cells #[.slice Au U.length cu, .slice Aa A.length ca, .slice Am M.length cm, .int .i64 few, .int .i64 most] 47)) := (Below.refl _ _).alloc (Nat.le_refl _) _
  have hx0 := BoxN.new w 47 #[.slice Au U.length cu, .slice Aa A.length ca, .slice Am M.length cm, .int .i64 few, .int .i64 most]
  have C1 := Lib.hid (fun V (hV : Below w.heap.size w V) => (RRoles_any (cu := cu) (ca := ca) (cm := cm) (few := few) (most := most) (hU.below hV) (hA.below hV) (hM.below hV) sU sA sM (hT.next hV)).mono fun e w' ⟨he, hx⟩ => (⟨he, hx, hV.trans (hx.mono hV.size)⟩ : _ ∧ Below V.heap.size V w' ∧ Below w.heap.size w w'))
  have C2 := Lib.hid (fun V (hV : Below w.heap.size w V) => (RCheck_any (cu := cu) (ca := ca) (cm := cm) (few := few) (most := most) (hU.below hV) (hA.below hV) (hM.below hV) sU sA sM (hT.next hV)).mono fun e w' ⟨he, hx⟩ => (⟨he, hx, hV.trans (hx.mono hV.size)⟩ : _ ∧ Below V.heap.size V w' ∧ Below w.heap.size w w'))
  have CE0 := Lib.hid (fun V (hV : Below w.heap.size w V) => ((Error_is 0 0 true V (hE.next hV) (by simp) : Calls Tryd.prog 7 #[.nilIface, .int .i64 0] V _)).mono fun e w' ⟨he, hx⟩ => (⟨he, hx, hV.trans (hx.mono hV.size)⟩ : _ ∧ Below V.heap.size V w' ∧ Below w.heap.size w w'))
  have C8 := Lib.hid (fun V (hV : Below w.heap.size w V) => (RRoleSet_any (Au := Au) (nu := U.length) (cu := cu) (ca := ca) (Am := Am) (cm := cm) (few := few) (most := most) (nm := M.length) hla hok.ba (by rw [← hok.a]; exact hA.below hV) hs).mono fun e w' ⟨he, hx⟩ => (⟨he, hx, hV.trans (hx.mono hV.size)⟩ : _ ∧ Below V.heap.size V w' ∧ Below w.heap.size w w'))
  have C9 := Lib.hid (fun V (hV : Below w.heap.size w V) => (RTaskSet_any (Au := Au) (nu := U.length) (cu := cu) (ca := ca) (Am := Am) (cm := cm) (few := few) (most := most) (M := Mn) hla hok.ba (by rw [← hok.a]; exact hA.below hV) hok.lm hok.bm (by rw [← hok.m]; exact hM.below hV) hs).mono fun e w' ⟨he, hx⟩ => (⟨he, hx, hV.trans (hx.mono hV.size)⟩ : _ ∧ Below V.heap.size V w' ∧ Below w.heap.size w w'))
  have CH := Lib.hid (fun V (hV : Below w.heap.size w V) => (RHas_ok (cu := cu) (ca := ca) (cm := cm) (hU.below hV) (hA.below hV) (hM.below hV) (hT.next hV) hok hk huU).mono fun e w' ⟨he, hx⟩ => (⟨he, hx, hV.trans (hx.mono hV.size)⟩ : _ ∧ Below V.heap.size V w' ∧ Below w.heap.size w w'))
  have CM := Lib.hid (fun V (hV : Below w.heap.size w V) => (RMay_ok (cu := cu) (ca := ca) (cm := cm) (hU.below hV) (hA.below hV) (hM.below hV) (hT.next hV) hok hk huU).mono fun e w' ⟨he, hx⟩ => (⟨he, hx, hV.trans (hx.mono hV.size)⟩ : _ ∧ Below V.heap.size V w' ∧ Below w.heap.size w w'))
  have CK := Lib.hid (fun V (hV : Below w.heap.size w V) => (((show Calls Tryd.prog 25 #[.int .i64 wn, .int .i64 10] V _ from RMask_is wn 10 true V (by omega) hm).mono fun e w' ⟨he, hw⟩ => (⟨he, hw ▸ Below.refl _ _⟩ : _ ∧ Below V.heap.size V w'))).mono fun e w' ⟨he, hx⟩ => (⟨he, hx, hV.trans (hx.mono hV.size)⟩ : _ ∧ Below V.heap.size V w' ∧ Below w.heap.size w w'))
  have CD := Lib.hid (fun V (hV : Below w.heap.size w V) => (RNeeded_any (Au := Au) (nu := U.length) (cu := cu) (ca := ca) (Am := Am) (cm := cm) (few := few) (most := most) (M := Mn) hla hok.ba (by rw [← hok.a]; exact hA.below hV) hok.lm hok.bm (by rw [← hok.m]; exact hM.below hV) hs hwv h1 (v := .tuple #[.int .i64 0, .bool false]) (if_pos (by decide)).symm).mono fun e w' ⟨he, hx⟩ => (⟨he, hx, hV.trans (hx.mono hV.size)⟩ : _ ∧ Below V.heap.size V w' ∧ Below w.heap.size w w'))
  have CN := Lib.hid (fun V (hV : Below w.heap.size w V) => (RNeed_any (cu := cu) (ca := ca) (cm := cm) (hU.below hV) (hA.below hV) (hM.below hV) (hT.next hV) hok hk huU hwv h1 (v := .tuple #[.int .i64 0, .iface 59 (.int .i64 7)]) (if_pos (by decide)).symm).mono fun e w' ⟨he, hx⟩ => (⟨he, hx, hV.trans (hx.mono hV.size)⟩ : _ ∧ Below V.heap.size V w' ∧ Below w.heap.size w w'))
  have CE7 := Lib.hid (fun V (hV : Below w.heap.size w V) => ((Error_is 7 7 true V (hE.next hV) (by simp) : Calls Tryd.prog 7 #[.iface 59 (.int .i64 7), .int .i64 7] V _)).mono fun e w' ⟨he, hx⟩ => (⟨he, hx, hV.trans (hx.mono hV.size)⟩ : _ ∧ Below V.heap.size V w' ∧ Below w.heap.size w w'))
  rw [hk] at C1 C2
  rw [errVal_zero] at C2
  rw [← hlA] at C8
  rw [← hlMn, ← hlA] at C9
  rw [← hlMn, ← hlA] at CD
  clear hwv hm h1
  have hUr : IntsAt w Au (castL Un) := by rw [← hok.u]; exact hU
  obtain ⟨b, off, hAu, hc⟩ := hUr.row (k := u) (by omega)
  subst hAu
  have hbw := block_lt hc
  have huI : (u : Int) < U.length := by omega
  have hm8 : U.length ≤ 8 := by omega
  have u1 : decide ((u : Int) < 0) = false := by simp
  have u2 : decide ((u : Int) ≥ (U.length : Int)) = false := decide_eq_false (by omega)
  clear hU hA hM hT hE hok hk hs hla hlu hUr hlU hlA hlMn sU sA sM
  generalize taskS r Mn (row Un u) = tx at *
  generalize allS r (row Un u) = hx at *
  generalize row Un u = s0 at *
  generalize U.length = m at *
  generalize A.length = n at *
  generalize M.length = k at *
  go_enter Tryd.func5, Tryd.ntmps5
  go_wp2_with fail
  refine (C1.out _ hb00).mono ?_
  rintro e w1 ⟨rfl, hb1, hb01⟩
  have hx1 := hx0.all hb1
  have e0 : w1.cell? ⟨w.heap.size, 0, none⟩ = some (.slice (some ⟨b, off, none⟩) m cu) := hx1.cell rfl
  have e1 : w1.cell? ⟨w.heap.size, 1, none⟩ = some (.slice Aa n ca) := hx1.cell rfl
  have e2 : w1.cell? ⟨w.heap.size, 2, none⟩ = some (.slice Am k cm) := hx1.cell rfl
  have e3 : w1.cell? ⟨w.heap.size, 3, none⟩ = some (.int .i64 few) := hx1.cell rfl
  have e4 : w1.cell? ⟨w.heap.size, 4, none⟩ = some (.int .i64 most) := hx1.cell rfl
  have e5 := (hb01.cell (p := ⟨b, off + u, none⟩) hbw).trans hc
  go_wp2_with fail
  refine (C2.out _ hb01).mono ?_
  rintro e w2 ⟨rfl, hb2, hb02⟩
  have hx2 := hx1.all hb2
  clear e0 e1 e2 e3 e4 e5
  have e0 : w2.cell? ⟨w.heap.size, 0, none⟩ = some (.slice (some ⟨b, off, none⟩) m cu) := hx2.cell rfl
  have e1 : w2.cell? ⟨w.heap.size, 1, none⟩ = some (.slice Aa n ca) := hx2.cell rfl
  have e2 : w2.cell? ⟨w.heap.size, 2, none⟩ = some (.slice Am k cm) := hx2.cell rfl
  have e3 : w2.cell? ⟨w.heap.size, 3, none⟩ = some (.int .i64 few) := hx2.cell rfl
  have e4 : w2.cell? ⟨w.heap.size, 4, none⟩ = some (.int .i64 most) := hx2.cell rfl
  have e5 := (hb02.cell (p := ⟨b, off + u, none⟩) hbw).trans hc
  go_wp2_with fail
  refine (CE0.out _ hb02).mono ?_
  rintro e w3 ⟨rfl, hb3, hb03⟩
  have hx3 := hx2.all hb3
  clear e0 e1 e2 e3 e4 e5
  have e0 : w3.cell? ⟨w.heap.size, 0, none⟩ = some (.slice (some ⟨b, off, none⟩) m cu) := hx3.cell rfl
  have e1 : w3.cell? ⟨w.heap.size, 1, none⟩ = some (.slice Aa n ca) := hx3.cell rfl
  have e2 : w3.cell? ⟨w.heap.size, 2, none⟩ = some (.slice Am k cm) := hx3.cell rfl
  have e3 : w3.cell? ⟨w.heap.size, 3, none⟩ = some (.int .i64 few) := hx3.cell rfl
  have e4 : w3.cell? ⟨w.heap.size, 4, none⟩ = some (.int .i64 most) := hx3.cell rfl
  have e5 := (hb03.cell (p := ⟨b, off + u, none⟩) hbw).trans hc
  go_wp2_with fail
  refine wp_still_tailD 6 (by kernel_rfl) (by kernel_rfl) ?_
  simp only [List.take_succ_cons, List.take_zero, List.drop_succ_cons, List.drop_zero]
  repeat still_step
  refine wpStill_nil ?_
  go_wp2_with fail
  refine (C8.out _ (belowD hb03 1)).mono ?_
  rintro e w4 ⟨rfl, hb4, hb04⟩
  have hx4 := (hx3.drewN 1).all hb4
  clear e0 e1 e2 e3 e4 e5
  have e0 : w4.cell? ⟨w.heap.size, 0, none⟩ = some (.slice (some ⟨b, off, none⟩) m cu) := hx4.cell rfl
  have e1 : w4.cell? ⟨w.heap.size, 1, none⟩ = some (.slice Aa n ca) := hx4.cell rfl
  have e2 : w4.cell? ⟨w.heap.size, 2, none⟩ = some (.slice Am k cm) := hx4.cell rfl
  have e3 : w4.cell? ⟨w.heap.size, 3, none⟩ = some (.int .i64 few) := hx4.cell rfl
  have e4 : w4.cell? ⟨w.heap.size, 4, none⟩ = some (.int .i64 most) := hx4.cell rfl
  have e5 := (hb04.cell (p := ⟨b, off + u, none⟩) hbw).trans hc
  go_wp2_with fail
  refine wp_still_tailD 6 (by kernel_rfl) (by kernel_rfl) ?_
  simp only [List.take_succ_cons, List.take_zero, List.drop_succ_cons, List.drop_zero]
  repeat still_step
  refine wpStill_nil ?_
  go_wp2_with fail
  refine (C9.out _ (belowD hb04 1)).mono ?_
  rintro e w5 ⟨rfl, hb5, hb05⟩
  have hx5 := (hx4.drewN 1).all hb5
  clear e0 e1 e2 e3 e4 e5
  have e0 : w5.cell? ⟨w.heap.size, 0, none⟩ = some (.slice (some ⟨b, off, none⟩) m cu) := hx5.cell rfl
  have e1 : w5.cell? ⟨w.heap.size, 1, none⟩ = some (.slice Aa n ca) := hx5.cell rfl
  have e2 : w5.cell? ⟨w.heap.size, 2, none⟩ = some (.slice Am k cm) := hx5.cell rfl
  have e3 : w5.cell? ⟨w.heap.size, 3, none⟩ = some (.int .i64 few) := hx5.cell rfl
  have e4 : w5.cell? ⟨w.heap.size, 4, none⟩ = some (.int .i64 most) := hx5.cell rfl
  have e5 := (hb05.cell (p := ⟨b, off + u, none⟩) hbw).trans hc
  go_wp2_with fail
  refine (CH.out _ hb05).mono ?_
  rintro e w6 ⟨rfl, hb6, hb06⟩
  have hx6 := hx5.all hb6
  clear e0 e1 e2 e3 e4 e5
  have e0 : w6.cell? ⟨w.heap.size, 0, none⟩ = some (.slice (some ⟨b, off, none⟩) m cu) := hx6.cell rfl
  have e1 : w6.cell? ⟨w.heap.size, 1, none⟩ = some (.slice Aa n ca) := hx6.cell rfl
  have e2 : w6.cell? ⟨w.heap.size, 2, none⟩ = some (.slice Am k cm) := hx6.cell rfl
  have e3 : w6.cell? ⟨w.heap.size, 3, none⟩ = some (.int .i64 few) := hx6.cell rfl
  have e4 : w6.cell? ⟨w.heap.size, 4, none⟩ = some (.int .i64 most) := hx6.cell rfl
  have e5 := (hb06.cell (p := ⟨b, off + u, none⟩) hbw).trans hc
  go_wp2_with fail
  refine (CE0.out _ hb06).mono ?_
  rintro e w7 ⟨rfl, hb7, hb07⟩
  have hx7 := hx6.all hb7
  clear e0 e1 e2 e3 e4 e5
  have e0 : w7.cell? ⟨w.heap.size, 0, none⟩ = some (.slice (some ⟨b, off, none⟩) m cu) := hx7.cell rfl
  have e1 : w7.cell? ⟨w.heap.size, 1, none⟩ = some (.slice Aa n ca) := hx7.cell rfl
  have e2 : w7.cell? ⟨w.heap.size, 2, none⟩ = some (.slice Am k cm) := hx7.cell rfl
  have e3 : w7.cell? ⟨w.heap.size, 3, none⟩ = some (.int .i64 few) := hx7.cell rfl
  have e4 : w7.cell? ⟨w.heap.size, 4, none⟩ = some (.int .i64 most) := hx7.cell rfl
  have e5 := (hb07.cell (p := ⟨b, off + u, none⟩) hbw).trans hc
  go_wp2_with fail
  refine (CM.out _ hb07).mono ?_
  rintro e w8 ⟨rfl, hb8, hb08⟩
  have hx8 := hx7.all hb8
  clear e0 e1 e2 e3 e4 e5
  have e0 : w8.cell? ⟨w.heap.size, 0, none⟩ = some (.slice (some ⟨b, off, none⟩) m cu) := hx8.cell rfl
  have e1 : w8.cell? ⟨w.heap.size, 1, none⟩ = some (.slice Aa n ca) := hx8.cell rfl
  have e2 : w8.cell? ⟨w.heap.size, 2, none⟩ = some (.slice Am k cm) := hx8.cell rfl
  have e3 : w8.cell? ⟨w.heap.size, 3, none⟩ = some (.int .i64 few) := hx8.cell rfl
  have e4 : w8.cell? ⟨w.heap.size, 4, none⟩ = some (.int .i64 most) := hx8.cell rfl
  have e5 := (hb08.cell (p := ⟨b, off + u, none⟩) hbw).trans hc
  go_wp2_with fail
  refine (CE0.out _ hb08).mono ?_
  rintro e w9 ⟨rfl, hb9, hb09⟩
  have hx9 := hx8.all hb9
  clear e0 e1 e2 e3 e4 e5
  have e0 : w9.cell? ⟨w.heap.size, 0, none⟩ = some (.slice (some ⟨b, off, none⟩) m cu) := hx9.cell rfl
  have e1 : w9.cell? ⟨w.heap.size, 1, none⟩ = some (.slice Aa n ca) := hx9.cell rfl
  have e2 : w9.cell? ⟨w.heap.size, 2, none⟩ = some (.slice Am k cm) := hx9.cell rfl
  have e3 : w9.cell? ⟨w.heap.size, 3, none⟩ = some (.int .i64 few) := hx9.cell rfl
  have e4 : w9.cell? ⟨w.heap.size, 4, none⟩ = some (.int .i64 most) := hx9.cell rfl
  have e5 := (hb09.cell (p := ⟨b, off + u, none⟩) hbw).trans hc
  go_wp2_with fail
  refine (CK.out _ hb09).mono ?_
  rintro e w10 ⟨rfl, hb10, hb010⟩
  have hx10 := hx9.all hb10
  clear e0 e1 e2 e3 e4 e5
  have e0 : w10.cell? ⟨w.heap.size, 0, none⟩ = some (.slice (some ⟨b, off, none⟩) m cu) := hx10.cell rfl
  have e1 : w10.cell? ⟨w.heap.size, 1, none⟩ = some (.slice Aa n ca) := hx10.cell rfl
  have e2 : w10.cell? ⟨w.heap.size, 2, none⟩ = some (.slice Am k cm) := hx10.cell rfl
  have e3 : w10.cell? ⟨w.heap.size, 3, none⟩ = some (.int .i64 few) := hx10.cell rfl
  have e4 : w10.cell? ⟨w.heap.size, 4, none⟩ = some (.int .i64 most) := hx10.cell rfl
  have e5 := (hb010.cell (p := ⟨b, off + u, none⟩) hbw).trans hc
  go_wp2_with fail
  have Q := Lib.hid (fun (d : Nat) (os : Array Obj) => Calls.regrown_of ((CD.out (Sort.grow (redrawn w10 d) os) (hb010.trans ((below_regrown w10 d os).mono hb010.size))).mono fun e w' ⟨he, h1, _⟩ => ⟨he, h1⟩))
  have g0 := cell_regrown e0
  have g1 := cell_regrown e1
  have g2 := cell_regrown e2
  have g3 := cell_regrown e3
  have g4 := cell_regrown e4
  have g5 := cell_regrown e5
  refine wp_region_quiet_below (by kernel_rfl) (by kernel_rfl) ?_
  repeat (go_big_quiet_step (with_reducible exact Q.out _ _))
  refine wpQuiet_nil ?_
  rintro _ ⟨pq, rfl⟩
  have hb11 := below_regrown w10 pq.d pq.os
  have hb011 := hb010.trans (hb11.mono hb010.size)
  generalize Sort.grow (redrawn w10 pq.d) pq.os = w11 at *
  have hx11 := hx10.all hb11
  clear e0 e1 e2 e3 e4 e5 g0 g1 g2 g3 g4 g5 Q
  have e0 : w11.cell? ⟨w.heap.size, 0, none⟩ = some (.slice (some ⟨b, off, none⟩) m cu) := hx11.cell rfl
  have e1 : w11.cell? ⟨w.heap.size, 1, none⟩ = some (.slice Aa n ca) := hx11.cell rfl
  have e2 : w11.cell? ⟨w.heap.size, 2, none⟩ = some (.slice Am k cm) := hx11.cell rfl
  have e3 : w11.cell? ⟨w.heap.size, 3, none⟩ = some (.int .i64 few) := hx11.cell rfl
  have e4 : w11.cell? ⟨w.heap.size, 4, none⟩ = some (.int .i64 most) := hx11.cell rfl
  have e5 := (hb011.cell (p := ⟨b, off + u, none⟩) hbw).trans hc
  go_wp2_with fail
  refine (CN.out _ hb011).mono ?_
  rintro e w12 ⟨rfl, hb12, hb012⟩
  have hx12 := hx11.all hb12
  clear e0 e1 e2 e3 e4 e5
  have e0 : w12.cell? ⟨w.heap.size, 0, none⟩ = some (.slice (some ⟨b, off, none⟩) m cu) := hx12.cell rfl
  have e1 : w12.cell? ⟨w.heap.size, 1, none⟩ = some (.slice Aa n ca) := hx12.cell rfl
  have e2 : w12.cell? ⟨w.heap.size, 2, none⟩ = some (.slice Am k cm) := hx12.cell rfl
  have e3 : w12.cell? ⟨w.heap.size, 3, none⟩ = some (.int .i64 few) := hx12.cell rfl
  have e4 : w12.cell? ⟨w.heap.size, 4, none⟩ = some (.int .i64 most) := hx12.cell rfl
  have e5 := (hb012.cell (p := ⟨b, off + u, none⟩) hbw).trans hc
  go_wp2_with fail
  refine (CE7.out _ hb012).mono ?_
  rintro e w13 ⟨rfl, hb13, hb013⟩
  have hx13 := hx12.all hb13
  clear e0 e1 e2 e3 e4 e5
  have e0 : w13.cell? ⟨w.heap.size, 0, none⟩ = some (.slice (some ⟨b, off, none⟩) m cu) := hx13.cell rfl
  have e1 : w13.cell? ⟨w.heap.size, 1, none⟩ = some (.slice Aa n ca) := hx13.cell rfl
  have e2 : w13.cell? ⟨w.heap.size, 2, none⟩ = some (.slice Am k cm) := hx13.cell rfl
  have e3 : w13.cell? ⟨w.heap.size, 3, none⟩ = some (.int .i64 few) := hx13.cell rfl
  have e4 : w13.cell? ⟨w.heap.size, 4, none⟩ = some (.int .i64 most) := hx13.cell rfl
  have e5 := (hb013.cell (p := ⟨b, off + u, none⟩) hbw).trans hc
  go_wp2_with fail
  go_ret
  exact ⟨rfl, hb013⟩

set_option maxHeartbeats 4000000 in
theorem RolesSays_some (U A M : List Int) (Au Aa Am : Option Addr) (cu ca cm : Nat) (few most : Int) {w : World} (hU : IntsAt w Au U) (hA : IntsAt w Aa A) (hM : IntsAt w Am M) (sU : U.length < 2 ^ 64) (sA : A.length < 2 ^ 64) (sM : M.length < 2 ^ 64) (user want : Int) (hk : rolesCode U A M few most = 0) (r Un Mn : List Nat) (fN : Nat) (hok : ROk U A M few most r Un Mn fN) (u : Nat) (huu : user = u) (huU : u < U.length) (wn : Nat) (hwn : want = wn) (hwv : wn < 1024) (b0 : Nat) (h1 : needTo r Mn (allS r (row Un u)) wn (2 ^ r.length) = (b0 : Int)) (hT : Tab w) (hE : ErrT w) :
    Calls Tryd.prog 5 #[.agg #[.slice Au U.length cu, .slice Aa A.length ca, .slice Am M.length cm, .int .i64 few, .int .i64 most], .int .i64 user, .int .i64 want] w fun e w' => e = .returned (.bool true) ∧ Below w.heap.size w w' := by
  subst hwn
  subst huu
  have hlU : U.length = Un.length := by rw [hok.u, length_castL]
  have hlA : A.length = r.length := by rw [hok.a, length_castL]
  have hlMn : M.length = Mn.length := by rw [hok.m, length_castL]
  have hla := hok.la
  have hlu := hok.lu
  have hs := hok.bu u
  have hm : decide (0 ≤ (wn : Int) ∧ (wn : Int) < ((2 ^ 10 : Nat) : Int)) = true := decide_eq_true (by constructor <;> simp <;> omega)
  have hb00 : Below w.heap.size w (w.alloc (.cells #[.slice Au U.length cu, .slice Aa A.length ca, .slice Am M.length cm, .int .i64 few, .int .i64 most] 47)) := (Below.refl _ _).alloc (Nat.le_refl _) _
  have hx0 := BoxN.new w 47 #[.slice Au U.length cu, .slice Aa A.length ca, .slice Am M.length cm, .int .i64 few, .int .i64 most]
  have C1 := Lib.hid (fun V (hV : Below w.heap.size w V) => (RRoles_any (cu := cu) (ca := ca) (cm := cm) (few := few) (most := most) (hU.below hV) (hA.below hV) (hM.below hV) sU sA sM (hT.next hV)).mono fun e w' ⟨he, hx⟩ => (⟨he, hx, hV.trans (hx.mono hV.size)⟩ : _ ∧ Below V.heap.size V w' ∧ Below w.heap.size w w'))
  have C2 := Lib.hid (fun V (hV : Below w.heap.size w V) => (RCheck_any (cu := cu) (ca := ca) (cm := cm) (few := few) (most := most) (hU.below hV) (hA.below hV) (hM.below hV) sU sA sM (hT.next hV)).mono fun e w' ⟨he, hx⟩ => (⟨he, hx, hV.trans (hx.mono hV.size)⟩ : _ ∧ Below V.heap.size V w' ∧ Below w.heap.size w w'))
  have CE0 := Lib.hid (fun V (hV : Below w.heap.size w V) => ((Error_is 0 0 true V (hE.next hV) (by simp) : Calls Tryd.prog 7 #[.nilIface, .int .i64 0] V _)).mono fun e w' ⟨he, hx⟩ => (⟨he, hx, hV.trans (hx.mono hV.size)⟩ : _ ∧ Below V.heap.size V w' ∧ Below w.heap.size w w'))
  have C8 := Lib.hid (fun V (hV : Below w.heap.size w V) => (RRoleSet_any (Au := Au) (nu := U.length) (cu := cu) (ca := ca) (Am := Am) (cm := cm) (few := few) (most := most) (nm := M.length) hla hok.ba (by rw [← hok.a]; exact hA.below hV) hs).mono fun e w' ⟨he, hx⟩ => (⟨he, hx, hV.trans (hx.mono hV.size)⟩ : _ ∧ Below V.heap.size V w' ∧ Below w.heap.size w w'))
  have C9 := Lib.hid (fun V (hV : Below w.heap.size w V) => (RTaskSet_any (Au := Au) (nu := U.length) (cu := cu) (ca := ca) (Am := Am) (cm := cm) (few := few) (most := most) (M := Mn) hla hok.ba (by rw [← hok.a]; exact hA.below hV) hok.lm hok.bm (by rw [← hok.m]; exact hM.below hV) hs).mono fun e w' ⟨he, hx⟩ => (⟨he, hx, hV.trans (hx.mono hV.size)⟩ : _ ∧ Below V.heap.size V w' ∧ Below w.heap.size w w'))
  have CH := Lib.hid (fun V (hV : Below w.heap.size w V) => (RHas_ok (cu := cu) (ca := ca) (cm := cm) (hU.below hV) (hA.below hV) (hM.below hV) (hT.next hV) hok hk huU).mono fun e w' ⟨he, hx⟩ => (⟨he, hx, hV.trans (hx.mono hV.size)⟩ : _ ∧ Below V.heap.size V w' ∧ Below w.heap.size w w'))
  have CM := Lib.hid (fun V (hV : Below w.heap.size w V) => (RMay_ok (cu := cu) (ca := ca) (cm := cm) (hU.below hV) (hA.below hV) (hM.below hV) (hT.next hV) hok hk huU).mono fun e w' ⟨he, hx⟩ => (⟨he, hx, hV.trans (hx.mono hV.size)⟩ : _ ∧ Below V.heap.size V w' ∧ Below w.heap.size w w'))
  have CK := Lib.hid (fun V (hV : Below w.heap.size w V) => (((show Calls Tryd.prog 25 #[.int .i64 wn, .int .i64 10] V _ from RMask_is wn 10 true V (by omega) hm).mono fun e w' ⟨he, hw⟩ => (⟨he, hw ▸ Below.refl _ _⟩ : _ ∧ Below V.heap.size V w'))).mono fun e w' ⟨he, hx⟩ => (⟨he, hx, hV.trans (hx.mono hV.size)⟩ : _ ∧ Below V.heap.size V w' ∧ Below w.heap.size w w'))
  have CD := Lib.hid (fun V (hV : Below w.heap.size w V) => (RNeeded_any (Au := Au) (nu := U.length) (cu := cu) (ca := ca) (Am := Am) (cm := cm) (few := few) (most := most) (M := Mn) hla hok.ba (by rw [← hok.a]; exact hA.below hV) hok.lm hok.bm (by rw [← hok.m]; exact hM.below hV) hs hwv h1 (v := .tuple #[.int .i64 b0, .bool true]) (if_neg (by omega)).symm).mono fun e w' ⟨he, hx⟩ => (⟨he, hx, hV.trans (hx.mono hV.size)⟩ : _ ∧ Below V.heap.size V w' ∧ Below w.heap.size w w'))
  have CN := Lib.hid (fun V (hV : Below w.heap.size w V) => (RNeed_any (cu := cu) (ca := ca) (cm := cm) (hU.below hV) (hA.below hV) (hM.below hV) (hT.next hV) hok hk huU hwv h1 (v := .tuple #[.int .i64 b0, .nilIface]) (if_neg (by omega)).symm).mono fun e w' ⟨he, hx⟩ => (⟨he, hx, hV.trans (hx.mono hV.size)⟩ : _ ∧ Below V.heap.size V w' ∧ Below w.heap.size w w'))
  rw [hk] at C1 C2
  rw [errVal_zero] at C2
  rw [← hlA] at C8
  rw [← hlMn, ← hlA] at C9
  rw [← hlMn, ← hlA] at CD
  clear hwv hm h1
  have hUr : IntsAt w Au (castL Un) := by rw [← hok.u]; exact hU
  obtain ⟨b, off, hAu, hc⟩ := hUr.row (k := u) (by omega)
  subst hAu
  have hbw := block_lt hc
  have huI : (u : Int) < U.length := by omega
  have hm8 : U.length ≤ 8 := by omega
  have u1 : decide ((u : Int) < 0) = false := by simp
  have u2 : decide ((u : Int) ≥ (U.length : Int)) = false := decide_eq_false (by omega)
  clear hU hA hM hT hE hok hk hs hla hlu hUr hlU hlA hlMn sU sA sM
  generalize taskS r Mn (row Un u) = tx at *
  generalize allS r (row Un u) = hx at *
  generalize row Un u = s0 at *
  generalize U.length = m at *
  generalize A.length = n at *
  generalize M.length = k at *
  go_enter Tryd.func5, Tryd.ntmps5
  go_wp2_with fail
  refine (C1.out _ hb00).mono ?_
  rintro e w1 ⟨rfl, hb1, hb01⟩
  have hx1 := hx0.all hb1
  have e0 : w1.cell? ⟨w.heap.size, 0, none⟩ = some (.slice (some ⟨b, off, none⟩) m cu) := hx1.cell rfl
  have e1 : w1.cell? ⟨w.heap.size, 1, none⟩ = some (.slice Aa n ca) := hx1.cell rfl
  have e2 : w1.cell? ⟨w.heap.size, 2, none⟩ = some (.slice Am k cm) := hx1.cell rfl
  have e3 : w1.cell? ⟨w.heap.size, 3, none⟩ = some (.int .i64 few) := hx1.cell rfl
  have e4 : w1.cell? ⟨w.heap.size, 4, none⟩ = some (.int .i64 most) := hx1.cell rfl
  have e5 := (hb01.cell (p := ⟨b, off + u, none⟩) hbw).trans hc
  go_wp2_with fail
  refine (C2.out _ hb01).mono ?_
  rintro e w2 ⟨rfl, hb2, hb02⟩
  have hx2 := hx1.all hb2
  clear e0 e1 e2 e3 e4 e5
  have e0 : w2.cell? ⟨w.heap.size, 0, none⟩ = some (.slice (some ⟨b, off, none⟩) m cu) := hx2.cell rfl
  have e1 : w2.cell? ⟨w.heap.size, 1, none⟩ = some (.slice Aa n ca) := hx2.cell rfl
  have e2 : w2.cell? ⟨w.heap.size, 2, none⟩ = some (.slice Am k cm) := hx2.cell rfl
  have e3 : w2.cell? ⟨w.heap.size, 3, none⟩ = some (.int .i64 few) := hx2.cell rfl
  have e4 : w2.cell? ⟨w.heap.size, 4, none⟩ = some (.int .i64 most) := hx2.cell rfl
  have e5 := (hb02.cell (p := ⟨b, off + u, none⟩) hbw).trans hc
  go_wp2_with fail
  refine (CE0.out _ hb02).mono ?_
  rintro e w3 ⟨rfl, hb3, hb03⟩
  have hx3 := hx2.all hb3
  clear e0 e1 e2 e3 e4 e5
  have e0 : w3.cell? ⟨w.heap.size, 0, none⟩ = some (.slice (some ⟨b, off, none⟩) m cu) := hx3.cell rfl
  have e1 : w3.cell? ⟨w.heap.size, 1, none⟩ = some (.slice Aa n ca) := hx3.cell rfl
  have e2 : w3.cell? ⟨w.heap.size, 2, none⟩ = some (.slice Am k cm) := hx3.cell rfl
  have e3 : w3.cell? ⟨w.heap.size, 3, none⟩ = some (.int .i64 few) := hx3.cell rfl
  have e4 : w3.cell? ⟨w.heap.size, 4, none⟩ = some (.int .i64 most) := hx3.cell rfl
  have e5 := (hb03.cell (p := ⟨b, off + u, none⟩) hbw).trans hc
  go_wp2_with fail
  refine wp_still_tailD 6 (by kernel_rfl) (by kernel_rfl) ?_
  simp only [List.take_succ_cons, List.take_zero, List.drop_succ_cons, List.drop_zero]
  repeat still_step
  refine wpStill_nil ?_
  go_wp2_with fail
  refine (C8.out _ (belowD hb03 1)).mono ?_
  rintro e w4 ⟨rfl, hb4, hb04⟩
  have hx4 := (hx3.drewN 1).all hb4
  clear e0 e1 e2 e3 e4 e5
  have e0 : w4.cell? ⟨w.heap.size, 0, none⟩ = some (.slice (some ⟨b, off, none⟩) m cu) := hx4.cell rfl
  have e1 : w4.cell? ⟨w.heap.size, 1, none⟩ = some (.slice Aa n ca) := hx4.cell rfl
  have e2 : w4.cell? ⟨w.heap.size, 2, none⟩ = some (.slice Am k cm) := hx4.cell rfl
  have e3 : w4.cell? ⟨w.heap.size, 3, none⟩ = some (.int .i64 few) := hx4.cell rfl
  have e4 : w4.cell? ⟨w.heap.size, 4, none⟩ = some (.int .i64 most) := hx4.cell rfl
  have e5 := (hb04.cell (p := ⟨b, off + u, none⟩) hbw).trans hc
  go_wp2_with fail
  refine wp_still_tailD 6 (by kernel_rfl) (by kernel_rfl) ?_
  simp only [List.take_succ_cons, List.take_zero, List.drop_succ_cons, List.drop_zero]
  repeat still_step
  refine wpStill_nil ?_
  go_wp2_with fail
  refine (C9.out _ (belowD hb04 1)).mono ?_
  rintro e w5 ⟨rfl, hb5, hb05⟩
  have hx5 := (hx4.drewN 1).all hb5
  clear e0 e1 e2 e3 e4 e5
  have e0 : w5.cell? ⟨w.heap.size, 0, none⟩ = some (.slice (some ⟨b, off, none⟩) m cu) := hx5.cell rfl
  have e1 : w5.cell? ⟨w.heap.size, 1, none⟩ = some (.slice Aa n ca) := hx5.cell rfl
  have e2 : w5.cell? ⟨w.heap.size, 2, none⟩ = some (.slice Am k cm) := hx5.cell rfl
  have e3 : w5.cell? ⟨w.heap.size, 3, none⟩ = some (.int .i64 few) := hx5.cell rfl
  have e4 : w5.cell? ⟨w.heap.size, 4, none⟩ = some (.int .i64 most) := hx5.cell rfl
  have e5 := (hb05.cell (p := ⟨b, off + u, none⟩) hbw).trans hc
  go_wp2_with fail
  refine (CH.out _ hb05).mono ?_
  rintro e w6 ⟨rfl, hb6, hb06⟩
  have hx6 := hx5.all hb6
  clear e0 e1 e2 e3 e4 e5
  have e0 : w6.cell? ⟨w.heap.size, 0, none⟩ = some (.slice (some ⟨b, off, none⟩) m cu) := hx6.cell rfl
  have e1 : w6.cell? ⟨w.heap.size, 1, none⟩ = some (.slice Aa n ca) := hx6.cell rfl
  have e2 : w6.cell? ⟨w.heap.size, 2, none⟩ = some (.slice Am k cm) := hx6.cell rfl
  have e3 : w6.cell? ⟨w.heap.size, 3, none⟩ = some (.int .i64 few) := hx6.cell rfl
  have e4 : w6.cell? ⟨w.heap.size, 4, none⟩ = some (.int .i64 most) := hx6.cell rfl
  have e5 := (hb06.cell (p := ⟨b, off + u, none⟩) hbw).trans hc
  go_wp2_with fail
  refine (CE0.out _ hb06).mono ?_
  rintro e w7 ⟨rfl, hb7, hb07⟩
  have hx7 := hx6.all hb7
  clear e0 e1 e2 e3 e4 e5
  have e0 : w7.cell? ⟨w.heap.size, 0, none⟩ = some (.slice (some ⟨b, off, none⟩) m cu) := hx7.cell rfl
  have e1 : w7.cell? ⟨w.heap.size, 1, none⟩ = some (.slice Aa n ca) := hx7.cell rfl
  have e2 : w7.cell? ⟨w.heap.size, 2, none⟩ = some (.slice Am k cm) := hx7.cell rfl
  have e3 : w7.cell? ⟨w.heap.size, 3, none⟩ = some (.int .i64 few) := hx7.cell rfl
  have e4 : w7.cell? ⟨w.heap.size, 4, none⟩ = some (.int .i64 most) := hx7.cell rfl
  have e5 := (hb07.cell (p := ⟨b, off + u, none⟩) hbw).trans hc
  go_wp2_with fail
  refine (CM.out _ hb07).mono ?_
  rintro e w8 ⟨rfl, hb8, hb08⟩
  have hx8 := hx7.all hb8
  clear e0 e1 e2 e3 e4 e5
  have e0 : w8.cell? ⟨w.heap.size, 0, none⟩ = some (.slice (some ⟨b, off, none⟩) m cu) := hx8.cell rfl
  have e1 : w8.cell? ⟨w.heap.size, 1, none⟩ = some (.slice Aa n ca) := hx8.cell rfl
  have e2 : w8.cell? ⟨w.heap.size, 2, none⟩ = some (.slice Am k cm) := hx8.cell rfl
  have e3 : w8.cell? ⟨w.heap.size, 3, none⟩ = some (.int .i64 few) := hx8.cell rfl
  have e4 : w8.cell? ⟨w.heap.size, 4, none⟩ = some (.int .i64 most) := hx8.cell rfl
  have e5 := (hb08.cell (p := ⟨b, off + u, none⟩) hbw).trans hc
  go_wp2_with fail
  refine (CE0.out _ hb08).mono ?_
  rintro e w9 ⟨rfl, hb9, hb09⟩
  have hx9 := hx8.all hb9
  clear e0 e1 e2 e3 e4 e5
  have e0 : w9.cell? ⟨w.heap.size, 0, none⟩ = some (.slice (some ⟨b, off, none⟩) m cu) := hx9.cell rfl
  have e1 : w9.cell? ⟨w.heap.size, 1, none⟩ = some (.slice Aa n ca) := hx9.cell rfl
  have e2 : w9.cell? ⟨w.heap.size, 2, none⟩ = some (.slice Am k cm) := hx9.cell rfl
  have e3 : w9.cell? ⟨w.heap.size, 3, none⟩ = some (.int .i64 few) := hx9.cell rfl
  have e4 : w9.cell? ⟨w.heap.size, 4, none⟩ = some (.int .i64 most) := hx9.cell rfl
  have e5 := (hb09.cell (p := ⟨b, off + u, none⟩) hbw).trans hc
  go_wp2_with fail
  refine (CK.out _ hb09).mono ?_
  rintro e w10 ⟨rfl, hb10, hb010⟩
  have hx10 := hx9.all hb10
  clear e0 e1 e2 e3 e4 e5
  have e0 : w10.cell? ⟨w.heap.size, 0, none⟩ = some (.slice (some ⟨b, off, none⟩) m cu) := hx10.cell rfl
  have e1 : w10.cell? ⟨w.heap.size, 1, none⟩ = some (.slice Aa n ca) := hx10.cell rfl
  have e2 : w10.cell? ⟨w.heap.size, 2, none⟩ = some (.slice Am k cm) := hx10.cell rfl
  have e3 : w10.cell? ⟨w.heap.size, 3, none⟩ = some (.int .i64 few) := hx10.cell rfl
  have e4 : w10.cell? ⟨w.heap.size, 4, none⟩ = some (.int .i64 most) := hx10.cell rfl
  have e5 := (hb010.cell (p := ⟨b, off + u, none⟩) hbw).trans hc
  go_wp2_with fail
  have Q := Lib.hid (fun (d : Nat) (os : Array Obj) => Calls.regrown_of ((CD.out (Sort.grow (redrawn w10 d) os) (hb010.trans ((below_regrown w10 d os).mono hb010.size))).mono fun e w' ⟨he, h1, _⟩ => ⟨he, h1⟩))
  have g0 := cell_regrown e0
  have g1 := cell_regrown e1
  have g2 := cell_regrown e2
  have g3 := cell_regrown e3
  have g4 := cell_regrown e4
  have g5 := cell_regrown e5
  refine wp_region_quiet_below (by kernel_rfl) (by kernel_rfl) ?_
  repeat (go_big_quiet_step (with_reducible exact Q.out _ _))
  refine wpQuiet_nil ?_
  rintro _ ⟨pq, rfl⟩
  have hb11 := below_regrown w10 pq.d pq.os
  have hb011 := hb010.trans (hb11.mono hb010.size)
  generalize Sort.grow (redrawn w10 pq.d) pq.os = w11 at *
  have hx11 := hx10.all hb11
  clear e0 e1 e2 e3 e4 e5 g0 g1 g2 g3 g4 g5 Q
  have e0 : w11.cell? ⟨w.heap.size, 0, none⟩ = some (.slice (some ⟨b, off, none⟩) m cu) := hx11.cell rfl
  have e1 : w11.cell? ⟨w.heap.size, 1, none⟩ = some (.slice Aa n ca) := hx11.cell rfl
  have e2 : w11.cell? ⟨w.heap.size, 2, none⟩ = some (.slice Am k cm) := hx11.cell rfl
  have e3 : w11.cell? ⟨w.heap.size, 3, none⟩ = some (.int .i64 few) := hx11.cell rfl
  have e4 : w11.cell? ⟨w.heap.size, 4, none⟩ = some (.int .i64 most) := hx11.cell rfl
  have e5 := (hb011.cell (p := ⟨b, off + u, none⟩) hbw).trans hc
  go_wp2_with fail
  refine (CN.out _ hb011).mono ?_
  rintro e w12 ⟨rfl, hb12, hb012⟩
  have hx12 := hx11.all hb12
  clear e0 e1 e2 e3 e4 e5
  have e0 : w12.cell? ⟨w.heap.size, 0, none⟩ = some (.slice (some ⟨b, off, none⟩) m cu) := hx12.cell rfl
  have e1 : w12.cell? ⟨w.heap.size, 1, none⟩ = some (.slice Aa n ca) := hx12.cell rfl
  have e2 : w12.cell? ⟨w.heap.size, 2, none⟩ = some (.slice Am k cm) := hx12.cell rfl
  have e3 : w12.cell? ⟨w.heap.size, 3, none⟩ = some (.int .i64 few) := hx12.cell rfl
  have e4 : w12.cell? ⟨w.heap.size, 4, none⟩ = some (.int .i64 most) := hx12.cell rfl
  have e5 := (hb012.cell (p := ⟨b, off + u, none⟩) hbw).trans hc
  go_wp2_with fail
  refine (CE0.out _ hb012).mono ?_
  rintro e w13 ⟨rfl, hb13, hb013⟩
  have hx13 := hx12.all hb13
  clear e0 e1 e2 e3 e4 e5
  have e0 : w13.cell? ⟨w.heap.size, 0, none⟩ = some (.slice (some ⟨b, off, none⟩) m cu) := hx13.cell rfl
  have e1 : w13.cell? ⟨w.heap.size, 1, none⟩ = some (.slice Aa n ca) := hx13.cell rfl
  have e2 : w13.cell? ⟨w.heap.size, 2, none⟩ = some (.slice Am k cm) := hx13.cell rfl
  have e3 : w13.cell? ⟨w.heap.size, 3, none⟩ = some (.int .i64 few) := hx13.cell rfl
  have e4 : w13.cell? ⟨w.heap.size, 4, none⟩ = some (.int .i64 most) := hx13.cell rfl
  have e5 := (hb013.cell (p := ⟨b, off + u, none⟩) hbw).trans hc
  go_wp2_with fail
  go_ret
  exact ⟨rfl, hb013⟩

end Go.Proofs.YtpfmllpodjcldaaDoor
