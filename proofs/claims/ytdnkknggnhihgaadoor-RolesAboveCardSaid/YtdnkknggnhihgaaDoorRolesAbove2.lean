/-
  The walk of RolesAbove, all ways.
-/
import Derived.Test.YtdnkknggnhihgaaDoorRolesAbove
namespace Go.Proofs.YtdnkknggnhihgaaDoor
open Go.RowKit
set_option maxRecDepth 100000
set_option linter.unusedVariables false

set_option maxHeartbeats 2000000 in
theorem RolesAbove_walk (U A M : List Int) (Au Aa Am : Option Addr) (cu ca cm : Nat) (few most : Int) {W : World} (hU : IntsAt W Au U) (hA : IntsAt W Aa A) (hM : IntsAt W Am M) (sU : U.length < 2 ^ 64) (sA : A.length < 2 ^ 64) (sM : M.length < 2 ^ 64) (bf : I64 few) (bm : I64 most) (user : Int) (bu : I64 user) (more : Int) (bm2 : I64 more) (w : World) (hw : w = W) (hT : Tab W) :
    Calls Tryd.prog 3 #[.agg #[.slice Au U.length cu, .slice Aa A.length ca, .slice Am M.length cm, .int .i64 few, .int .i64 most], .int .i64 user, .int .i64 more] w fun e w' => e = .returned (.bool true) ∧ Below W.heap.size W w' := by
  subst hw
  by_cases hz : hasCode U A M few most user = 0
  · have hz1 : rolesCode U A M few most = 0 ∧ (0 ≤ user ∧ user < U.length) := by
      unfold hasCode at hz
      split at hz
      · rename_i h1
        split at hz
        · rename_i h2; exact ⟨h1, h2⟩
        · cases hz
      · rename_i h1; exact absurd hz h1
    obtain ⟨hz1, hu0, hu1⟩ := hz1
    obtain ⟨u, rfl⟩ := Int.eq_ofNat_of_zero_le hu0
    exact RolesAbove_ok U A M Au Aa Am cu ca cm few most hU hA hM u (by omega) more hz1 hT
  · have HF := Lib.hid (fun V (hV : Below w.heap.size w V) => rolesFact_true V (hT.next hV))
    have hb0 : Below w.heap.size w (w.alloc (.cells #[.slice Au U.length cu, .slice Aa A.length ca, .slice Am M.length cm, .int .i64 few, .int .i64 most] 24)) := (Below.refl _ _).alloc (Nat.le_refl _) _
    have hx0 := BoxN.new w 24 #[.slice Au U.length cu, .slice Aa A.length ca, .slice Am M.length cm, .int .i64 few, .int .i64 most]
    obtain ⟨kk, hk⟩ : ∃ kk, hasCode U A M few most user = kk := ⟨_, rfl⟩
    have hne : kk ≠ 0 := by rw [← hk]; exact hz
    have HH := Lib.hid (fun V (hV : Below w.heap.size w V) => (RHas_bad (cu := cu) (ca := ca) (cm := cm) (hU.below hV) (hA.below hV) (hM.below hV) sU sA sM (hT.next hV) hk hne).mono fun e w' ⟨he, hx⟩ => (⟨he, hV.trans (hx.mono hV.size)⟩ : _ ∧ Below w.heap.size w w'))
    have HM := Lib.hid (fun V (hV : Below w.heap.size w V) => (RMay_bad (cu := cu) (ca := ca) (cm := cm) (hU.below hV) (hA.below hV) (hM.below hV) sU sA sM (hT.next hV) hk hne).mono fun e w' ⟨he, hx⟩ => (⟨he, hx, hV.trans (hx.mono hV.size)⟩ : _ ∧ Below V.heap.size V w' ∧ Below w.heap.size w w'))
    clear hz hk hne hU hA hM hT
    generalize U.length = m at *
    generalize A.length = n at *
    generalize M.length = k at *
    go_enter Tryd.func3, Tryd.ntmps3
    go_wp2_with fail
    refine (HF.out _ hb0).mono ?_
    rintro e w1 ⟨rfl, hb1⟩
    have hx1 := hx0.all hb1
    have hb01 := hb0.trans (hb1.mono hb0.size)
    have e0 : w1.cell? ⟨w.heap.size, 0, none⟩ = some (.slice Au m cu) := hx1.cell rfl
    have e1 : w1.cell? ⟨w.heap.size, 1, none⟩ = some (.slice Aa n ca) := hx1.cell rfl
    have e2 : w1.cell? ⟨w.heap.size, 2, none⟩ = some (.slice Am k cm) := hx1.cell rfl
    have e3 : w1.cell? ⟨w.heap.size, 3, none⟩ = some (.int .i64 few) := hx1.cell rfl
    have e4 : w1.cell? ⟨w.heap.size, 4, none⟩ = some (.int .i64 most) := hx1.cell rfl
    clear hx0 hb0 hb1 HF
    go_wp2_with fail
    refine (HM.out _ hb01).mono ?_
    rintro e w2 ⟨rfl, hb2, hb02⟩
    have hx2 := hx1.all hb2
    clear e0 e1 e2 e3 e4 HM hx1 hb2 hb01
    have e0 : w2.cell? ⟨w.heap.size, 0, none⟩ = some (.slice Au m cu) := hx2.cell rfl
    have e1 : w2.cell? ⟨w.heap.size, 1, none⟩ = some (.slice Aa n ca) := hx2.cell rfl
    have e2 : w2.cell? ⟨w.heap.size, 2, none⟩ = some (.slice Am k cm) := hx2.cell rfl
    have e3 : w2.cell? ⟨w.heap.size, 3, none⟩ = some (.int .i64 few) := hx2.cell rfl
    have e4 : w2.cell? ⟨w.heap.size, 4, none⟩ = some (.int .i64 most) := hx2.cell rfl
    go_wp2_with fail
    refine (HH.out _ hb02).mono ?_
    rintro e w3 ⟨rfl, hb3⟩
    go_wp2_with fail
    go_ret
    exact ⟨rfl, hb3⟩
end Go.Proofs.YtdnkknggnhihgaaDoor
