/-
  The walk of RolesNeed, all ways.
-/
import Derived.Test.YtdnkknggnhihgaaDoorRolesNeed
import Derived.Test.YtdnkknggnhihgaaDoorFrame
namespace Go.Proofs.YtdnkknggnhihgaaDoor
open Go.RowKit
set_option maxRecDepth 100000
set_option linter.unusedVariables false

set_option maxHeartbeats 2000000 in
theorem RolesNeed_walk (U A M : List Int) (Au Aa Am : Option Addr) (cu ca cm : Nat) (few most : Int) {W : World} (hU : IntsAt W Au U) (hA : IntsAt W Aa A) (hM : IntsAt W Am M) (sU : U.length < 2 ^ 64) (sA : A.length < 2 ^ 64) (sM : M.length < 2 ^ 64) (bf : I64 few) (bm : I64 most) (user : Int) (bu : I64 user) (want : Int) (bw : I64 want) (other : Int) (bo : I64 other) (w : World) (hw : w = W) (hT : Tab W) :
    Calls Tryd.prog 5 #[.agg #[.slice Au U.length cu, .slice Aa A.length ca, .slice Am M.length cm, .int .i64 few, .int .i64 most], .int .i64 user, .int .i64 want, .int .i64 other] w fun e w' => e = .returned (.bool true) ∧ Below W.heap.size W w' := by
  subst hw
  by_cases hz : needCode0 U A M few most user want = 0
  · have hz1 : rolesCode U A M few most = 0 ∧ ((0 ≤ user ∧ user < U.length) ∧ (0 ≤ want ∧ want < 1024)) := by
      unfold needCode0 at hz
      split at hz
      · rename_i h1
        split at hz
        · rename_i h2; exact ⟨h1, h2⟩
        · cases hz
      · rename_i h1; exact absurd hz h1
    obtain ⟨hz1, ⟨hu0, hu1⟩, hw0, hw1⟩ := hz1
    obtain ⟨u, rfl⟩ := Int.eq_ofNat_of_zero_le hu0
    obtain ⟨v, rfl⟩ := Int.eq_ofNat_of_zero_le hw0
    exact RolesNeed_ok U A M Au Aa Am cu ca cm few most hU hA hM u (by omega) v (by omega) other hz1 hT
  · obtain ⟨kk, hk⟩ : ∃ kk, needCode0 U A M few most user want = kk := ⟨_, rfl⟩
    have hne : kk ≠ 0 := by rw [← hk]; exact hz
    exact RolesNeed_no _ _ _ _ _ _ _ _ _ _ _ hT _ _ _ (Lib.hid (fun V (hV : Below w.heap.size w V) => (RNeed_bad (cu := cu) (ca := ca) (cm := cm) (hU.below hV) (hA.below hV) (hM.below hV) sU sA sM (hT.next hV) hk hne).mono fun e w' ⟨he, hx⟩ => ⟨⟨(kk : Int), he⟩, hV.trans (hx.mono hV.size)⟩))
end Go.Proofs.YtdnkknggnhihgaaDoor
