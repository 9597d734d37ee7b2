/-
  The walk of RolesSays, all ways.
-/
import Derived.Test.YtpfmllpodjcldaaDoorRolesSays
import Derived.Test.YtpfmllpodjcldaaDoorFrame
namespace Go.Proofs.YtpfmllpodjcldaaDoor
open Go.RowKit
set_option maxRecDepth 100000
set_option linter.unusedVariables false

theorem RolesSays_walk (U A M : List Int) (Au Aa Am : Option Addr) (cu ca cm : Nat) (few most : Int) {W : World} (hU : IntsAt W Au U) (hA : IntsAt W Aa A) (hM : IntsAt W Am M) (sU : U.length < 2 ^ 64) (sA : A.length < 2 ^ 64) (sM : M.length < 2 ^ 64) (bf : I64 few) (bm : I64 most) (user : Int) (bu : I64 user) (want : Int) (bw : I64 want) (w : World) (hw : w = W) (hT : Tab W) (hE : ErrT W) :
    Calls Tryd.prog 5 #[.agg #[.slice Au U.length cu, .slice Aa A.length ca, .slice Am M.length cm, .int .i64 few, .int .i64 most], .int .i64 user, .int .i64 want] w fun e w' => e = .returned (.bool true) ∧ Below W.heap.size W w' := by
  subst hw
  obtain ⟨kk, hk⟩ : ∃ kk, rolesCode U A M few most = kk := ⟨_, rfl⟩
  by_cases hne : kk = 0
  · subst hne
    by_cases h0 : user < 0
    · exact RolesSays_neg U A M Au Aa Am cu ca cm few most hU hA hM sU sA sM user want hk h0 hT hE
    by_cases h1 : (U.length : Int) ≤ user
    · exact RolesSays_big U A M Au Aa Am cu ca cm few most hU hA hM sU sA sM user want hk h1 hT hE
    obtain ⟨r, Un, Mn, fN, hok⟩ := rolesCode_ok hk
    obtain ⟨u, hu⟩ := Int.eq_ofNat_of_zero_le (show 0 ≤ user by omega)
    have huU : u < U.length := by omega
    by_cases hwm : 0 ≤ want ∧ want < 1024
    · obtain ⟨wn, hwn⟩ := Int.eq_ofNat_of_zero_le hwm.1
      rcases needTo_law (r := r) (M := Mn) (mine := allS r (row Un u)) (want := wn) (2 ^ r.length) with h | ⟨b, h, _⟩
      · exact RolesSays_none U A M Au Aa Am cu ca cm few most hU hA hM sU sA sM user want hk r Un Mn fN hok u hu huU wn hwn (by omega) h.1 hT hE
      · exact RolesSays_some U A M Au Aa Am cu ca cm few most hU hA hM sU sA sM user want hk r Un Mn fN hok u hu huU wn hwn (by omega) b h hT hE
    · exact RolesSays_mask U A M Au Aa Am cu ca cm few most hU hA hM sU sA sM user want hk r Un Mn fN hok u hu huU hwm hT hE
  · exact RolesSays_bad U A M Au Aa Am cu ca cm few most hU hA hM sU sA sM user want hk hne hT hE
end Go.Proofs.YtpfmllpodjcldaaDoor
