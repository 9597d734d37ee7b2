/-
  BibaPlays, where the levels are wrong.
-/
import Derived.Test.YtodikdmmmfeddaaDoorBibaF
import Derived.Test.YtodikdmmmfeddaaDoorBibaQ
namespace Go.Proofs.YtodikdmmmfeddaaDoor
open Go.RowKit
set_option maxRecDepth 100000
set_option linter.unusedVariables false

set_option maxHeartbeats 1000000 in
theorem BibaPlays_badF (U : List Int) (Ua : Option Addr) (Uc : Nat) (F : List Int) (Fa : Option Addr) (Fc : Nat) (n : Nat) (Ka : Option Addr) (Kc : Nat) (w : World) (hU : IntsAt w Ua U) (hF : IntsAt w Fa F) (sU : U.length < 2 ^ 47) (sF : F.length < 2 ^ 47) (hE : ErrT w) (h1 : levCode U 8 = 0) (h2 : ¬ levCode F 8 = 0) :
    Calls Tryd.prog 5 #[.slice Ua U.length Uc, .slice Fa F.length Fc, .slice Ka n Kc] w fun e w' => e = .returned (.bool true) ∧ Below w.heap.size w w' := by
  have L1 := Lib.hid (fun V (hV : IntsAt V Ua U) => Rlevels_any U 8 (by omega) Ua Uc V hV (by omega))
  have L2 := Lib.hid (fun V (hV : IntsAt V Fa F) => Rlevels_any F 8 (by omega) Fa Fc V hV (by omega))
  obtain ⟨kk, hk⟩ : ∃ kk, levCode F 8 = kk := ⟨_, rfl⟩
  have hne : kk ≠ 0 := by rw [← hk]; exact h2
  have HN := Lib.hid (fun V hU hF => New_bad U F Ua Fa Uc Fc V hU hF (by omega) (by omega) kk (by rw [h1, hk]; rfl) hne)
  have HE := Error_is kk kk true w hE (by simp)
  rw [errVal_pos hne] at HE
  have HE := Lib.hid HE
  rw [h1] at L1
  rw [hk] at L2
  have hz : ((kk : Int) == 0) = false := by simpa using hne
  have hz' : (kk : Int) ≠ 0 := by omega
  clear h1 h2 hk
  go_enter Tryd.func5, Tryd.ntmps5
  go_wp2_with fail
  refine (L1.out _ hU).mono ?_
  rintro e w' ⟨rfl, rfl⟩
  go_wp2_with fail
  refine (L2.out _ hF).mono ?_
  rintro e w' ⟨rfl, rfl⟩
  go_wp2_with fail
  refine (HN.out _ hU hF).mono ?_
  rintro e w' ⟨rfl, rfl⟩
  go_wp2_with fail
  refine HE.out.mono ?_
  rintro e w' ⟨rfl, hb⟩
  go_wp2_with fail
  go_ret
  exact ⟨rfl, hb⟩
set_option maxHeartbeats 1000000 in
theorem BibaPlays_badU (U : List Int) (Ua : Option Addr) (Uc : Nat) (F : List Int) (Fa : Option Addr) (Fc : Nat) (n : Nat) (Ka : Option Addr) (Kc : Nat) (w : World) (hU : IntsAt w Ua U) (hF : IntsAt w Fa F) (sU : U.length < 2 ^ 47) (sF : F.length < 2 ^ 47) (hE : ErrT w) (h1 : ¬ levCode U 8 = 0) :
    Calls Tryd.prog 5 #[.slice Ua U.length Uc, .slice Fa F.length Fc, .slice Ka n Kc] w fun e w' => e = .returned (.bool true) ∧ Below w.heap.size w w' := by
  have L1 := Lib.hid (fun V (hV : IntsAt V Ua U) => Rlevels_any U 8 (by omega) Ua Uc V hV (by omega))
  have L2 := Lib.hid (fun V (hV : IntsAt V Fa F) => Rlevels_any F 8 (by omega) Fa Fc V hV (by omega))
  obtain ⟨kk, hk⟩ : ∃ kk, levCode U 8 = kk := ⟨_, rfl⟩
  have hne : kk ≠ 0 := by rw [← hk]; exact h1
  have HN := Lib.hid (fun V hU hF => New_bad U F Ua Fa Uc Fc V hU hF (by omega) (by omega) kk (by rw [if_pos h1, hk]) hne)
  have HE := Error_is kk kk true w hE (by simp)
  rw [errVal_pos hne] at HE
  have HE := Lib.hid HE
  rw [hk] at L1
  have hz : ((kk : Int) == 0) = false := by simpa using hne
  have hz' : (kk : Int) ≠ 0 := by omega
  clear h1 hk
  go_enter Tryd.func5, Tryd.ntmps5
  go_wp2_with fail
  refine (L1.out _ hU).mono ?_
  rintro e w' ⟨rfl, rfl⟩
  go_wp2_with fail
  refine (HN.out _ hU hF).mono ?_
  rintro e w' ⟨rfl, rfl⟩
  go_wp2_with fail
  refine HE.out.mono ?_
  rintro e w' ⟨rfl, hb⟩
  go_wp2_with fail
  go_ret
  exact ⟨rfl, hb⟩
end Go.Proofs.YtodikdmmmfeddaaDoor
