/-
  The walk of GrantSays.
-/
import Derived.Test.YtdnkknggnhihgaaDoorGrantS
import Derived.Test.YtdnkknggnhihgaaDoorGrantQ
import Derived.Test.YtdnkknggnhihgaaDoorGrantPu
import Derived.Test.YtdnkknggnhihgaaDoorInts
import Derived.Test.YtdnkknggnhihgaaDoorAs
import Derived.Test.YtdnkknggnhihgaaDoorStructs
namespace Go.Proofs.YtdnkknggnhihgaaDoor
open Go.RowKit
set_option maxRecDepth 100000
set_option linter.unusedVariables false

theorem Ints_below (l : List Int) (A A' : Option Addr) (c c' : Nat) (w : World) (h : IntsAt w A l) (h' : IntsAt w A' l) (hl : l.length < 2 ^ 60) :
    Calls Tryd.prog 38 #[.slice A l.length c, .slice A' l.length c'] w fun e w' => e = .returned (.bool true) ∧ Below w.heap.size w w' :=
  (Ints_any l l A A' c c' w h h' hl).mono fun e w' ⟨he, n, hw⟩ => ⟨by rw [he]; simp, by rw [hw]; exact belowD (Below.refl _ _) n⟩

set_option maxHeartbeats 4000000 in
theorem GrantSays_bad (users : Int) (n : Nat) (G : List Int) (A : Option Addr) (c : Nat) (w : World) (hl : G.length = n * 3) (h : IntsAt w A G) (s3 : n * 3 < 2 ^ 47) (hcap : n ≤ c) (fr to : Int) {kk : Nat} (hz : gCode users G n = kk) (hne : kk ≠ 0) (hE : ErrT w) :
    Calls Tryd.prog 9 #[.int .i64 users, .slice A n c, .int .i64 fr, .int .i64 to] w fun e w' => e = .returned (.bool true) ∧ Below w.heap.size w w' := by
  have C1 := fun V (hV : IntsAt V A G) => RGivens_any users n G A c V hV (by omega) (by omega) hcap
  have C2 := fun V (hV : IntsAt V A G) => GCheck_any users n G A c V hV (by omega) (by omega) hcap
  rw [hz] at C1 C2
  rw [errVal_pos hne] at C2
  have C1 := Lib.hid C1
  have C2 := Lib.hid C2
  have C3 := Lib.hid (fun V (hV : IntsAt V A G) => GHolds_bad users n G A c V hV (by omega) (by omega) hcap hz hne)
  have C4 := Lib.hid (fun V (hV : IntsAt V A G) => GPath_bad users n G to A c V hV (by omega) (by omega) hcap (kk := kk) (by unfold pCode; rw [if_neg (by omega)]; exact hz) hne)
  have C5 := Lib.hid (fun V (hV : IntsAt V A G) => GRevoke_bad users n G fr to A c V hV (by omega) (by omega) hcap (kk := kk) (by unfold rCode; rw [if_neg (by omega)]; exact hz) hne)
  have CI := Lib.hid (fun V => Ints_below [] none none 0 0 V IntsAt.nil IntsAt.nil (by decide))
  have CG := Lib.hid (fun V => Givens_any [] [] 0 0 rfl rfl none none 0 0 V IntsAt.nil IntsAt.nil (by decide) (by decide) (r := true) (by decide))
  have HE := fun V (hV : Below w.heap.size w V) => Error_is kk kk true V (hE.next hV) (by simp)
  rw [errVal_pos hne] at HE
  have HE := Lib.hid HE
  have d0 : decide ((kk : Int) = 0) = false := by simp; omega
  have d1 : ((kk : Int) == 0) = false := by simp; omega
  clear hz hne hE
  go_enter Tryd.func9, Tryd.ntmps9
  go_wp2_with fail
  refine (C1.out _ h).mono ?_
  rintro e w1 ⟨rfl, hb01⟩
  go_wp2_with fail
  refine (C2.out _ (h.below hb01)).mono ?_
  rintro e w2 ⟨rfl, hb2⟩
  have hb02 := hb01.trans (hb2.mono hb01.size)
  go_wp2_with fail
  refine (HE.out _ hb02).mono ?_
  rintro e w3 ⟨rfl, hb3⟩
  have hb03 := hb02.trans (hb3.mono hb02.size)
  go_wp2_with fail
  refine (C3.out _ (h.below hb03)).mono ?_
  rintro e w4 ⟨rfl, hb4⟩
  have hb04 := hb03.trans (hb4.mono hb03.size)
  go_wp2_with fail
  refine (HE.out _ hb04).mono ?_
  rintro e w5 ⟨rfl, hb5⟩
  have hb05 := hb04.trans (hb5.mono hb04.size)
  go_wp2_with fail
  refine (C4.out _ (h.below hb05)).mono ?_
  rintro e w6 ⟨rfl, hb6⟩
  have hb06 := hb05.trans (hb6.mono hb05.size)
  go_wp2_with fail
  refine (HE.out _ hb06).mono ?_
  rintro e w7 ⟨rfl, hb7⟩
  have hb07 := hb06.trans (hb7.mono hb06.size)
  go_wp2_with fail
  refine (CI.out _).mono ?_
  rintro e w8 ⟨rfl, hb8⟩
  have hb08 := hb07.trans (hb8.mono hb07.size)
  go_wp2_with fail
  refine (C5.out _ (h.below hb08)).mono ?_
  rintro e w9 ⟨rfl, hb9⟩
  have hb09 := hb08.trans (hb9.mono hb08.size)
  go_wp2_with fail
  refine (HE.out _ hb09).mono ?_
  rintro e w10 ⟨rfl, hb10⟩
  have hb010 := hb09.trans (hb10.mono hb09.size)
  go_wp2_with fail
  refine (CG.out _).mono ?_
  rintro e w11 ⟨rfl, hb11⟩
  have hb011 := hb010.trans (hb11.mono hb010.size)
  go_wp2_with fail
  go_ret
  exact ⟨rfl, hb011⟩
end Go.Proofs.YtdnkknggnhihgaaDoor
