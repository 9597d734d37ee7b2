/-
  The walk of RolesNeed.
-/
import Derived.Test.YtdnkknggnhihgaaDoorRoleN
import Derived.Test.YtdnkknggnhihgaaDoorRoleF
import Derived.Test.YtdnkknggnhihgaaDoorPush
import Derived.Test.YtdnkknggnhihgaaDoorSets
namespace Go.Proofs.YtdnkknggnhihgaaDoor
open Go.RowKit
set_option maxRecDepth 100000
set_option linter.unusedVariables false

theorem row_one {x n : Nat} (hx : x < 2 ^ n) : ∀ i, row [x] i < 2 ^ n := fun i => by
  match i with
  | 0 => exact hx
  | i + 1 => exact Nat.two_pow_pos n

theorem boxInts {w : World} {g : Nat} {x : Int} (h : BoxN w g 3 #[.int .i64 x]) : IntsAt w (some ⟨g, 0, none⟩) [x] := fun _ => ⟨_, 0, rfl, fun j y hj => by
  rw [Nat.zero_add]
  match j, hj with
  | 0, hj => cases hj; exact h.cell rfl⟩

set_option maxHeartbeats 2000000 in
/-- The walk where Need tells an error. -/
theorem RolesNeed_no (m n k : Nat) (Au Aa Am : Option Addr) (cu ca cm : Nat) (few most : Int) {w : World} (hT : Tab w) (user want other : Int)
    (HN : Hid (∀ V, Below w.heap.size w V → Calls Tryd.prog 21 #[.agg #[.slice Au m cu, .slice Aa n ca, .slice Am k cm, .int .i64 few, .int .i64 most], .int .i64 user, .int .i64 want] V fun e w' => (∃ kk : Int, e = .returned (.tuple #[.int .i64 0, .iface 84 (.int .i64 kk)])) ∧ Below w.heap.size w w')) :
    Calls Tryd.prog 5 #[.agg #[.slice Au m cu, .slice Aa n ca, .slice Am k cm, .int .i64 few, .int .i64 most], .int .i64 user, .int .i64 want, .int .i64 other] w fun e w' => e = .returned (.bool true) ∧ Below w.heap.size w w' := by
  have HF := Lib.hid (fun V (hV : Below w.heap.size w V) => rolesFact_true V (hT.next hV))
  have hb0 : Below w.heap.size w (w.alloc (.cells #[.slice Au m cu, .slice Aa n ca, .slice Am k cm, .int .i64 few, .int .i64 most] 24)) := (Below.refl _ _).alloc (Nat.le_refl _) _
  have hx0 := BoxN.new w 24 #[.slice Au m cu, .slice Aa n ca, .slice Am k cm, .int .i64 few, .int .i64 most]
  clear hT
  go_enter Tryd.func5, Tryd.ntmps5
  go_wp2_with fail
  refine (HF.out _ hb0).mono ?_
  rintro e w1 ⟨rfl, hb1⟩
  have hx1 := hx0.all hb1
  have hb01 := hb0.trans (hb1.mono hb0.size)
  have e0 : w1.cell? ⟨w.heap.size, 0, none⟩ = some (.slice Au m cu) := hx1.cell rfl
  have e1 : w1.cell? ⟨w.heap.size, 1, none⟩ = some (.slice Aa n ca) := hx1.cell rfl
  have e2 : w1.cell? ⟨w.heap.size, 2, none⟩ = some (.slice Am k cm) := hx1.cell rfl
  have e3 : w1.cell? ⟨w.heap.size, 3, none⟩ = some (.int .i64 few) := hx1.cell rfl
  have e4 : w1.cell? ⟨w.heap.size, 4, none⟩ = some (.int .i64 most) := hx1.cell rfl
  clear hx0 hb0 hb1 HF
  go_wp2_with fail
  refine (HN.out _ hb01).mono ?_
  rintro e w2 ⟨⟨kk, rfl⟩, hb2⟩
  go_wp2_with fail
  go_ret
  exact ⟨rfl, hb2⟩

set_option maxHeartbeats 8000000 in
theorem RolesNeed_ok (U A M : List Int) (Au Aa Am : Option Addr) (cu ca cm : Nat) (few most : Int) {w : World} (hU : IntsAt w Au U) (hA : IntsAt w Aa A) (hM : IntsAt w Am M) (u : Nat) (huU : u < U.length) (want : Nat) (hwant : want < 1024) (other : Int) (hz1 : rolesCode U A M few most = 0) (hT : Tab w) :
    Calls Tryd.prog 5 #[.agg #[.slice Au U.length cu, .slice Aa A.length ca, .slice Am M.length cm, .int .i64 few, .int .i64 most], .int .i64 u, .int .i64 want, .int .i64 other] w fun e w' => e = .returned (.bool true) ∧ Below w.heap.size w w' := by
  obtain ⟨r, Un, Mn, fN, hok⟩ := rolesCode_ok hz1
  have hff := hok.f
  subst hff
  rcases needTo_law (r := r) (M := Mn) (mine := allS r (row Un u)) (want := want) (2 ^ r.length) with ⟨h1, -⟩ | ⟨b, h1, hbn, hwd, hmin⟩
  · exact RolesNeed_no _ _ _ _ _ _ _ _ _ _ _ hT _ _ _ (Lib.hid (fun V hV => (RNeed_any (cu := cu) (ca := ca) (cm := cm) (hU.below hV) (hA.below hV) (hM.below hV) (hT.next hV) hok hz1 huU hwant h1 (v := .tuple #[.int .i64 0, .iface 84 (.int .i64 7)]) (if_pos (by decide)).symm).mono fun e w' ⟨he, hx⟩ => ⟨⟨7, he⟩, hV.trans (hx.mono hV.size)⟩))
  have HF := Lib.hid (fun V (hV : Below w.heap.size w V) => rolesFact_true V (hT.next hV))
  have hb0 : Below w.heap.size w (w.alloc (.cells #[.slice Au U.length cu, .slice Aa A.length ca, .slice Am M.length cm, .int .i64 fN, .int .i64 most] 24)) := (Below.refl _ _).alloc (Nat.le_refl _) _
  have hx0 := BoxN.new w 24 #[.slice Au U.length cu, .slice Aa A.length ca, .slice Am M.length cm, .int .i64 fN, .int .i64 most]
  have HN1 := Lib.hid (fun V (hV : Below w.heap.size w V) => (RNeed_any (cu := cu) (ca := ca) (cm := cm) (hU.below hV) (hA.below hV) (hM.below hV) (hT.next hV) hok hz1 huU hwant h1 (v := .tuple #[.int .i64 b, .nilIface]) (if_neg (by omega)).symm).mono fun e w' ⟨he, hx⟩ => (⟨he, hx, hV.trans (hx.mono hV.size)⟩ : _ ∧ Below V.heap.size V w' ∧ Below w.heap.size w w'))
  have HH1 := Lib.hid (fun V (hV : Below w.heap.size w V) => (RHas_ok (cu := cu) (ca := ca) (cm := cm) (hU.below hV) (hA.below hV) (hM.below hV) (hT.next hV) hok hz1 huU).mono fun e w' ⟨he, hx⟩ => (⟨he, hx, hV.trans (hx.mono hV.size)⟩ : _ ∧ Below V.heap.size V w' ∧ Below w.heap.size w w'))
  have hlA : A.length = r.length := by rw [hok.a, length_castL]
  have hla := hok.la
  have hs := hok.bu u
  have hh := allS_lt hla hok.ba (row Un u)
  have hp8 : 2 ^ r.length ≤ 256 := Nat.pow_le_pow_right (n := 2) (by decide) hla
  have HMx := Lib.hid (fun (x : Nat) (hx : x < 2 ^ r.length) V B d (hB : IntsAt V B [(x : Int)]) (hV : Below w.heap.size w V) =>
    (show Calls Tryd.prog 15 #[.agg #[.slice B 1 d, .slice Aa A.length ca, .slice Am M.length cm, .int .i64 0, .int .i64 8], .int .i64 0] V fun e w' => e = .returned (.tuple #[.int .i64 (taskS r Mn x : Nat), .nilIface]) ∧ Below V.heap.size V w' from
      RMay_ok (cu := d) (ca := ca) (cm := cm) hB (hA.below hV) (hM.below hV) (hT.next hV) (hok.other [x] (by simp) (row_one hx) 0 (Nat.two_pow_pos _)).1 (hok.other [x] (by simp) (row_one hx) 0 (Nat.two_pow_pos _)).2 (u := 0) (by simp)))
  have hwd2 := hwd
  unfold willDo at hwd2
  obtain ⟨hw1, hw2⟩ := Bool.and_eq_true_iff.1 hwd2
  have htl := Lib.hid (fun s => taskS_lt (r := r) (s := s) hok.bm)
  have Hmin := Lib.hid (fun o (ho : o < 2 ^ r.length) (h1 : within o (allS r (row Un u)) = true) (h2 : within want (taskS r Mn o) = true) => hmin o ho (by unfold willDo; rw [h1, h2]; rfl))
  have HW1 := Lib.hid (fun V => Within_is b (allS r (row Un u)) true V (by omega) (by omega) hw1)
  have ht1024 := htl.out b
  have HW2 := Lib.hid (fun V => Within_is want (taskS r Mn b) true V (by omega) (by omega) hw2)
  have HP2 := Lib.hid (fun V => Pow2_any r.length V (by omega))
  have HMb := Lib.hid (HMx.out b hbn)
  rw [hlA] at HN1 HH1 HMx HMb hb0 hx0 ⊢
  clear hok hlA hs hz1 hU hA hM hT hwd hwd2 hmin h1
  generalize U.length = m at *
  generalize M.length = k at *
  generalize allS r (row Un u) = mine at *
  generalize hPe : 2 ^ r.length = P at *
  have HPe := Lib.hid hPe
  clear hPe
  generalize hrn : r.length = n at *
  clear hrn
  go_enter Tryd.func5, Tryd.ntmps5
  go_wp2_with fail
  refine (HF.out _ hb0).mono ?_
  rintro e w1 ⟨rfl, hb1⟩
  have hx1 := hx0.all hb1
  have hb01 := hb0.trans (hb1.mono hb0.size)
  have hl1' := hx1.lt
  have e0 : w1.cell? ⟨w.heap.size, 0, none⟩ = some (.slice Au m cu) := hx1.cell rfl
  have e1 : w1.cell? ⟨w.heap.size, 1, none⟩ = some (.slice Aa n ca) := hx1.cell rfl
  have e2 : w1.cell? ⟨w.heap.size, 2, none⟩ = some (.slice Am k cm) := hx1.cell rfl
  have e3 : w1.cell? ⟨w.heap.size, 3, none⟩ = some (.int .i64 (fN : Nat)) := hx1.cell rfl
  have e4 : w1.cell? ⟨w.heap.size, 4, none⟩ = some (.int .i64 most) := hx1.cell rfl
  clear hx0 hb0 hb1 HF
  go_wp2_with fail
  refine (HN1.out _ hb01).mono ?_
  rintro e w2 ⟨rfl, hb2, hb02⟩
  have hx2 := hx1.all hb2
  clear e0 e1 e2 e3 e4 HN1 hx1 hb2 hb01
  have e0 : w2.cell? ⟨w.heap.size, 0, none⟩ = some (.slice Au m cu) := hx2.cell rfl
  have e1 : w2.cell? ⟨w.heap.size, 1, none⟩ = some (.slice Aa n ca) := hx2.cell rfl
  have e2 : w2.cell? ⟨w.heap.size, 2, none⟩ = some (.slice Am k cm) := hx2.cell rfl
  have e3 : w2.cell? ⟨w.heap.size, 3, none⟩ = some (.int .i64 (fN : Nat)) := hx2.cell rfl
  have e4 : w2.cell? ⟨w.heap.size, 4, none⟩ = some (.int .i64 most) := hx2.cell rfl
  go_wp2_with fail
  refine (HH1.out _ hb02).mono ?_
  rintro e w3 ⟨rfl, hb3, hb03⟩
  have hx3 := hx2.all hb3
  clear e0 e1 e2 e3 e4 HH1 hx2 hb3 hb02
  have e0 : w3.cell? ⟨w.heap.size, 0, none⟩ = some (.slice Au m cu) := hx3.cell rfl
  have e1 : w3.cell? ⟨w.heap.size, 1, none⟩ = some (.slice Aa n ca) := hx3.cell rfl
  have e2 : w3.cell? ⟨w.heap.size, 2, none⟩ = some (.slice Am k cm) := hx3.cell rfl
  have hl3 := hx3.lt
  have d1 : decide ((b : Int) < 0) = false := by simp
  have d2 : decide ((b : Int) > 255) = false := decide_eq_false (by omega)
  have d3 : decide ((mine : Int) < 0) = false := by simp
  have d4 : decide ((mine : Int) > 255) = false := decide_eq_false (by omega)
  go_wp2_with fail
  refine (HW1.out _).mono ?_
  rintro e w' ⟨rfl, rfl⟩
  have hog := BoxN.new w3 3 #[.int .i64 b]
  have hb34 := (Below.refl w3.heap.size w3).alloc (Nat.le_refl _) (.cells #[.int .i64 b] 3)
  have hl34 : (w3.alloc (.cells #[.int .i64 b] 3)).heap.size = w3.heap.size + 1 := by simp
  have hE1 : (w3.alloc (.cells #[.int .i64 b] 3)).cell? ⟨w.heap.size, 1, none⟩ = some (.slice Aa n ca) := (hx3.all hb34).cell rfl
  have hE2 : (w3.alloc (.cells #[.int .i64 b] 3)).cell? ⟨w.heap.size, 2, none⟩ = some (.slice Am k cm) := (hx3.all hb34).cell rfl
  go_wp2_with fail
  have hxs := BoxN.new (w3.alloc (.cells #[.int .i64 b] 3)) 24 #[.slice (some ⟨w3.heap.size, 0, none⟩) 1 1, .slice Aa n ca, .slice Am k cm, .int .i64 0, .int .i64 8]
  rw [hl34] at hxs
  have hog5 := hog.alloc (.cells #[.slice (some ⟨w3.heap.size, 0, none⟩) 1 1, .slice Aa n ca, .slice Am k cm, .int .i64 0, .int .i64 8] 24)
  have hb35 := hb34.alloc (by rw [hl34]; omega) (.cells #[.slice (some ⟨w3.heap.size, 0, none⟩) 1 1, .slice Aa n ca, .slice Am k cm, .int .i64 0, .int .i64 8] 24)
  have hb05 := hb03.trans (hb35.mono hb03.size)
  have hs5 : ((w3.alloc (.cells #[.int .i64 b] 3)).alloc (.cells #[.slice (some ⟨w3.heap.size, 0, none⟩) 1 1, .slice Aa n ca, .slice Am k cm, .int .i64 0, .int .i64 8] 24)).heap.size = w3.heap.size + 1 + 1 := by simp
  have hr5 := hx3.all hb35
  clear e0 e1 e2 hE1 hE2 hog hb34 hl34 hx3 hb03 hb35
  generalize (w3.alloc (.cells #[.int .i64 b] 3)).alloc (.cells #[.slice (some ⟨w3.heap.size, 0, none⟩) 1 1, .slice Aa n ca, .slice Am k cm, .int .i64 0, .int .i64 8] 24) = w5 at *
  obtain ⟨g, hg⟩ : ∃ g, w3.heap.size = g := ⟨_, rfl⟩
  rw [hg] at hog5 hxs hl3 hs5
  rw [hg]
  clear hg
  refine (HMb.out _ _ _ (boxInts hog5) hb05).mono ?_
  rintro e w6 ⟨rfl, hb6⟩
  have hx6 := BoxN.all hxs hb6
  have ho6 := BoxN.all hog5 hb6
  have hr6 := BoxN.all hr5 hb6
  have hb06 := hb05.trans (hb6.mono hb05.size)
  clear hxs hog5 hr5 hb05 hb6 HMb
  generalize taskS r Mn b = t at *
  have d5 : decide ((t : Int) < 0) = false := by simp
  have d6 : decide ((t : Int) > 1023) = false := decide_eq_false (by omega)
  have e1 : w6.cell? ⟨w.heap.size, 1, none⟩ = some (.slice Aa n ca) := hr6.cell rfl
  have k0 : w6.cell? ⟨g + 1, 0, none⟩ = some (.slice (some ⟨g, 0, none⟩) 1 1) := hx6.cell rfl
  have k1 : w6.cell? ⟨g + 1, 1, none⟩ = some (.slice Aa n ca) := hx6.cell rfl
  have k2 : w6.cell? ⟨g + 1, 2, none⟩ = some (.slice Am k cm) := hx6.cell rfl
  have k3 : w6.cell? ⟨g + 1, 3, none⟩ = some (.int .i64 0) := hx6.cell rfl
  have k4 : w6.cell? ⟨g + 1, 4, none⟩ = some (.int .i64 8) := hx6.cell rfl
  have gf := ho6.free 0
  have gc : w6.cell? ⟨g, 0, none⟩ = some (.int .i64 b) := ho6.cell rfl
  have hgl := ho6.lt
  have hpl := hx6.lt
  go_wp2_with fail
  refine (HW2.out _).mono ?_
  rintro e w' ⟨rfl, rfl⟩
  by_cases ho : other < 0
  · have d7 : decide (other < 0) = true := decide_eq_true ho
    clear HMx Hmin
    go_wp2_with fail
    go_ret
    exact ⟨rfl, hb06⟩
  · have d7 : decide (other < 0) = false := decide_eq_false ho
    by_cases hP : (P : Int) ≤ other
    · have d8 : decide (other ≥ (P : Int)) = true := decide_eq_true hP
      clear HMx Hmin
      go_wp2_with fail
      refine (HP2.out _).mono ?_
      rintro e w' ⟨rfl, rfl⟩
      go_wp2_with fail
      go_ret
      exact ⟨rfl, hb06⟩
    · have d8 : decide (other ≥ (P : Int)) = false := decide_eq_false hP
      obtain ⟨o, rfl⟩ := Int.eq_ofNat_of_zero_le (Int.not_lt.1 ho)
      have hoP : o < P := by omega
      by_cases hw3 : within o mine = true
      · have HW3 := Lib.hid (fun V => Within_is o mine true V (by omega) (by omega) hw3)
        have HMo := Lib.hid (HMx.out o hoP)
        have Hmo := Lib.hid (Hmin.out o hoP hw3)
        have ht2 := htl.out o
        have hx7 := BoxN.other hx6 (a := ⟨g, 0, none⟩) (show g + 1 ≠ g by omega) (.int .i64 (o : Int))
        have ho7 : BoxN (w6.setCell ⟨g, 0, none⟩ (.int .i64 (o : Int))) g 3 #[.int .i64 (o : Int)] := BoxN.set ho6 0 (.int .i64 (o : Int))
        have hb07 := hb06.setCell (p := ⟨g, 0, none⟩) (show w.heap.size ≤ g by omega) (.int .i64 (o : Int))
        have HQb := Lib.hid (fun V => RMany_any b (by omega) V)
        have HQo := Lib.hid (fun V => RMany_any o (by omega) V)
        clear HMx Hmin hw3 htl
        generalize taskS r Mn o = t2 at *
        have d9 : decide ((t2 : Int) < 0) = false := by simp
        go_wp2_with fail
        refine (HP2.out _).mono ?_
        rintro e w' ⟨rfl, rfl⟩
        go_wp2_with fail
        refine (HW3.out _).mono ?_
        rintro e w' ⟨rfl, rfl⟩
        go_wp2_with fail
        refine (HMo.out _ _ _ (boxInts ho7) hb07).mono ?_
        rintro e w8 ⟨rfl, hb8⟩
        have hb08 := hb07.trans (hb8.mono hb07.size)
        by_cases hq : within want t2 = true
        · have HWt := Lib.hid (fun V => Within_is want t2 true V (by omega) (by omega) hq)
          have hle := Hmo.out hq
          generalize cnt 8 b = c1 at *
          generalize cnt 8 o = c2 at *
          have d10 : decide ((c1 : Int) ≤ c2) = true := decide_eq_true (by omega)
          go_wp2_with fail
          refine (HWt.out _).mono ?_
          rintro e w' ⟨rfl, rfl⟩
          go_wp2_with fail
          refine (HQb.out _).mono ?_
          rintro e w' ⟨rfl, rfl⟩
          go_wp2_with fail
          refine (HQo.out _).mono ?_
          rintro e w' ⟨rfl, rfl⟩
          go_wp2_with fail
          go_ret
          exact ⟨rfl, hb08⟩
        · have HWt := Lib.hid (fun V => Within_is want t2 false V (by omega) (by omega) (by simpa using hq))
          go_wp2_with fail
          refine (HWt.out _).mono ?_
          rintro e w' ⟨rfl, rfl⟩
          go_wp2_with fail
          go_ret
          exact ⟨rfl, hb08⟩
      · have HW3 := Lib.hid (fun V => Within_is o mine false V (by omega) (by omega) (by simpa using hw3))
        clear HMx Hmin
        go_wp2_with fail
        refine (HP2.out _).mono ?_
        rintro e w' ⟨rfl, rfl⟩
        go_wp2_with fail
        refine (HW3.out _).mono ?_
        rintro e w' ⟨rfl, rfl⟩
        go_wp2_with fail
        go_ret
        exact ⟨rfl, hb06⟩
end Go.Proofs.YtdnkknggnhihgaaDoor
