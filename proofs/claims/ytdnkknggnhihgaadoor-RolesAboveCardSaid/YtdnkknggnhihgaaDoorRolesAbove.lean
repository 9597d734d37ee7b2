/-
  The walk of RolesAbove.
-/
import Derived.Test.YtdnkknggnhihgaaDoorRoleF
import Derived.Test.YtdnkknggnhihgaaDoorRoleL
import Derived.Test.YtdnkknggnhihgaaDoorPush
import Derived.Test.YtdnkknggnhihgaaDoorSets
namespace Go.Proofs.YtdnkknggnhihgaaDoor
open Go.RowKit
set_option maxRecDepth 100000
set_option linter.unusedVariables false

theorem castL_set (l : List Nat) (i x : Nat) : castL (l.set i x) = (castL l).set i (x : Int) := by unfold castL; rw [List.map_set]; rfl
theorem row_setL {l : List Nat} {u x n : Nat} (h : ∀ i, row l i < 2 ^ n) (hx : x < 2 ^ n) : ∀ i, row (l.set u x) i < 2 ^ n := fun i => by
  by_cases hu : u < l.length
  · rw [row_set _ _ _ _ hu]; split
    · exact hx
    · exact h i
  · rw [List.set_eq_of_length_le (by omega)]; exact h i

set_option maxHeartbeats 8000000 in
theorem RolesAbove_ok (U A M : List Int) (Au Aa Am : Option Addr) (cu ca cm : Nat) (few most : Int) {w : World} (hU : IntsAt w Au U) (hA : IntsAt w Aa A) (hM : IntsAt w Am M) (u : Nat) (huU : u < U.length) (more : Int) (hz1 : rolesCode U A M few most = 0) (hT : Tab w) :
    Calls Tryd.prog 3 #[.agg #[.slice Au U.length cu, .slice Aa A.length ca, .slice Am M.length cm, .int .i64 few, .int .i64 most], .int .i64 u, .int .i64 more] w fun e w' => e = .returned (.bool true) ∧ Below w.heap.size w w' := by
  have HF := Lib.hid (fun V (hV : Below w.heap.size w V) => rolesFact_true V (hT.next hV))
  have hb0 : Below w.heap.size w (w.alloc (.cells #[.slice Au U.length cu, .slice Aa A.length ca, .slice Am M.length cm, .int .i64 few, .int .i64 most] 24)) := (Below.refl _ _).alloc (Nat.le_refl _) _
  have hx0 := BoxN.new w 24 #[.slice Au U.length cu, .slice Aa A.length ca, .slice Am M.length cm, .int .i64 few, .int .i64 most]
  obtain ⟨r, Un, Mn, fN, hok⟩ := rolesCode_ok hz1
  have hff := hok.f
  subst hff
  have HM1 := Lib.hid (fun V (hV : Below w.heap.size w V) => (RMay_ok (cu := cu) (ca := ca) (cm := cm) (hU.below hV) (hA.below hV) (hM.below hV) (hT.next hV) hok hz1 huU).mono fun e w' ⟨he, hx⟩ => (⟨he, hx, hV.trans (hx.mono hV.size)⟩ : _ ∧ Below V.heap.size V w' ∧ Below w.heap.size w w'))
  have HH1 := Lib.hid (fun V (hV : Below w.heap.size w V) => (RHas_ok (cu := cu) (ca := ca) (cm := cm) (hU.below hV) (hA.below hV) (hM.below hV) (hT.next hV) hok hz1 huU).mono fun e w' ⟨he, hx⟩ => (⟨he, hx, hV.trans (hx.mono hV.size)⟩ : _ ∧ Below V.heap.size V w' ∧ Below w.heap.size w w'))
  have hlU : U.length = Un.length := by rw [hok.u, length_castL]
  have hlA : A.length = r.length := by rw [hok.a, length_castL]
  have hla := hok.la
  have hlu := hok.lu
  have hs := hok.bu u
  have hh := allS_lt hla hok.ba (row Un u)
  have h256 : allS r (row Un u) < 256 := Nat.lt_of_lt_of_le hh (Nat.pow_le_pow_right (by decide) hla)
  have hs256 : row Un u < 256 := Nat.lt_of_lt_of_le hs (Nat.pow_le_pow_right (by decide) hla)
  have hx1024 : taskS r Mn (row Un u) < 2 ^ 10 := taskS_lt hok.bm
  have HW1 := Lib.hid (fun V => Within_is (row Un u) (allS r (row Un u)) true V (by omega) (by omega) (within_sub (allS_self hla hs)))
  -- the users told by name
  have hO2 := hok.other (Un.set u (allS r (row Un u))) (by rw [List.length_set]; exact hlu) (row_setL hok.bu hh) fN hok.bf
  have hr2 : row (Un.set u (allS r (row Un u))) u = allS r (row Un u) := by rw [row_set _ _ _ _ (by omega), if_pos rfl]
  have hL2 : (castL (Un.set u (allS r (row Un u)))).length = U.length := by rw [length_castL, List.length_set]; exact hlU.symm
  have HM2 := Lib.hid (fun V B d (hB : IntsAt V B (castL (Un.set u (allS r (row Un u))))) (hV : Below w.heap.size w V) => by
    have := RMay_ok (cu := d) (ca := ca) (cm := cm) hB (hA.below hV) (hM.below hV) (hT.next hV) hO2.1 hO2.2 (u := u) (by rw [hL2]; exact huU)
    rw [hr2, taskS_all hla hok.ba hs, hL2] at this
    exact this)
  have HH2 := Lib.hid (fun V B d (hB : IntsAt V B (castL (Un.set u (allS r (row Un u))))) (hV : Below w.heap.size w V) => by
    have := RHas_ok (cu := d) (ca := ca) (cm := cm) hB (hA.below hV) (hM.below hV) (hT.next hV) hO2.1 hO2.2 (u := u) (by rw [hL2]; exact huU)
    rw [hr2, allS_all hla hok.ba hs, hL2] at this
    exact this)
  -- one more
  have H3 := Lib.hid (fun m (hm : m < r.length) => show (allS r (row Un u) ||| 2 ^ m < 2 ^ r.length) ∧ ∃ z, taskS r Mn (allS r (row Un u) ||| 2 ^ m) = z ∧ z < 2 ^ 10 ∧ Sub (taskS r Mn (row Un u)) z from by
    have hlt : allS r (row Un u) ||| 2 ^ m < 2 ^ r.length := Nat.or_lt_two_pow hh (Nat.pow_lt_pow_right (by decide) hm)
    refine ⟨hlt, _, rfl, taskS_lt hok.bm, ?_⟩
    exact taskS_mono hla hok.ba hs hlt ((allS_self hla hs).trans (Sub.left _ _)))
  have HM3 := Lib.hid (fun m (hlt : allS r (row Un u) ||| 2 ^ m < 2 ^ r.length) V B d (hB : IntsAt V B (castL ((Un.set u (allS r (row Un u))).set u (allS r (row Un u) ||| 2 ^ m)))) (hV : Below w.heap.size w V) => by
    have hO3 := hok.other ((Un.set u (allS r (row Un u))).set u (allS r (row Un u) ||| 2 ^ m)) (by rw [List.length_set, List.length_set]; exact hlu) (row_setL (row_setL hok.bu hh) hlt) fN hok.bf
    have hL3 : (castL ((Un.set u (allS r (row Un u))).set u (allS r (row Un u) ||| 2 ^ m))).length = U.length := by rw [length_castL, List.length_set, List.length_set]; exact hlU.symm
    have := RMay_ok (cu := d) (ca := ca) (cm := cm) hB (hA.below hV) (hM.below hV) (hT.next hV) hO3.1 hO3.2 (u := u) (by rw [hL3]; exact huU)
    rw [row_set _ _ _ _ (by rw [List.length_set]; omega), if_pos rfl, hL3] at this
    exact this)
  have hUr : IntsAt w Au (castL Un) := by rw [← hok.u]; exact hU
  have hX2 : castL (Un.set u (allS r (row Un u))) = (castL Un).set u ((allS r (row Un u) : Nat) : Int) := castL_set _ _ _
  have hX3 : ∀ m, castL ((Un.set u (allS r (row Un u))).set u (allS r (row Un u) ||| 2 ^ m)) = (castL (Un.set u (allS r (row Un u)))).set u ((allS r (row Un u) ||| 2 ^ m : Nat) : Int) := fun m => castL_set _ _ _
  have hl1 : (castL Un).length = U.length := by rw [length_castL]; exact hlU.symm
  have Hc := Lib.hid (fun i (hi : i < U.length) => show (castL Un)[i]? = some ((row Un i : Nat) : Int) by unfold castL row; rw [List.getElem?_map, List.getElem?_eq_getElem (by omega)]; rfl)
  obtain ⟨bu, offu, hAu, hcu⟩ := hUr.row (k := u) (by omega)
  subst hAu
  have hbuw := block_lt hcu
  have hcells := hUr.cells
  have Hcu := Lib.hid (Hc.out u huU)
  have hm8 : U.length ≤ 8 := by omega
  have huI : (u : Int) < U.length := by omega
  rw [hlA] at HM1 HH1 HM2 HH2 HM3 hb0 hx0 ⊢
  clear hok hlU hlA hs hh hO2 hr2 hz1 hU hA hM hUr
  have HX2 := Lib.hid hX2
  have HX3 := Lib.hid hX3
  have HL2 := Lib.hid hL2
  clear hX2 hX3 hL2
  generalize castL (Un.set u (allS r (row Un u))) = X2 at *
  have hX3' : ∃ X3 : Nat → List Int, ∀ m, castL ((Un.set u (allS r (row Un u))).set u (allS r (row Un u) ||| 2 ^ m)) = X3 m := ⟨_, fun _ => rfl⟩
  obtain ⟨X3, hX3'⟩ := hX3'
  simp only [hX3'] at HM3 HX3
  clear hX3'
  generalize castL Un = X1 at *
  generalize allS r (row Un u) = h at *
  generalize taskS r Mn (row Un u) = x at *
  generalize row Un u = s0 at *
  generalize U.length = m at *
  generalize hrn : r.length = n at *
  clear hrn
  generalize M.length = k at *
  go_enter Tryd.func3, Tryd.ntmps3
  go_wp2_with fail
  refine (HF.out _ hb0).mono ?_
  rintro e w1 ⟨rfl, hb1⟩
  have hx1 := hx0.all hb1
  have hb01 := hb0.trans (hb1.mono hb0.size)
  have hl1' := hx1.lt
  have e0 : w1.cell? ⟨w.heap.size, 0, none⟩ = some (.slice (some ⟨bu, offu, none⟩) m cu) := hx1.cell rfl
  have e1 : w1.cell? ⟨w.heap.size, 1, none⟩ = some (.slice Aa n ca) := hx1.cell rfl
  have e2 : w1.cell? ⟨w.heap.size, 2, none⟩ = some (.slice Am k cm) := hx1.cell rfl
  have e3 : w1.cell? ⟨w.heap.size, 3, none⟩ = some (.int .i64 (fN : Nat)) := hx1.cell rfl
  have e4 : w1.cell? ⟨w.heap.size, 4, none⟩ = some (.int .i64 most) := hx1.cell rfl
  clear hx0 hb0 hb1 HF
  go_wp2_with fail
  refine (HM1.out _ hb01).mono ?_
  rintro e w2 ⟨rfl, hb2, hb02⟩
  have hx2 := hx1.all hb2
  clear e0 e1 e2 e3 e4 HM1 hx1 hb2 hb01
  have e0 : w2.cell? ⟨w.heap.size, 0, none⟩ = some (.slice (some ⟨bu, offu, none⟩) m cu) := hx2.cell rfl
  have e1 : w2.cell? ⟨w.heap.size, 1, none⟩ = some (.slice Aa n ca) := hx2.cell rfl
  have e2 : w2.cell? ⟨w.heap.size, 2, none⟩ = some (.slice Am k cm) := hx2.cell rfl
  have e3 : w2.cell? ⟨w.heap.size, 3, none⟩ = some (.int .i64 (fN : Nat)) := hx2.cell rfl
  have e4 : w2.cell? ⟨w.heap.size, 4, none⟩ = some (.int .i64 most) := hx2.cell rfl
  go_wp2_with fail
  refine (HH1.out _ hb02).mono ?_
  rintro e w3 ⟨rfl, hb3, hb03⟩
  have hx3 := hx2.all hb3
  clear e0 e1 e2 e3 e4 HH1 hx2 hb3 hb02
  have e0 : w3.cell? ⟨w.heap.size, 0, none⟩ = some (.slice (some ⟨bu, offu, none⟩) m cu) := hx3.cell rfl
  have e1 : w3.cell? ⟨w.heap.size, 1, none⟩ = some (.slice Aa n ca) := hx3.cell rfl
  have e2 : w3.cell? ⟨w.heap.size, 2, none⟩ = some (.slice Am k cm) := hx3.cell rfl
  have e3 : w3.cell? ⟨w.heap.size, 3, none⟩ = some (.int .i64 (fN : Nat)) := hx3.cell rfl
  have e4 : w3.cell? ⟨w.heap.size, 4, none⟩ = some (.int .i64 most) := hx3.cell rfl
  have e5 := (hb03.cell (p := ⟨bu, offu + u, none⟩) hbuw).trans hcu
  have hl3 := hx3.lt
  have hc3 := hcells.below hb03
  have d1 : decide ((h : Int) < 0) = false := by simp
  have d2 : decide ((h : Int) > 255) = false := decide_eq_false (by omega)
  have d3 : decide ((x : Int) < 0) = false := by simp
  have d4 : decide ((x : Int) > 1023) = false := decide_eq_false (by omega)
  go_wp2_with fail
  refine (HW1.out _).mono ?_
  rintro e w' ⟨rfl, rfl⟩
  have hxs := BoxN.new w3 24 #[.slice none 0 0, .slice Aa n ca, .slice Am k cm, .int .i64 fN, .int .i64 8]
  have hb3s := (Below.refl w3.heap.size w3).alloc (Nat.le_refl _) (.cells #[.slice none 0 0, .slice Aa n ca, .slice Am k cm, .int .i64 fN, .int .i64 8] 24)
  have hs4 : (w3.alloc (.cells #[.slice none 0 0, .slice Aa n ca, .slice Am k cm, .int .i64 fN, .int .i64 8] 24)).heap.size = w3.heap.size + 1 := by simp
  have ho4 : OwnI (w3.alloc (.cells #[.slice none 0 0, .slice Aa n ca, .slice Am k cm, .int .i64 fN, .int .i64 8] 24)) (w3.heap.size + 1) (.slice none 0 0) [] := OwnI.nil _ _
  have hc4 := hc3.below hb3s
  go_wp2_with (at_builtin; refine wpList_append_cells rfl _ _ rfl eInts rfl ho4 (some ⟨bu, offu, none⟩) m cu (X1.map (.int .i64)) rfl hc4 ?qc1 ?qc2 ?qc3 ?qc4 ?qc5 ?_)
  case qc1 => rw [List.length_map, hl1, Nat.mul_one]
  case qc2 => intro y hy; obtain ⟨z, _, rfl⟩ := List.mem_map.1 hy; rfl
  case qc3 => simp; omega
  case qc4 => simp; omega
  case qc5 => omega
  intro v' w5 hp
  have hoJ := OwnI.joined (xs := []) (ys := X1) (by rw [hl1]; exact hp)
  have hb45 := hp.below (w0 := w3.alloc (.cells #[.slice none 0 0, .slice Aa n ca, .slice Am k cm, .int .i64 fN, .int .i64 8] 24)) ho4 (Below.refl _ _) (by omega)
  have hxs5 := BoxN.below hxs hb45 (Nat.lt_succ_self _)
  have hb35 : Below w3.heap.size w3 w5 := hb3s.trans (hb45.mono (by omega))
  have hb05 := hb03.trans (hb35.mono hb03.size)
  have hoJ' : w5.ownsRow (w3.heap.size + 1) 3 1 v' X1.length (X1.map (.int .i64)) := by simpa [OwnI] using hoJ
  rw [hl1] at hoJ'
  obtain ⟨A5, c5, hv⟩ := ownsRow_form hoJ'
  subst hv
  obtain ⟨g, hg1, hg2, hog⟩ := OwnAt.of_owns hoJ' (by omega)
  subst hg1
  clear hoJ hoJ' hp hxs hb3s hs4 ho4 hc3 hc4 hb45 hcells
  have hp2 : w3.heap.size < g := by omega
  obtain ⟨p2, hp2e⟩ : ∃ p2, w3.heap.size = p2 := ⟨_, rfl⟩
  rw [hp2e] at hp2 hxs5 hl3
  rw [hp2e]
  have Hp2 := Lib.hid hp2e
  have hpw : w.heap.size ≤ p2 := by have := hb03.size; omega
  clear hp2e hg2 e0 e1 e2 e3 e4 e5
  have k0 : w5.cell? ⟨p2, 0, none⟩ = some (.slice none 0 0) := hxs5.cell rfl
  have k1 : w5.cell? ⟨p2, 1, none⟩ = some (.slice Aa n ca) := hxs5.cell rfl
  have k2 : w5.cell? ⟨p2, 2, none⟩ = some (.slice Am k cm) := hxs5.cell rfl
  have k3 : w5.cell? ⟨p2, 3, none⟩ = some (.int .i64 (fN : Nat)) := hxs5.cell rfl
  have k4 : w5.cell? ⟨p2, 4, none⟩ = some (.int .i64 8) := hxs5.cell rfl
  have fk := hxs5.free 0
  have gc : w5.cell? ⟨g, u, none⟩ = some (.int .i64 (s0 : Nat)) := hog.cell (by rw [List.getElem?_map, Hcu.out]; rfl)
  have gf := hog.free u
  have hgne : g ≠ p2 := by omega
  have hgl := hog.lt
  have hpl := hxs5.lt
  have hx7 := (hxs5.set 0 (.slice (some ⟨g, 0, none⟩) m c5)).other (a := ⟨g, u, none⟩) (show p2 ≠ g from fun e => hgne e.symm) (.int .i64 (h : Nat))
  have ho7 := (hog.far (a := ⟨p2, 0, none⟩) hgne (.slice (some ⟨g, 0, none⟩) m c5)).set (k := u) (by rw [List.length_map, hl1]; exact huU) (.int .i64 (h : Nat))
  have hb07 := (hb05.setCell (p := ⟨p2, 0, none⟩) hpw (.slice (some ⟨g, 0, none⟩) m c5)).setCell (p := ⟨g, u, none⟩) (show w.heap.size ≤ g by omega) (.int .i64 (h : Nat))
  have hr5 := hx3.all hb35
  have hwl : w.heap.size < p2 := by have := Hp2.out; have := hl3; omega
  have hr7 := (hr5.other (a := ⟨p2, 0, none⟩) (show w.heap.size ≠ p2 by omega) (.slice (some ⟨g, 0, none⟩) m c5)).other (a := ⟨g, u, none⟩) (show w.heap.size ≠ g by omega) (.int .i64 (h : Nat))
  rw [← List.map_set, ← HX2.out] at ho7
  go_wp2_with fail
  have q1 : ((w5.setCell ⟨p2, 0, none⟩ (.slice (some ⟨g, 0, none⟩) m c5)).setCell ⟨g, u, none⟩ (.int .i64 (h : Nat))).heap.size = w5.heap.size := by simp
  clear k0 k1 k2 k3 k4 fk gc gf hxs5 hog hb35 hb05 hr5 hx3 hb03
  generalize (w5.setCell ⟨p2, 0, none⟩ (.slice (some ⟨g, 0, none⟩) m c5)).setCell ⟨g, u, none⟩ (.int .i64 (h : Nat)) = w7 at *
  refine (HM2.out _ _ _ ho7.ints hb07).mono ?_
  rintro e w8 ⟨rfl, hb8⟩
  have hx8 := BoxN.all hx7 hb8
  have ho8 := ho7.all hb8
  have hr8 := hr7.all hb8
  have hb08 := hb07.trans (hb8.mono hb07.size)
  have s8 := hb8.size
  clear hx7 ho7 hr7 hb07 hb8 HM2
  have k0 : w8.cell? ⟨p2, 0, none⟩ = some (.slice (some ⟨g, 0, none⟩) m c5) := hx8.cell rfl
  have k1 : w8.cell? ⟨p2, 1, none⟩ = some (.slice Aa n ca) := hx8.cell rfl
  have k2 : w8.cell? ⟨p2, 2, none⟩ = some (.slice Am k cm) := hx8.cell rfl
  have k3 : w8.cell? ⟨p2, 3, none⟩ = some (.int .i64 (fN : Nat)) := hx8.cell rfl
  have k4 : w8.cell? ⟨p2, 4, none⟩ = some (.int .i64 8) := hx8.cell rfl
  go_wp2_with fail
  refine (HH2.out _ _ _ ho8.ints hb08).mono ?_
  rintro e w9 ⟨rfl, hb9⟩
  have hx9 := BoxN.all hx8 hb9
  have ho9 := ho8.all hb9
  have hr9 := hr8.all hb9
  have hb09 := hb08.trans (hb9.mono hb08.size)
  have s9 := hb9.size
  clear k0 k1 k2 k3 k4 hx8 ho8 hr8 hb08 hb9 HH2
  have e1 : w9.cell? ⟨w.heap.size, 1, none⟩ = some (.slice Aa n ca) := hr9.cell rfl
  by_cases hm0 : more < 0
  · have d5 : decide (more < 0) = true := decide_eq_true hm0
    clear HM3 H3
    go_wp2_with fail
    go_ret
    exact ⟨rfl, hb09⟩
  · have d5 : decide (more < 0) = false := decide_eq_false hm0
    by_cases hmn : (n : Int) ≤ more
    · have d6 : decide (more ≥ (n : Int)) = true := decide_eq_true hmn
      clear HM3 H3
      go_wp2_with fail
      go_ret
      exact ⟨rfl, hb09⟩
    · have d6 : decide (more ≥ (n : Int)) = false := decide_eq_false hmn
      obtain ⟨mo, rfl⟩ := Int.eq_ofNat_of_zero_le (Int.not_lt.1 hm0)
      have hmon : mo < n := by omega
      obtain ⟨hlt, z, hz, hz10, hsub⟩ := H3.out mo hmon
      have HMz := Lib.hid (fun V B d hB hV => by
        have := HM3.out mo hlt V B d hB hV
        rw [hz] at this
        exact this)
      have HX3m := Lib.hid (HX3.out mo)
      have h9 : h ||| 2 ^ mo < 256 := Nat.lt_of_lt_of_le hlt (Nat.pow_le_pow_right (by decide) hla)
      have CW := Lib.hid (fun V => (With_is h mo (h ||| 2 ^ mo) V (by omega) (by omega) rfl).mono fun e w' ⟨he, hw⟩ => (⟨he, hw.symm⟩ : _ ∧ w' = V))
      have HWz := Lib.hid (fun V => Within_is x z true V (by omega) (by omega) (within_sub hsub))
      have k0 : w9.cell? ⟨p2, 0, none⟩ = some (.slice (some ⟨g, 0, none⟩) m c5) := hx9.cell rfl
      have gf := ho9.free u
      have gc : w9.cell? ⟨g, u, none⟩ = some (.int .i64 (h : Nat)) := ho9.cell (by rw [HX2.out, List.getElem?_map, List.getElem?_set_self (by rw [hl1]; exact huU)]; rfl)
      have hx10 := (hx9.drewN 1).other (a := ⟨g, u, none⟩) (show p2 ≠ g from fun e => hgne e.symm) (.int .i64 ((h ||| 2 ^ mo : Nat) : Int))
      have ho10 := (ho9.drewN 1).set (k := u) (by rw [List.length_map, HL2.out]; exact huU) (.int .i64 ((h ||| 2 ^ mo : Nat) : Int))
      have hb10 := (belowD hb09 1).setCell (p := ⟨g, u, none⟩) (show w.heap.size ≤ g by omega) (.int .i64 ((h ||| 2 ^ mo : Nat) : Int))
      rw [← List.map_set, ← HX3m.out] at ho10
      clear hz hlt hsub HM3 H3 hm0 hmn HX3 HX3m
      generalize h ||| 2 ^ mo = h2 at *
      have d7 : decide ((z : Int) ≥ 0) = true := by simp
      have d8 : decide ((z : Int) ≤ 1023) = true := decide_eq_true (by omega)
      go_wp2_with fail
      refine wp_still_tailD 7 (by kernel_rfl) (by kernel_rfl) ?_
      simp only [List.take_succ_cons, List.take_zero, List.drop_succ_cons, List.drop_zero]
      repeat (first | still_step | still_call (CW.out _))
      refine wpStill_nil ?_
      have j1 : (w9.drewN 1).cell? ⟨p2, 1, none⟩ = some (.slice Aa n ca) := hx9.cell rfl
      have j2 : (w9.drewN 1).cell? ⟨p2, 2, none⟩ = some (.slice Am k cm) := hx9.cell rfl
      have j3 : (w9.drewN 1).cell? ⟨p2, 3, none⟩ = some (.int .i64 (fN : Nat)) := hx9.cell rfl
      have j4 : (w9.drewN 1).cell? ⟨p2, 4, none⟩ = some (.int .i64 8) := hx9.cell rfl
      go_wp2_with fail
      refine (HMz.out _ _ _ ho10.ints hb10).mono ?_
      rintro e w11 ⟨rfl, hb11⟩
      have hb011 := hb10.trans (hb11.mono hb10.size)
      go_wp2_with fail
      refine (HWz.out _).mono ?_
      rintro e w12 ⟨rfl, rfl⟩
      go_wp2_with fail
      go_ret
      exact ⟨rfl, hb011⟩
end Go.Proofs.YtdnkknggnhihgaaDoor
