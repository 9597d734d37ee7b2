/-
  Contracts: roles.Has, roles.May.
-/
import Derived.Test.YtpfmllpodjcldaaDoorRoleC
import Derived.Test.YtpfmllpodjcldaaDoorStillD
import Derived.Test.YtpfmllpodjcldaaDoorBibaLaw
namespace Go.Proofs.YtpfmllpodjcldaaDoor
open Go.RowKit
set_option maxRecDepth 100000
set_option linter.unusedVariables false

/-- Roles that are right. -/
structure ROk (U A M : List Int) (few most : Int) (r Un Mn : List Nat) (fN : Nat) : Prop where
  a : A = castL r
  u : U = castL Un
  m : M = castL Mn
  f : few = fN
  lu : Un.length ≤ 8
  la : r.length ≤ 8
  lm : Mn.length = r.length
  ba : Bd r.length r
  bu : ∀ i, row Un i < 2 ^ r.length
  bm : ∀ i, row Mn i < 2 ^ 10
  bf : fN < 2 ^ r.length
  most0 : 0 ≤ most ∧ most ≤ 8
  ord : orderB (closed r) = true
  few_ : ∀ i, i < Un.length → (cnt 8 (allS r (row Un i) &&& fN) : Int) ≤ most
theorem rolesCode_ok {U A M : List Int} {few most : Int} (h : rolesCode U A M few most = 0) : ∃ r Un Mn fN, ROk U A M few most r Un Mn fN := by
  unfold rolesCode at h
  split at h
  · cases h
  · rename_i h1
    split at h
    · cases h
    · rename_i h2
      split at h
      · cases h
      · rename_i h3
        split at h
        · rename_i h4; exact absurd h h4
        · rename_i h4
          split at h
          · cases h
          · rename_i h5
            split at h
            · cases h
            · rename_i h6
              split at h
              · cases h
              · rename_i h7
                split at h
                · cases h
                · rename_i h8
                  obtain ⟨r, hr, hl, hb⟩ := relCode_ok (l := A) (by omega)
                  have hrl : r.length = A.length := by rw [hr, length_castL]
                  have hU := cast_natL (n := A.length) (l := U) (by simpa using h3)
                  have hM := cast_natL (n := 10) (l := M) (by simpa using h6)
                  have hn : natL A = r := by rw [hr, natL_cast]
                  rw [hn] at h5 h8
                  have hf : isSet A.length few = true := by
                    cases hh : isSet A.length few with
                    | true => rfl
                    | false => exact absurd (.inl hh) h7
                  have hmo : 0 ≤ most ∧ most ≤ 8 := by
                    by_cases hh : 0 ≤ most ∧ most ≤ 8
                    · exact hh
                    · exact absurd (.inr hh) h7
                  obtain ⟨fN, hfN⟩ : ∃ fN : Nat, few = fN := Int.eq_ofNat_of_zero_le (of_decide_eq_true hf).1
                  have hf2 := (of_decide_eq_true hf).2
                  have hlU : (natL U).length = U.length := by simp [natL]
                  have hlM : (natL M).length = M.length := by simp [natL]
                  refine ⟨r, natL U, natL M, fN, hr, hU.1.symm, hM.1.symm, hfN, by omega, by omega, by omega, hb, by rw [hrl]; exact hU.2, hM.2, ?_, hmo, by simpa using h5, fun i hi => ?_⟩
                  · rw [hrl]
                    generalize 2 ^ A.length = b at *
                    omega
                  · have h8' : U.all (fun x => decide ((cnt 8 (allS r x.toNat &&& few.toNat) : Int) ≤ most)) = true := by simpa using h8
                    have hx : U[i]? = some ((row (natL U) i : Nat) : Int) := by
                      have : (castL (natL U))[i]? = some ((row (natL U) i : Nat) : Int) := by
                        unfold castL row; rw [List.getElem?_map, List.getElem?_eq_getElem hi]; rfl
                      rw [hU.1] at this
                      exact this
                    have := List.all_eq_true.1 h8' _ (List.mem_of_getElem? hx)
                    have := of_decide_eq_true this
                    rw [hfN] at this
                    simpa using this

def hasCode (U A M : List Int) (few most user : Int) : Nat := if rolesCode U A M few most = 0 then if 0 ≤ user ∧ user < U.length then 0 else 1 else rolesCode U A M few most

section
variable {U A M : List Int} {few most : Int} {Au Aa Am : Option Addr} {cu ca cm : Nat} {w : World}
set_option maxHeartbeats 2000000 in
theorem RHas_ok (hU : IntsAt w Au U) (hA : IntsAt w Aa A) (hM : IntsAt w Am M) (hT : Tab w) {r Un Mn : List Nat} {fN : Nat} (h : ROk U A M few most r Un Mn fN) (hz : rolesCode U A M few most = 0) {u : Nat} (hu : u < U.length) :
    Calls Tryd.prog 23 #[.agg #[.slice Au U.length cu, .slice Aa A.length ca, .slice Am M.length cm, .int .i64 few, .int .i64 most], .int .i64 u] w fun e w' => e = .returned (.tuple #[.int .i64 (allS r (row Un u) : Nat), .nilIface]) ∧ Below w.heap.size w w' := by
  have hlU : U.length = Un.length := by rw [h.u, length_castL]
  have hlA : A.length = r.length := by rw [h.a, length_castL]
  have hlM : M.length = r.length := by rw [h.m, length_castL, h.lm]
  have hlu := h.lu
  have hla := h.la
  have HC := Lib.hid (fun V (hV : Below w.heap.size w V) => (RCheck_any (cu := cu) (ca := ca) (cm := cm) (few := few) (most := most) (hU.below hV) (hA.below hV) (hM.below hV) (by omega) (by omega) (by omega) (hT.next hV)).mono fun e w' ⟨he, hx⟩ => (⟨by rw [he, hz]; rfl, hx, hV.trans (hx.mono hV.size)⟩ : e = Ending.returned .nilIface ∧ Below V.heap.size V w' ∧ Below w.heap.size w w'))
  have HL := Lib.hid (fun V (hV : Below w.heap.size w V) => (allR_any (Au := Au) (nu := U.length) (cu := cu) (ca := ca) (nm := M.length) (Am := Am) (cm := cm) (few := few) (most := most) hla h.ba (by rw [← h.a]; exact hA.below hV) (hT.next hV) (h.bu u)).mono fun e w' ⟨he, hx⟩ => (⟨he, hV.trans (hx.mono hV.size)⟩ : _ ∧ Below w.heap.size w w'))
  have C1 := Lib.hid (fun V => Within3_is (u : Int) 0 ((U.length : Int) - 1) true V (by simp; omega))
  have hUr : IntsAt w Au (castL Un) := by rw [← h.u]; exact hU
  obtain ⟨b, off, hAu, hc⟩ := hUr.row (k := u) (by omega)
  subst hAu
  have hbw := block_lt hc
  have hb0 : Below w.heap.size w (w.alloc (.cells #[.slice (some ⟨b, off, none⟩) U.length cu, .slice Aa A.length ca, .slice Am M.length cm, .int .i64 few, .int .i64 most] 47)) := (Below.refl _ _).alloc (Nat.le_refl _) _
  have hx0 := BoxN.new w 47 #[.slice (some ⟨b, off, none⟩) U.length cu, .slice Aa A.length ca, .slice Am M.length cm, .int .i64 few, .int .i64 most]
  rw [← hlA] at HL
  have huu : (u : Int) < U.length := by omega
  have hm8 : U.length ≤ 8 := by omega
  clear h hz hU hA hM hT hUr hlU hlA hlM hlu hla
  generalize U.length = m at *
  generalize A.length = n at *
  generalize M.length = k at *
  generalize allS r (row Un u) = res at *
  generalize row Un u = x at *
  go_enter Tryd.func23, Tryd.ntmps23
  go_wp2_with fail
  refine (HC.out _ hb0).mono ?_
  rintro e w1 ⟨rfl, hb1, hbw1⟩
  have hx1 := hx0.all hb1
  have hl1 := hx1.lt
  have e0 : w1.cell? ⟨w.heap.size, 0, none⟩ = some (.slice (some ⟨b, off, none⟩) m cu) := hx1.cell rfl
  have e1 : w1.cell? ⟨w.heap.size, 1, none⟩ = some (.slice Aa n ca) := hx1.cell rfl
  have e2 : w1.cell? ⟨w.heap.size, 2, none⟩ = some (.slice Am k cm) := hx1.cell rfl
  have e3 : w1.cell? ⟨w.heap.size, 3, none⟩ = some (.int .i64 few) := hx1.cell rfl
  have e4 : w1.cell? ⟨w.heap.size, 4, none⟩ = some (.int .i64 most) := hx1.cell rfl
  have e5 := (hbw1.cell (p := ⟨b, off + u, none⟩) hbw).trans hc
  clear HC hb0 hx0 hx1 hb1
  go_wp2_with (go_at_call 31; with_reducible refine (C1.out _).mono ?_; rintro e w' ⟨rfl, rfl⟩)
  refine wp_still_tailD 6 (by kernel_rfl) (by kernel_rfl) ?_
  simp only [List.take_succ_cons, List.take_zero, List.drop_succ_cons, List.drop_zero]
  repeat still_step
  refine wpStill_nil ?_
  go_wp2_with fail
  refine (HL.out _ (belowD hbw1 1)).mono ?_
  rintro e w2 ⟨rfl, hb2⟩
  go_wp2_with fail
  go_ret2
  exact ⟨rfl, hb2⟩
set_option maxHeartbeats 2000000 in
theorem RMay_ok (hU : IntsAt w Au U) (hA : IntsAt w Aa A) (hM : IntsAt w Am M) (hT : Tab w) {r Un Mn : List Nat} {fN : Nat} (h : ROk U A M few most r Un Mn fN) (hz : rolesCode U A M few most = 0) {u : Nat} (hu : u < U.length) :
    Calls Tryd.prog 24 #[.agg #[.slice Au U.length cu, .slice Aa A.length ca, .slice Am M.length cm, .int .i64 few, .int .i64 most], .int .i64 u] w fun e w' => e = .returned (.tuple #[.int .i64 (taskS r Mn (row Un u) : Nat), .nilIface]) ∧ Below w.heap.size w w' := by
  have hlU : U.length = Un.length := by rw [h.u, length_castL]
  have hlA : A.length = r.length := by rw [h.a, length_castL]
  have hlM : M.length = r.length := by rw [h.m, length_castL, h.lm]
  have hlMn : M.length = Mn.length := by rw [h.m, length_castL]
  have hlu := h.lu
  have hla := h.la
  have HC := Lib.hid (fun V (hV : Below w.heap.size w V) => (RCheck_any (cu := cu) (ca := ca) (cm := cm) (few := few) (most := most) (hU.below hV) (hA.below hV) (hM.below hV) (by omega) (by omega) (by omega) (hT.next hV)).mono fun e w' ⟨he, hx⟩ => (⟨by rw [he, hz]; rfl, hx, hV.trans (hx.mono hV.size)⟩ : e = Ending.returned .nilIface ∧ Below V.heap.size V w' ∧ Below w.heap.size w w'))
  have HL := Lib.hid (fun V (hV : Below w.heap.size w V) => (tasksR_any (Au := Au) (nu := U.length) (cu := cu) (ca := ca) (M := Mn) (Am := Am) (cm := cm) (few := few) (most := most) hla h.ba (by rw [← h.a]; exact hA.below hV) h.lm h.bm (by rw [← h.m]; exact hM.below hV) (hT.next hV) (h.bu u)).mono fun e w' ⟨he, hx⟩ => (⟨he, hV.trans (hx.mono hV.size)⟩ : _ ∧ Below w.heap.size w w'))
  have C1 := Lib.hid (fun V => Within3_is (u : Int) 0 ((U.length : Int) - 1) true V (by simp; omega))
  have hUr : IntsAt w Au (castL Un) := by rw [← h.u]; exact hU
  obtain ⟨b, off, hAu, hc⟩ := hUr.row (k := u) (by omega)
  subst hAu
  have hbw := block_lt hc
  have hb0 : Below w.heap.size w (w.alloc (.cells #[.slice (some ⟨b, off, none⟩) U.length cu, .slice Aa A.length ca, .slice Am M.length cm, .int .i64 few, .int .i64 most] 47)) := (Below.refl _ _).alloc (Nat.le_refl _) _
  have hx0 := BoxN.new w 47 #[.slice (some ⟨b, off, none⟩) U.length cu, .slice Aa A.length ca, .slice Am M.length cm, .int .i64 few, .int .i64 most]
  rw [← hlA, ← hlMn] at HL
  have huu : (u : Int) < U.length := by omega
  have hm8 : U.length ≤ 8 := by omega
  clear h hz hU hA hM hT hUr hlU hlA hlM hlu hla hlMn
  generalize U.length = m at *
  generalize A.length = n at *
  generalize M.length = k at *
  generalize taskS r Mn (row Un u) = res at *
  generalize row Un u = x at *
  go_enter Tryd.func24, Tryd.ntmps24
  go_wp2_with fail
  refine (HC.out _ hb0).mono ?_
  rintro e w1 ⟨rfl, hb1, hbw1⟩
  have hx1 := hx0.all hb1
  have hl1 := hx1.lt
  have e0 : w1.cell? ⟨w.heap.size, 0, none⟩ = some (.slice (some ⟨b, off, none⟩) m cu) := hx1.cell rfl
  have e1 : w1.cell? ⟨w.heap.size, 1, none⟩ = some (.slice Aa n ca) := hx1.cell rfl
  have e2 : w1.cell? ⟨w.heap.size, 2, none⟩ = some (.slice Am k cm) := hx1.cell rfl
  have e3 : w1.cell? ⟨w.heap.size, 3, none⟩ = some (.int .i64 few) := hx1.cell rfl
  have e4 : w1.cell? ⟨w.heap.size, 4, none⟩ = some (.int .i64 most) := hx1.cell rfl
  have e5 := (hbw1.cell (p := ⟨b, off + u, none⟩) hbw).trans hc
  clear HC hb0 hx0 hx1 hb1
  go_wp2_with (go_at_call 31; with_reducible refine (C1.out _).mono ?_; rintro e w' ⟨rfl, rfl⟩)
  refine wp_still_tailD 6 (by kernel_rfl) (by kernel_rfl) ?_
  simp only [List.take_succ_cons, List.take_zero, List.drop_succ_cons, List.drop_zero]
  repeat still_step
  refine wpStill_nil ?_
  go_wp2_with fail
  refine (HL.out _ (belowD hbw1 1)).mono ?_
  rintro e w2 ⟨rfl, hb2⟩
  go_wp2_with fail
  go_ret2
  exact ⟨rfl, hb2⟩

set_option maxHeartbeats 1000000 in
theorem RHas_bad (hU : IntsAt w Au U) (hA : IntsAt w Aa A) (hM : IntsAt w Am M) (sU : U.length < 2 ^ 64) (sA : A.length < 2 ^ 64) (sM : M.length < 2 ^ 64) (hT : Tab w) {user : Int} {kk : Nat} (hk : hasCode U A M few most user = kk) (hne : kk ≠ 0) :
    Calls Tryd.prog 23 #[.agg #[.slice Au U.length cu, .slice Aa A.length ca, .slice Am M.length cm, .int .i64 few, .int .i64 most], .int .i64 user] w fun e w' => e = .returned (.tuple #[.int .i64 0, .iface 59 (.int .i64 kk)]) ∧ Below w.heap.size w w' := by
  have hb0 : Below w.heap.size w (w.alloc (.cells #[.slice Au U.length cu, .slice Aa A.length ca, .slice Am M.length cm, .int .i64 few, .int .i64 most] 47)) := (Below.refl _ _).alloc (Nat.le_refl _) _
  have hx0 := BoxN.new w 47 #[.slice Au U.length cu, .slice Aa A.length ca, .slice Am M.length cm, .int .i64 few, .int .i64 most]
  have HC := fun V (hV : Below w.heap.size w V) => (RCheck_any (cu := cu) (ca := ca) (cm := cm) (few := few) (most := most) (hU.below hV) (hA.below hV) (hM.below hV) sU sA sM (hT.next hV)).mono fun e w' ⟨he, hx⟩ => (⟨he, hx, hV.trans (hx.mono hV.size)⟩ : _ ∧ Below V.heap.size V w' ∧ Below w.heap.size w w')
  unfold hasCode at hk
  by_cases hz : rolesCode U A M few most = 0
  · rw [if_pos hz] at hk
    rw [hz, errVal_zero] at HC
    have HC := Lib.hid HC
    have hin : ¬ (0 ≤ user ∧ user < U.length) := fun h => by rw [if_pos h] at hk; exact hne hk.symm
    rw [if_neg hin] at hk
    subst hk
    have hm8 : U.length ≤ 8 := by
      obtain ⟨r, Un, Mn, fN, h⟩ := rolesCode_ok hz
      have := h.lu
      rw [h.u, length_castL]; exact this
    have C1 := Lib.hid (fun V => Within3_is user 0 ((U.length : Int) - 1) false V (by simp; omega))
    clear hz hne hin hU hA hM hT
    generalize U.length = m at *
    generalize A.length = n at *
    generalize M.length = k at *
    go_enter Tryd.func23, Tryd.ntmps23
    go_wp2_with fail
    refine (HC.out _ hb0).mono ?_
    rintro e w1 ⟨rfl, hb1, hbw1⟩
    have hx1 := hx0.all hb1
    have e0 : w1.cell? ⟨w.heap.size, 0, none⟩ = some (.slice Au m cu) := hx1.cell rfl
    go_wp2_with (go_at_call 31; with_reducible refine (C1.out _).mono ?_; rintro e w' ⟨rfl, rfl⟩)
    go_ret2
    exact ⟨rfl, hbw1⟩
  · rw [if_neg hz] at hk
    rw [hk, errVal_pos hne] at HC
    have HC := Lib.hid HC
    clear hz hk hne hU hA hM hT
    generalize U.length = m at *
    generalize A.length = n at *
    generalize M.length = k at *
    go_enter Tryd.func23, Tryd.ntmps23
    go_wp2_with fail
    refine (HC.out _ hb0).mono ?_
    rintro e w1 ⟨rfl, hb1, hbw1⟩
    go_wp2_with fail
    go_ret2
    exact ⟨rfl, hbw1⟩

set_option maxHeartbeats 1000000 in
theorem RMay_bad (hU : IntsAt w Au U) (hA : IntsAt w Aa A) (hM : IntsAt w Am M) (sU : U.length < 2 ^ 64) (sA : A.length < 2 ^ 64) (sM : M.length < 2 ^ 64) (hT : Tab w) {user : Int} {kk : Nat} (hk : hasCode U A M few most user = kk) (hne : kk ≠ 0) :
    Calls Tryd.prog 24 #[.agg #[.slice Au U.length cu, .slice Aa A.length ca, .slice Am M.length cm, .int .i64 few, .int .i64 most], .int .i64 user] w fun e w' => e = .returned (.tuple #[.int .i64 0, .iface 59 (.int .i64 kk)]) ∧ Below w.heap.size w w' := by
  have hb0 : Below w.heap.size w (w.alloc (.cells #[.slice Au U.length cu, .slice Aa A.length ca, .slice Am M.length cm, .int .i64 few, .int .i64 most] 47)) := (Below.refl _ _).alloc (Nat.le_refl _) _
  have hx0 := BoxN.new w 47 #[.slice Au U.length cu, .slice Aa A.length ca, .slice Am M.length cm, .int .i64 few, .int .i64 most]
  have HC := fun V (hV : Below w.heap.size w V) => (RCheck_any (cu := cu) (ca := ca) (cm := cm) (few := few) (most := most) (hU.below hV) (hA.below hV) (hM.below hV) sU sA sM (hT.next hV)).mono fun e w' ⟨he, hx⟩ => (⟨he, hx, hV.trans (hx.mono hV.size)⟩ : _ ∧ Below V.heap.size V w' ∧ Below w.heap.size w w')
  unfold hasCode at hk
  by_cases hz : rolesCode U A M few most = 0
  · rw [if_pos hz] at hk
    rw [hz, errVal_zero] at HC
    have HC := Lib.hid HC
    have hin : ¬ (0 ≤ user ∧ user < U.length) := fun h => by rw [if_pos h] at hk; exact hne hk.symm
    rw [if_neg hin] at hk
    subst hk
    have hm8 : U.length ≤ 8 := by
      obtain ⟨r, Un, Mn, fN, h⟩ := rolesCode_ok hz
      have := h.lu
      rw [h.u, length_castL]; exact this
    have C1 := Lib.hid (fun V => Within3_is user 0 ((U.length : Int) - 1) false V (by simp; omega))
    clear hz hne hin hU hA hM hT
    generalize U.length = m at *
    generalize A.length = n at *
    generalize M.length = k at *
    go_enter Tryd.func24, Tryd.ntmps24
    go_wp2_with fail
    refine (HC.out _ hb0).mono ?_
    rintro e w1 ⟨rfl, hb1, hbw1⟩
    have hx1 := hx0.all hb1
    have e0 : w1.cell? ⟨w.heap.size, 0, none⟩ = some (.slice Au m cu) := hx1.cell rfl
    go_wp2_with (go_at_call 31; with_reducible refine (C1.out _).mono ?_; rintro e w' ⟨rfl, rfl⟩)
    go_ret2
    exact ⟨rfl, hbw1⟩
  · rw [if_neg hz] at hk
    rw [hk, errVal_pos hne] at HC
    have HC := Lib.hid HC
    clear hz hk hne hU hA hM hT
    generalize U.length = m at *
    generalize A.length = n at *
    generalize M.length = k at *
    go_enter Tryd.func24, Tryd.ntmps24
    go_wp2_with fail
    refine (HC.out _ hb0).mono ?_
    rintro e w1 ⟨rfl, hb1, hbw1⟩
    go_wp2_with fail
    go_ret2
    exact ⟨rfl, hbw1⟩
end
end Go.Proofs.YtpfmllpodjcldaaDoor
