/-
  Contract: the closed fact on roles. The walk of RolesFew.
-/
import Derived.Test.YtdnkknggnhihgaaDoorRoleH
import Derived.Test.YtdnkknggnhihgaaDoorRoleOpen
import Derived.Test.YtdnkknggnhihgaaDoorEither
import Derived.Laws.ResultCell
import Derived.Laws.Rows
namespace Go.Proofs.YtdnkknggnhihgaaDoor
open Go.RowKit
set_option maxRecDepth 100000
set_option linter.unusedVariables false

theorem small_any (w : World) : Calls Tryd.prog 54 #[] w fun e w' => (∃ b0 b1 b2, e = .returned (.agg #[.slice (some ⟨b0, 0, none⟩) 1 1, .slice (some ⟨b1, 0, none⟩) 2 2, .slice (some ⟨b2, 0, none⟩) 2 2, .int .i64 0, .int .i64 8]) ∧ IntsAt w' (some ⟨b0, 0, none⟩) [1] ∧ IntsAt w' (some ⟨b1, 0, none⟩) [2, 0] ∧ IntsAt w' (some ⟨b2, 0, none⟩) [1, 6]) ∧ Below w.heap.size w w' := by
  go_enter Tryd.func54, Tryd.ntmps54
  go_wp2_with fail
  have hx0 := (((BoxN.new w 24 #[.slice (some ⟨w.heap.size + 1, 0, none⟩) 1 1, .slice (some ⟨w.heap.size + 1 + 1, 0, none⟩) 2 2, .slice (some ⟨w.heap.size + 1 + 1 + 1, 0, none⟩) 2 2, .int .i64 0, .int .i64 8]).alloc (.cells #[.int .i64 1] 3)).alloc (.cells #[.int .i64 2, .int .i64 0] 3)).alloc (.cells #[.int .i64 1, .int .i64 6] 3)
  have hx1 := ((BoxN.new (w.alloc (.cells #[.slice (some ⟨w.heap.size + 1, 0, none⟩) 1 1, .slice (some ⟨w.heap.size + 1 + 1, 0, none⟩) 2 2, .slice (some ⟨w.heap.size + 1 + 1 + 1, 0, none⟩) 2 2, .int .i64 0, .int .i64 8] 24)) 3 #[.int .i64 1]).alloc (.cells #[.int .i64 2, .int .i64 0] 3)).alloc (.cells #[.int .i64 1, .int .i64 6] 3)
  have hx2 := (BoxN.new ((w.alloc (.cells #[.slice (some ⟨w.heap.size + 1, 0, none⟩) 1 1, .slice (some ⟨w.heap.size + 1 + 1, 0, none⟩) 2 2, .slice (some ⟨w.heap.size + 1 + 1 + 1, 0, none⟩) 2 2, .int .i64 0, .int .i64 8] 24)).alloc (.cells #[.int .i64 1] 3)) 3 #[.int .i64 2, .int .i64 0]).alloc (.cells #[.int .i64 1, .int .i64 6] 3)
  have hx3 := BoxN.new (((w.alloc (.cells #[.slice (some ⟨w.heap.size + 1, 0, none⟩) 1 1, .slice (some ⟨w.heap.size + 1 + 1, 0, none⟩) 2 2, .slice (some ⟨w.heap.size + 1 + 1 + 1, 0, none⟩) 2 2, .int .i64 0, .int .i64 8] 24)).alloc (.cells #[.int .i64 1] 3)).alloc (.cells #[.int .i64 2, .int .i64 0] 3)) 3 #[.int .i64 1, .int .i64 6]
  have hbl := ((((Below.refl w.heap.size w).alloc (Nat.le_refl _) (.cells #[.slice (some ⟨w.heap.size + 1, 0, none⟩) 1 1, .slice (some ⟨w.heap.size + 1 + 1, 0, none⟩) 2 2, .slice (some ⟨w.heap.size + 1 + 1 + 1, 0, none⟩) 2 2, .int .i64 0, .int .i64 8] 24)).alloc (by simp) (.cells #[.int .i64 1] 3)).alloc (by simp; omega) (.cells #[.int .i64 2, .int .i64 0] 3)).alloc (by simp; omega) (.cells #[.int .i64 1, .int .i64 6] 3)
  simp only [World.size_alloc] at hx1 hx2 hx3
  generalize (((w.alloc (.cells #[.slice (some ⟨w.heap.size + 1, 0, none⟩) 1 1, .slice (some ⟨w.heap.size + 1 + 1, 0, none⟩) 2 2, .slice (some ⟨w.heap.size + 1 + 1 + 1, 0, none⟩) 2 2, .int .i64 0, .int .i64 8] 24)).alloc (.cells #[.int .i64 1] 3)).alloc (.cells #[.int .i64 2, .int .i64 0] 3)).alloc (.cells #[.int .i64 1, .int .i64 6] 3) = W at *
  have q0 := hx0.cell (k := 0) rfl
  have q1 := hx0.cell (k := 1) rfl
  have q2 := hx0.cell (k := 2) rfl
  have q3 := hx0.cell (k := 3) rfl
  have q4 := hx0.cell (k := 4) rfl
  refine bodyPost_ret (v := .agg #[.slice (some ⟨w.heap.size + 1, 0, none⟩) 1 1, .slice (some ⟨w.heap.size + 1 + 1, 0, none⟩) 2 2, .slice (some ⟨w.heap.size + 1 + 1 + 1, 0, none⟩) 2 2, .int .i64 0, .int .i64 8]) (by simp [results, Tryd.f54, go_sem, q0, q1, q2, q3, q4]) rfl ⟨⟨_, _, _, rfl, fun _ => ⟨_, 0, rfl, fun j x hj => ?_⟩, fun _ => ⟨_, 0, rfl, fun j x hj => ?_⟩, fun _ => ⟨_, 0, rfl, fun j x hj => ?_⟩⟩, hbl⟩
  · rw [Nat.zero_add]
    match j, hj with
    | 0, hj => cases hj; exact hx1.cell rfl
  · rw [Nat.zero_add]
    match j, hj with
    | 0, hj => cases hj; exact hx2.cell rfl
    | 1, hj => cases hj; exact hx2.cell rfl
  · rw [Nat.zero_add]
    match j, hj with
    | 0, hj => cases hj; exact hx3.cell rfl
    | 1, hj => cases hj; exact hx3.cell rfl

theorem smallCode : rolesCode [1] [2, 0] [1, 6] 0 8 = 0 := by decide +kernel
theorem smallTasks : taskS [2, 0] [1, 6] (row [1] 0) = 7 := by decide +kernel
theorem smallOk : ROk [1] [2, 0] [1, 6] 0 8 [2, 0] [1] [1, 6] 0 := by
  obtain ⟨r, Un, Mn, fN, h⟩ := rolesCode_ok smallCode
  have h1 : [2, 0] = r := castL_inj (r := [2, 0]) h.a
  have h2 : [1] = Un := castL_inj (r := [1]) h.u
  have h3 : [1, 6] = Mn := castL_inj (r := [1, 6]) h.m
  have h4 : fN = 0 := by have := h.f; omega
  subst h1 h2 h3 h4
  exact h
set_option maxHeartbeats 1000000 in
theorem rolesFact_true (w : World) (hT : Tab w) : Calls Tryd.prog 14 #[] w fun e w' => e = .returned (.bool true) ∧ Below w.heap.size w w' := by
  have HS := Lib.hid small_any
  have HM := Lib.hid (fun V b0 b1 b2 (h0 : IntsAt V b0 [1]) (h1 : IntsAt V b1 [2, 0]) (h2 : IntsAt V b2 [1, 6]) (hV : Tab V) => RMay_ok (cu := 1) (ca := 2) (cm := 2) h0 h1 h2 hV smallOk smallCode (u := 0) (by decide))
  have Ht := Lib.hid smallTasks
  go_enter Tryd.func14, Tryd.ntmps14
  go_wp2_with fail
  refine (HS.out _).mono ?_
  rintro e w1 ⟨⟨b0, b1, b2, rfl, i0, i1, i2⟩, hb1⟩
  have HM2 := HM.out w1 _ _ _ i0 i1 i2 (hT.next hb1)
  rw [Ht.out] at HM2
  have HM2 := Lib.hid HM2
  clear HM HS
  go_wp2_with fail
  refine HM2.out.mono ?_
  rintro e w2 ⟨rfl, hb2⟩
  go_wp2_with fail
  go_ret
  exact ⟨rfl, hb1.trans (hb2.mono hb1.size)⟩

set_option maxHeartbeats 2000000 in
theorem RolesFew_walk (U A M : List Int) (Au Aa Am : Option Addr) (cu ca cm : Nat) (few most : Int) {W : World} (hU : IntsAt W Au U) (hA : IntsAt W Aa A) (hM : IntsAt W Am M) (sU : U.length < 2 ^ 64) (sA : A.length < 2 ^ 64) (sM : M.length < 2 ^ 64) (bf : I64 few) (bm : I64 most) (user : Int) (bu : I64 user) (w : World) (hw : w = W) (hT : Tab W) :
    Calls Tryd.prog 4 #[.agg #[.slice Au U.length cu, .slice Aa A.length ca, .slice Am M.length cm, .int .i64 few, .int .i64 most], .int .i64 user] w fun e w' => e = .returned (.bool true) ∧ Below W.heap.size W w' := by
  subst hw
  have HF := Lib.hid (fun V (hV : Below w.heap.size w V) => rolesFact_true V (hT.next hV))
  have hb0 : Below w.heap.size w (w.alloc (.cells #[.slice Au U.length cu, .slice Aa A.length ca, .slice Am M.length cm, .int .i64 few, .int .i64 most] 24)) := (Below.refl _ _).alloc (Nat.le_refl _) _
  have hx0 := BoxN.new w 24 #[.slice Au U.length cu, .slice Aa A.length ca, .slice Am M.length cm, .int .i64 few, .int .i64 most]
  by_cases hz : hasCode U A M few most user = 0
  · have hz1 : rolesCode U A M few most = 0 ∧ (0 ≤ user ∧ user < U.length) := by
      unfold hasCode at hz
      split at hz
      · rename_i h1
        split at hz
        · rename_i h2; exact ⟨h1, h2⟩
        · cases hz
      · rename_i h1; exact absurd hz h1
    obtain ⟨hz1, hu0, hu1⟩ := hz1
    obtain ⟨r, Un, Mn, fN, hok⟩ := rolesCode_ok hz1
    obtain ⟨u, rfl⟩ := Int.eq_ofNat_of_zero_le hu0
    have huU : u < U.length := by omega
    have HH := Lib.hid (fun V (hV : Below w.heap.size w V) => (RHas_ok (cu := cu) (ca := ca) (cm := cm) (hU.below hV) (hA.below hV) (hM.below hV) (hT.next hV) hok hz1 huU).mono fun e w' ⟨he, hx⟩ => (⟨he, hx, hV.trans (hx.mono hV.size)⟩ : _ ∧ Below V.heap.size V w' ∧ Below w.heap.size w w'))
    have hfew := hok.few_ u (by have := hok.u; rw [this, length_castL] at huU; exact huU)
    have hla := hok.la
    have hal : allS r (row Un u) < 256 := Nat.lt_of_lt_of_le (allS_lt hla hok.ba _) (Nat.pow_le_pow_right (by decide) hla)
    have hf256 : fN < 256 := Nat.lt_of_lt_of_le hok.bf (Nat.pow_le_pow_right (by decide) hla)
    have hff := hok.f
    subst hff
    have hand : allS r (row Un u) &&& fN < 256 := Nat.lt_of_le_of_lt Nat.and_le_left hal
    have HB := Lib.hid (fun V => RBoth_any (allS r (row Un u)) fN V (by omega) (by omega))
    have HN := Lib.hid (fun V => RMany_any (allS r (row Un u) &&& fN) hand V)
    clear hok hz hz1 hU hA hM hu0 hu1 huU hT hla
    generalize allS r (row Un u) &&& fN = t at *
    generalize allS r (row Un u) = a at *
    have d1 : decide ((a : Int) ≥ 0) = true := by simp
    have d2 : decide ((a : Int) ≤ 255) = true := decide_eq_true (by omega)
    have d3 : decide ((cnt 8 t : Int) ≤ most) = true := decide_eq_true hfew
    clear hfew
    generalize cnt 8 t = ct at *
    generalize U.length = m at *
    generalize A.length = n at *
    generalize M.length = k at *
    go_enter Tryd.func4, Tryd.ntmps4
    go_wp2_with fail
    refine (HF.out _ hb0).mono ?_
    rintro e w1 ⟨rfl, hb1⟩
    have hx1 := hx0.all hb1
    have hb01 := hb0.trans (hb1.mono hb0.size)
    have hl1 := hx1.lt
    have e0 : w1.cell? ⟨w.heap.size, 0, none⟩ = some (.slice Au m cu) := hx1.cell rfl
    have e1 : w1.cell? ⟨w.heap.size, 1, none⟩ = some (.slice Aa n ca) := hx1.cell rfl
    have e2 : w1.cell? ⟨w.heap.size, 2, none⟩ = some (.slice Am k cm) := hx1.cell rfl
    have e3 : w1.cell? ⟨w.heap.size, 3, none⟩ = some (.int .i64 (fN : Nat)) := hx1.cell rfl
    have e4 : w1.cell? ⟨w.heap.size, 4, none⟩ = some (.int .i64 most) := hx1.cell rfl
    clear hx0 hb0 hb1 HF
    go_wp2_with fail
    refine (HH.out _ hb01).mono ?_
    rintro e w2 ⟨rfl, hb2, hb02⟩
    have hx2 := hx1.all hb2
    clear e0 e1 e2 e3 e4 HH
    have e3 : w2.cell? ⟨w.heap.size, 3, none⟩ = some (.int .i64 (fN : Nat)) := hx2.cell rfl
    have e4 : w2.cell? ⟨w.heap.size, 4, none⟩ = some (.int .i64 most) := hx2.cell rfl
    go_wp2_with fail
    go_quiet (first | (with_reducible exact quiet1 (HB.out _)) | (with_reducible exact quiet1 (HN.out _)))
    go_wp2_with fail
    go_ret
    exact ⟨rfl, belowD hb02 _⟩
  · obtain ⟨kk, hk⟩ : ∃ kk, hasCode U A M few most user = kk := ⟨_, rfl⟩
    have hne : kk ≠ 0 := by rw [← hk]; exact hz
    have HH := Lib.hid (fun V (hV : Below w.heap.size w V) => (RHas_bad (cu := cu) (ca := ca) (cm := cm) (hU.below hV) (hA.below hV) (hM.below hV) sU sA sM (hT.next hV) hk hne).mono fun e w' ⟨he, hx⟩ => (⟨he, hV.trans (hx.mono hV.size)⟩ : _ ∧ Below w.heap.size w w'))
    clear hz hk hne hU hA hM hT
    generalize U.length = m at *
    generalize A.length = n at *
    generalize M.length = k at *
    go_enter Tryd.func4, Tryd.ntmps4
    go_wp2_with fail
    refine (HF.out _ hb0).mono ?_
    rintro e w1 ⟨rfl, hb1⟩
    have hx1 := hx0.all hb1
    have hb01 := hb0.trans (hb1.mono hb0.size)
    have hl1 := hx1.lt
    have e0 : w1.cell? ⟨w.heap.size, 0, none⟩ = some (.slice Au m cu) := hx1.cell rfl
    have e1 : w1.cell? ⟨w.heap.size, 1, none⟩ = some (.slice Aa n ca) := hx1.cell rfl
    have e2 : w1.cell? ⟨w.heap.size, 2, none⟩ = some (.slice Am k cm) := hx1.cell rfl
    have e3 : w1.cell? ⟨w.heap.size, 3, none⟩ = some (.int .i64 few) := hx1.cell rfl
    have e4 : w1.cell? ⟨w.heap.size, 4, none⟩ = some (.int .i64 most) := hx1.cell rfl
    clear hx0 hb0 hb1 HF
    go_wp2_with fail
    refine (HH.out _ hb01).mono ?_
    rintro e w2 ⟨rfl, hb2⟩
    go_wp2_with fail
    go_ret
    exact ⟨rfl, hb2⟩
end Go.Proofs.YtdnkknggnhihgaaDoor
