/-
  The walk of GrantPath.
-/
import Derived.Test.YtdnkknggnhihgaaDoorGrantPu
import Derived.Test.YtdnkknggnhihgaaDoorGrantL
import Derived.Test.YtdnkknggnhihgaaDoorAs
import Derived.Test.YtdnkknggnhihgaaDoorStructs
namespace Go.Proofs.YtdnkknggnhihgaaDoor
open Go.RowKit
set_option maxRecDepth 100000
set_option linter.unusedVariables false

set_option maxHeartbeats 4000000 in
theorem GrantPath_ok (users : Int) (n : Nat) (G : List Int) (A : Option Addr) (c : Nat) (w : World) (hl : G.length = n * 3) (h : IntsAt w A G) (s3 : n * 3 < 2 ^ 47) (hcap : n ≤ c) (u : Int) (hz : pCode users G n u = 0) (hE : ErrT w) :
    Calls Tryd.prog 10 #[.int .i64 users, .slice A n c, .int .i64 u] w fun e w' => e = .returned (.bool true) ∧ Below w.heap.size w w' := by
  have H0 := Lib.hid (grantFact_true w)
  have HP := Lib.hid (fun V (hV : IntsAt V A G) => GPath_ok users n G u A c V hV (by omega) (by omega) hcap hz)
  have hz1 : gCode users G n = 0 ∧ (0 ≤ u ∧ u < users) ∧ gHeld G n u = true := by
    unfold pCode at hz
    split at hz
    · rename_i h1
      split at hz
      · rename_i h2
        split at hz
        · rename_i h3; exact ⟨h1, h2, h3⟩
        · cases hz
      · cases hz
    · rename_i h1; exact absurd hz h1
  obtain ⟨hz1, ⟨hu0, hu1⟩, hh⟩ := hz1
  obtain ⟨hu, h40, hall⟩ := gCode_ok hz1
  have HH := Lib.hid (fun V (hV : IntsAt V A G) => GHolds_ok users n G A c V hV (by omega) (by omega) hcap hz1)
  have hto : ∀ i, i < n → 0 ≤ gTo G i ∧ gTo G i < 8 := fun i hi => by
    have h1 := (gBad_zero.1 (hall i hi)).1
    exact ⟨h1.2.1.1, by have := h1.2.1.2; omega⟩
  have hs8 := gSet_lt (G := G) (n := n) (fun i hi => (hto i hi).2)
  have hbit := gSet_held (G := G) (n := n) (u := u) hu0 (fun i hi => (hto i hi).1)
  rw [hh] at hbit
  obtain ⟨x, rfl⟩ := Int.eq_ofNat_of_zero_le hu0
  rw [Int.toNat_natCast] at hbit
  have HB := Lib.hid (fun V => Bit_is (gSet G n) x true V (by omega) (by omega) hbit)
  clear hz hz1 hall hh hto hbit
  generalize gSet G n = s at *
  have d1 : decide ((s : Int) < 0) = false := by simp
  have d2 : decide ((s : Int) > 255) = false := by simp; omega
  have d3 : decide ((x : Int) < 0) = false := by simp
  have d4 : decide ((x : Int) ≥ users) = false := by simp; omega
  go_enter Tryd.func10, Tryd.ntmps10
  go_wp2_with fail
  refine H0.out.mono ?_
  rintro e w1 ⟨rfl, hb1⟩
  go_wp2_with fail
  refine (HH.out _ (h.below hb1)).mono ?_
  rintro e w2 ⟨rfl, hb2⟩
  have hb02 := hb1.trans (hb2.mono hb1.size)
  go_wp2_with fail
  refine (HP.out _ (h.below hb02)).mono ?_
  rintro e w3 ⟨⟨B, d, p, rfl, hp, hi⟩, hb3⟩
  have hb03 := hb02.trans (hb3.mono hb02.size)
  have hs03 := hb03.size
  clear HH HP H0 hb1 hb2 hb3 hb02
  go_wp2_with fail
  go_quiet (with_reducible exact quiet1 (HB.out _))
  have hfirst := hp.first
  have hlast := hp.last
  have hlen := hp.len
  have hpos := List.length_pos_iff.2 hp.ne
  obtain ⟨idx, hidx, hrise⟩ := hp.along
  have Hidx := Lib.hid hidx
  have Hrise := Lib.hid hrise
  clear hp hidx hrise
  obtain ⟨b, off, rfl, hpc⟩ := hi (by intro e; simp [e] at hpos)
  have c0 : w3.cell? ⟨b, off, none⟩ = some (.int .i64 (gI p 0)) := hpc 0 _ (get_gI hpos)
  have c1 : w3.cell? ⟨b, off + (p.length - 1), none⟩ = some (.int .i64 (gI p (p.length - 1))) := hpc _ _ (get_gI (by omega))
  rw [hfirst] at c0
  rw [hlast] at c1
  have Hpc := Lib.hid hpc
  clear hpc hfirst hlast hi
  have HG := Lib.hid (fun k (hk : k < p.length) => get_gI (l := p) hk)
  generalize hL : p.length = L at *
  have HL := Lib.hid hL
  have e1 : ((L : Int) - 1).toNat = L - 1 := by omega
  have e2 : (1 : Int) ≤ L := by omega
  have e3 : (0 : Int) ≤ (L : Int) - 1 := by omega
  have e4 : (L : Int) - 1 < L := by omega
  have e5 : decide (L = 0) = false := by simp; omega
  clear hL
  go_wp2_with fail
  have hd3 : Below w3.heap.size w3 (w3.drewN nq) := belowD (Below.refl _ _) nq
  generalize w3.drewN nq = w4 at *
  clear c0 c1 e1 e2 e3 e4 e5 HB d1 d2 d3 d4
  go_loopw [12, 13] (fun at_ i wr => ∃ a k : Nat, at_ = .int .i64 a ∧ i = .int .i64 k ∧ 1 ≤ k ∧ k ≤ L ∧ a ≤ n ∧ Hid (k < L → a ≤ idx k) ∧ Below w3.heap.size w3 wr) (fun _ i _ => L - (intOf i).toNat)
  case atStart => exact ⟨0, 1, rfl, rfl, Nat.le_refl _, hpos, Nat.zero_le _, fun _ => Nat.zero_le _, hd3⟩
  case round =>
    clear hd3
    obtain ⟨a, k, rfl, rfl, hk1, hkL, han, hai, hbr⟩ := hrel
    obtain ⟨wo, rfl⟩ : ∃ wo : World, wo = wr := ⟨_, rfl⟩
    by_cases hlt : k < L
    · have hai := hai.out hlt
      obtain ⟨hin, hif, hit⟩ := Hidx.out k hk1 hlt
      have hbp : b < w3.heap.size := block_lt (Hpc.out 0 _ (HG.out 0 hpos))
      have r1 : w3.cell? ⟨b, off + (k - 1), none⟩ = some (.int .i64 (gI p (k - 1))) := Hpc.out _ _ (HG.out _ (by omega))
      have r2 : w3.cell? ⟨b, off + k, none⟩ = some (.int .i64 (gI p k)) := Hpc.out _ _ (HG.out _ hlt)
      have e1 : ((k : Int) - 1).toNat = k - 1 := by omega
      have e2 : (1 : Int) ≤ k := by omega
      have e3 : (0 : Int) ≤ (k : Int) - 1 := by omega
      have e4 : (k : Int) - 1 < L := by omega
      have e5 : (k : Int) < L := by omega
      have Hne := Lib.hid (fun j (hj : j ≤ idx k) (hno : gFr G j ≠ gI p (k - 1) ∨ gTo G j ≠ gI p k) => show j + 1 ≤ idx k by
        rcases Nat.lt_or_ge j (idx k) with h1 | h1
        · exact h1
        · obtain rfl : j = idx k := by omega
          rcases hno with h2 | h2
          · exact absurd hif h2
          · exact absurd hit h2)
      have Hri := Lib.hid (fun (h2 : k + 1 < L) => Hrise.out (k + 1) (by omega) h2)
      clear hif hit
      generalize gI p (k - 1) = y at *
      generalize gI p k = z at *
      go_wp2_with fail
      go_loopw [12] (fun at_ wr => ∃ j : Nat, at_ = .int .i64 j ∧ j ≤ idx k ∧ Below w3.heap.size w3 wr) (fun at_ _ => n - (intOf at_).toNat)
      case atStart => exact ⟨a, rfl, hai, hbr⟩
      case round =>
        clear hbr
        obtain ⟨j, rfl, hji, hbr⟩ := hrel
        have hjn : j < n := by omega
        have hb0r := hb03.trans (hbr.mono hs03)
        obtain ⟨bb, off2, rfl, hbw, q0, q1, q2⟩ := grant_at h (by omega) hjn hb0r
        have t1 := (hbr.cell (p := ⟨b, off + (k - 1), none⟩) hbp).trans r1
        have t2 := (hbr.cell (p := ⟨b, off + k, none⟩) hbp).trans r2
        have f1 : decide (j < n) = true := by simpa using hjn
        have f2 : (j : Int) < n := by omega
        have Hn2 := Lib.hid (Hne.out j hji)
        clear q2
        generalize gFr G j = x0 at *
        generalize gTo G j = x1 at *
        cases c0 : (x0 == y) with
        | false =>
          have Hn3 := Lib.hid (Hn2.out (.inl (by simpa using c0)))
          have g0 : (x0 != y) = true := by simpa using c0
          clear Hn2 c0
          go_wp2_with fail
          go_quiet (fail)
          go_wp2_with fail
          refine ⟨⟨j + 1, ?ya, Hn3.out, belowD hbr _⟩, ?yd⟩
          case ya => go_num
          case yd => simp [intOf]; omega
        | true =>
          have g0 : (x0 != y) = false := by simpa using c0
          cases c1 : (x1 == z) with
          | false =>
            have Hn3 := Lib.hid (Hn2.out (.inr (by simpa using c1)))
            have g1 : (x1 != z) = true := by simpa using c1
            clear Hn2 c1 c0
            go_wp2_with fail
            go_quiet (fail)
            go_wp2_with fail
            refine ⟨⟨j + 1, ?za, Hn3.out, belowD hbr _⟩, ?zd⟩
            case za => go_num
            case zd => simp [intOf]; omega
          | true =>
            have g1 : (x1 != z) = false := by simpa using c1
            have f3 : decide (j = n) = false := by simp; omega
            clear Hn2 c1 c0
            have Hnx := Lib.hid (fun (h2 : k + 1 < L) => show j + 1 ≤ idx (k + 1) by
              have := Hri.out h2
              simp only [Nat.add_sub_cancel] at this
              omega)
            go_wp2_with fail
            go_quiet (fail)
            go_wp2_with fail
            refine ⟨⟨j + 1, k + 1, ?wa, ?wb, by omega, hlt, hjn, Hnx.out, belowD hbr _⟩, ?wd⟩
            case wa => go_num
            case wb => go_num
            case wd => simp [intOf]; omega
    · obtain rfl : k = L := by omega
      have hfin := hb03.trans (hbr.mono hs03)
      go_wp2_with fail
      go_ret
      exact ⟨rfl, hfin⟩

theorem GrantPath_walk (users : Int) {W : World} (bu : I64 users) (n : Nat) (G : List Int) (A : Option Addr) (c : Nat) (hl : G.length = n * 3) (h : IntsAt W A G) (s3 : n * 3 < 2 ^ 47) (bG : ∀ x ∈ G, I64 x) (hcap : n ≤ c) (u : Int) (bu2 : I64 u) (w : World) (hw : w = W) (hE : ErrT W) :
    Calls Tryd.prog 10 #[.int .i64 users, .slice A n c, .int .i64 u] w fun e w' => e = .returned (.bool true) ∧ Below W.heap.size W w' := by
  subst hw
  by_cases hz : pCode users G n u = 0
  · exact GrantPath_ok users n G A c w hl h s3 hcap u hz hE
  · have H0 := Lib.hid (grantFact_true w)
    obtain ⟨kk, hk⟩ : ∃ kk, pCode users G n u = kk := ⟨_, rfl⟩
    have hne : kk ≠ 0 := by rw [← hk]; exact hz
    have HP := Lib.hid (fun V (hV : IntsAt V A G) => GPath_bad users n G u A c V hV (by omega) (by omega) hcap hk hne)
    unfold pCode at hk
    by_cases h1 : gCode users G n = 0
    · rw [if_pos h1] at hk
      have HH := Lib.hid (fun V (hV : IntsAt V A G) => GHolds_ok users n G A c V hV (by omega) (by omega) hcap h1)
      obtain ⟨hu, h40, hall⟩ := gCode_ok h1
      by_cases h2 : 0 ≤ u ∧ u < users
      · rw [if_pos h2] at hk
        have hh : gHeld G n u = false := by
          cases hh : gHeld G n u with
          | false => rfl
          | true => rw [hh, if_pos rfl] at hk; exact absurd hk.symm hne
        rw [hh] at hk
        obtain rfl : 5 = kk := by simpa using hk
        have hto : ∀ i, i < n → 0 ≤ gTo G i ∧ gTo G i < 8 := fun i hi => by
          have h1 := (gBad_zero.1 (hall i hi)).1
          exact ⟨h1.2.1.1, by have := h1.2.1.2; omega⟩
        have hs8 := gSet_lt (G := G) (n := n) (fun i hi => (hto i hi).2)
        have hbit := gSet_held (G := G) (n := n) (u := u) h2.1 (fun i hi => (hto i hi).1)
        rw [hh] at hbit
        obtain ⟨x, rfl⟩ := Int.eq_ofNat_of_zero_le h2.1
        rw [Int.toNat_natCast] at hbit
        have hxu := h2.2
        have HB := Lib.hid (fun V => Bit_is (gSet G n) x false V (by omega) (by omega) hbit)
        have HE := Lib.hid (fun V (hV : Below w.heap.size w V) => Error_is 5 5 true V (hE.next hV) (by simp))
        clear hz hk hne h1 hall hh hto hbit h2 hE
        generalize gSet G n = s at *
        have d1 : decide ((s : Int) < 0) = false := by simp
        have d2 : decide ((s : Int) > 255) = false := by simp; omega
        have d3 : decide ((x : Int) < 0) = false := by simp
        have d4 : decide ((x : Int) ≥ users) = false := by simp; omega
        go_enter Tryd.func10, Tryd.ntmps10
        go_wp2_with fail
        refine H0.out.mono ?_
        rintro e w1 ⟨rfl, hb1⟩
        go_wp2_with fail
        refine (HH.out _ (h.below hb1)).mono ?_
        rintro e w2 ⟨rfl, hb2⟩
        have hb02 := hb1.trans (hb2.mono hb1.size)
        go_wp2_with fail
        refine (HP.out _ (h.below hb02)).mono ?_
        rintro e w3 ⟨rfl, hb3⟩
        have hb03 := hb02.trans (hb3.mono hb02.size)
        go_wp2_with fail
        go_quiet (with_reducible exact quiet1 (HB.out _))
        have HE2 := HE.out _ (belowD hb03 nq)
        rw [errVal_pos (by decide)] at HE2
        have HE2 := Lib.hid HE2
        clear HE
        go_wp2_with fail
        refine HE2.out.mono ?_
        rintro e w8 ⟨rfl, hb8⟩
        go_wp2_with fail
        go_ret
        exact ⟨rfl, (belowD hb03 nq).trans (hb8.mono (by simpa using hb03.size))⟩
      · rw [if_neg h2] at hk
        subst hk
        have hd : ∀ Q : Prop, (decide (u < 0) = true → Q) → (decide (u < 0) = false → decide (u ≥ users) = true → Q) → Q := fun Q a b => by
          by_cases h3 : u < 0
          · exact a (by simpa using h3)
          · exact b (by simpa using h3) (by simp; omega)
        clear hz hne h1 hall h2 hE
        refine hd _ (fun g1 => ?_) (fun g1 g2 => ?_)
        all_goals
          go_enter Tryd.func10, Tryd.ntmps10
          go_wp2_with fail
          refine H0.out.mono ?_
          rintro e w1 ⟨rfl, hb1⟩
          go_wp2_with fail
          refine (HH.out _ (h.below hb1)).mono ?_
          rintro e w2 ⟨rfl, hb2⟩
          have hb02 := hb1.trans (hb2.mono hb1.size)
          go_wp2_with fail
          refine (HP.out _ (h.below hb02)).mono ?_
          rintro e w3 ⟨rfl, hb3⟩
          go_wp2_with fail
          go_ret
          exact ⟨rfl, hb02.trans (hb3.mono hb02.size)⟩
    · rw [if_neg h1] at hk
      have HH := Lib.hid (fun V (hV : IntsAt V A G) => GHolds_bad users n G A c V hV (by omega) (by omega) hcap hk hne)
      clear hz hk hne h1 hE
      go_enter Tryd.func10, Tryd.ntmps10
      go_wp2_with fail
      refine H0.out.mono ?_
      rintro e w1 ⟨rfl, hb1⟩
      go_wp2_with fail
      refine (HH.out _ (h.below hb1)).mono ?_
      rintro e w2 ⟨rfl, hb2⟩
      have hb02 := hb1.trans (hb2.mono hb1.size)
      go_wp2_with fail
      refine (HP.out _ (h.below hb02)).mono ?_
      rintro e w3 ⟨rfl, hb3⟩
      go_wp2_with fail
      go_ret
      exact ⟨rfl, hb02.trans (hb3.mono hb02.size)⟩
end Go.Proofs.YtdnkknggnhihgaaDoor
