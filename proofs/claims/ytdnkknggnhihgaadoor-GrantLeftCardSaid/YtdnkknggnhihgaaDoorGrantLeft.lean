/-
  The walk of GrantLeft.
-/
import Derived.Test.YtdnkknggnhihgaaDoorGrantL
import Derived.Test.YtdnkknggnhihgaaDoorAs
import Derived.Test.YtdnkknggnhihgaaDoorStructs
namespace Go.Proofs.YtdnkknggnhihgaaDoor
open Go.RowKit
set_option maxRecDepth 100000
set_option linter.unusedVariables false

set_option maxHeartbeats 4000000 in
theorem GrantLeft_walk (users : Int) {W : World} (bu : I64 users) (n : Nat) (G : List Int) (A : Option Addr) (c : Nat) (hl : G.length = n * 3) (h : IntsAt W A G) (s3 : n * 3 < 2 ^ 47) (bG : ∀ x ∈ G, I64 x) (hcap : n ≤ c) (fr : Int) (bf : I64 fr) (to : Int) (bt : I64 to) (w : World) (hw : w = W) (hE : ErrT W) :
    Calls Tryd.prog 7 #[.int .i64 users, .slice A n c, .int .i64 fr, .int .i64 to] w fun e w' => e = .returned (.bool true) ∧ Below W.heap.size W w' := by
  subst hw
  have H0 := Lib.hid (grantFact_true w)
  by_cases hz : rCode users G n fr to = 0
  · have HR := Lib.hid (fun V (hV : IntsAt V A G) => GRevoke_ok users n G fr to A c V hV (by omega) (by omega) hcap hz)
    obtain ⟨hz1, hrg, -⟩ := rCode_in hz
    obtain ⟨hu, h40, hall⟩ := gCode_ok hz1
    have HH1 := Lib.hid (fun V (hV : IntsAt V A G) => GHolds_ok users n G A c V hV (by omega) (by omega) hcap hz1)
    have hzX : gCode users (gFilt G (gK G fr to) n) (gCount (gK G fr to) n) = 0 := gCode_filt hz1 (Nat.le_refl _)
    have hlX : (gFilt G (gK G fr to) n).length = gCount (gK G fr to) n * 3 := length_gFilt n
    have hless := less_left hz
    have HH2 := Lib.hid (fun V B d (hd : gCount (gK G fr to) n ≤ d) (hV : IntsAt V B (gFilt G (gK G fr to) n)) => GHolds_ok users (gCount (gK G fr to) n) (gFilt G (gK G fr to) n) B d V hV (by omega) (by omega) hd hzX)
    have HC2 := fun V B d (hd : gCount (gK G fr to) n ≤ d) (hV : IntsAt V B (gFilt G (gK G fr to) n)) => GCheck_any users (gCount (gK G fr to) n) (gFilt G (gK G fr to) n) B d V hV (by omega) (by omega) hd
    rw [hzX, errVal_zero] at HC2
    have HC2 := Lib.hid HC2
    have HR2 := Lib.hid (fun V B d (hd : gCount (gK G fr to) n ≤ d) (hV : IntsAt V B (gFilt G (gK G fr to) n)) => GRevoke_bad users (gCount (gK G fr to) n) (gFilt G (gK G fr to) n) fr to B d V hV (by omega) (by omega) hd (again_none hz) (by decide))
    have Hyes := Lib.hid (fun i (hi : i < n) (hk : gK G fr to i = true) => match_yes (G := G) hi hk)
    have Hno := Lib.hid (fun i (hi : i < n) (hk : gK G fr to i = false) (hc : gCount (gK G fr to) i < gCount (gK G fr to) n) => gFilt_skip (fun i hi => hall i hi) hi hk hc)
    have Hc1 := Lib.hid (fun k (hf : gK G fr to k = true) => show gCount (gK G fr to) (k + 1) = gCount (gK G fr to) k + 1 by
      show (if (gK G fr to k) = true then _ else _) = _
      rw [if_pos hf])
    have Hc0 := Lib.hid (fun k (hf : gK G fr to k = false) => show gCount (gK G fr to) (k + 1) = gCount (gK G fr to) k by
      show (if (gK G fr to k) = true then _ else _) = _
      rw [if_neg (by rw [hf]; decide)])
    have Hmono := Lib.hid (fun i (hi : i ≤ n) => gCount_mono (k := gK G fr to) hi)
    have hto : ∀ i, i < n → 0 ≤ gTo G i ∧ gTo G i < 8 := fun i hi => by
      have h1 := (gBad_zero.1 (hall i hi)).1
      exact ⟨h1.2.1.1, by have := h1.2.1.2; omega⟩
    have hs8 := gSet_lt (G := G) (n := n) (fun i hi => (hto i hi).2)
    have hsub := gSet_sub (G := G) (k := gK G fr to) (n := n) (fun i hi => (hto i hi).1)
    have hb1' := gSet_one (G := gFilt G (gK G fr to) n) (gCount (gK G fr to) n)
    have hb8 : gSet (gFilt G (gK G fr to) n) (gCount (gK G fr to) n) < 256 := gSet_lt (fun i hi => by
      have h1 := (gBad_zero.1 ((gCode_ok hzX).2.2 i hi)).1
      have := h1.2.1.2
      omega)
    have HW := Lib.hid (fun V => Within_is (gSet (gFilt G (gK G fr to) n) (gCount (gK G fr to) n)) (gSet G n) true V (by omega) (by omega) ((within_iff _ _).2 fun i hi => hsub i hi))
    have HE := Lib.hid (fun V (hV : Below w.heap.size w V) => Error_is 5 5 true V (hE.next hV) (by simp))
    clear hz hz1 hrg hall hto hsub hE hzX
    have h0c : gCount (gK G fr to) 0 = 0 := rfl
    generalize gSet (gFilt G (gK G fr to) n) (gCount (gK G fr to) n) = sb at *
    generalize gSet G n = sa at *
    generalize gK G fr to = K at *
    have Hlx := Lib.hid hlX
    generalize gFilt G K n = X at *
    clear hlX
    generalize hm : gCount K n = m at *
    have Hm := Lib.hid hm
    clear hm
    go_enter Tryd.func7, Tryd.ntmps7
    go_wp2_with fail
    refine H0.out.mono ?_
    rintro e w1 ⟨rfl, hb1⟩
    go_wp2_with fail
    refine (HR.out _ (h.below hb1)).mono ?_
    rintro e w2 ⟨⟨B, d, rfl, hd, hB⟩, hb2⟩
    clear HR H0
    have hb02 := hb1.trans (hb2.mono hb1.size)
    have hs02 := hb02.size
    go_wp2_with fail
    clear hb1 hb2
    go_loopw [13, 12] (fun i v wr => ∃ k : Nat, k ≤ n ∧ i = .int .i64 k ∧ v = .int .i64 (gCount K k : Nat) ∧ Below w2.heap.size w2 wr) (fun i _ _ => n - (intOf i).toNat)
    case atStart => exact ⟨0, Nat.zero_le _, rfl, by rw [h0c]; rfl, Below.refl _ _⟩
    case round =>
      clear h0c
      obtain ⟨k, hk, rfl, rfl, hbr⟩ := hrel
      have hszr := hbr.size
      have hb0r := hb02.trans (hbr.mono hs02)
      by_cases hlt : k < n
      · obtain ⟨b, off, rfl, hbw, q0, q1, q2⟩ := grant_at h (by omega) hlt hb0r
        clear HH1 HH2 HC2 HR2 HW HE
        cases hK : K k with
        | true =>
          obtain ⟨hcm, e0, e1, e2⟩ := Hyes.out k hlt hK
          have hBr := hB.below hbr
          obtain ⟨b', off', rfl, hbw', q0', q1', q2'⟩ := grant_at (n := m) hBr (by have := Hlx.out; omega) hcm (Below.refl _ wr)
          rw [e0] at q0'
          rw [e1] at q1'
          rw [e2] at q2'
          have Hc := Lib.hid (Hc1.out k hK)
          clear Hc1 Hc0 Hyes Hno e0 e1 e2 hK
          have f1 : ((gCount K k : Nat) : Int) < m := by omega
          have f2 : (k : Int) < n := by omega
          have d1 : decide (gCount K k < m) = true := by simpa using hcm
          generalize gFr G k = x0 at *
          generalize gTo G k = x1 at *
          generalize gTm G k = x2 at *
          have hc40 : gCount K k < 100 := by omega
          generalize gCount K k = ck at *
          go_wp2_with fail
          go_quiet (fail)
          go_wp2_with fail
          refine ⟨⟨k + 1, ?ya, ?yb, ?yc, belowD hbr _⟩, ?yd⟩
          case ya => omega
          case yb => go_num
          case yc => rw [Hc.out]; go_num
          case yd => simp [intOf]; omega
        | false =>
          have Hc := Lib.hid (Hc0.out k hK)
          by_cases hcm : gCount K k < m
          · have htm := Hno.out k hlt hK hcm
            have hBr := hB.below hbr
            obtain ⟨b', off', rfl, hbw', q0', q1', q2'⟩ := grant_at (n := m) hBr (by have := Hlx.out; omega) hcm (Below.refl _ wr)
            clear Hc1 Hc0 Hyes Hno hK
            have f1 : ((gCount K k : Nat) : Int) < m := by omega
            have f2 : (k : Int) < n := by omega
            have d1 : decide (gCount K k < m) = true := by simpa using hcm
            have d3 : (gTm X (gCount K k) == gTm G k) = false := by simp; omega
            clear htm
            generalize gFr G k = x0 at *
            generalize gTo G k = x1 at *
            generalize gTm G k = x2 at *
            generalize gFr X (gCount K k) = y0 at *
            generalize gTo X (gCount K k) = y1 at *
            generalize gTm X (gCount K k) = y2 at *
            generalize gCount K k = ck at *
            have hd3 : ∀ (Q : Prop), ((y0 == x0) = false → Q) → ((y0 == x0) = true → (y1 == x1) = false → Q) → ((y0 == x0) = true → (y1 == x1) = true → Q) → Q := fun Q a b c => by
              cases h0 : (y0 == x0) with
              | false => exact a h0
              | true =>
                cases h1 : (y1 == x1) with
                | false => exact b h0 h1
                | true => exact c h0 h1
            refine hd3 _ (fun g0 => ?_) (fun g0 g1 => ?_) (fun g0 g1 => ?_)
            all_goals
              clear hd3
              go_wp2_with fail
              go_quiet (fail)
              go_wp2_with fail
              refine ⟨⟨k + 1, by omega, by go_num, by rw [Hc.out], belowD hbr _⟩, by simp [intOf]; omega⟩
          · clear Hc1 Hc0 Hyes Hno hK
            have d1 : decide (gCount K k < m) = false := by simpa using hcm
            generalize gCount K k = ck at *
            go_wp2_with fail
            go_quiet (fail)
            go_wp2_with fail
            refine ⟨⟨k + 1, ?xa, ?xb, ?xc, belowD hbr _⟩, ?xd⟩
            case xa => omega
            case xb => go_num
            case xc => rw [Hc.out]
            case xd => simp [intOf]; omega
      · obtain rfl : k = n := by omega
        rw [Hm.out]
        clear Hyes Hno Hc1 Hc0 Hmono
        have d1 : decide (m < k) = true := by simpa using hless
        go_wp2_with fail
        refine (HH1.out _ (h.below hb0r)).mono ?_
        rintro e w3 ⟨rfl, hb3⟩
        have hb23 := hbr.trans (hb3.mono hszr)
        go_wp2_with fail
        refine (HH2.out _ B d hd (hB.below hb23)).mono ?_
        rintro e w4 ⟨rfl, hb4⟩
        have hb24 := hb23.trans (hb4.mono hb23.size)
        go_wp2_with fail
        refine (HR2.out _ B d hd (hB.below hb24)).mono ?_
        rintro e w5 ⟨rfl, hb5⟩
        have hb25 := hb24.trans (hb5.mono hb24.size)
        clear HH1 HH2 HR2
        have d2 : decide ((sb : Int) ≥ 1) = true := by simp; omega
        have d3 : decide ((sb : Int) ≤ 255) = true := by simp; omega
        go_wp2_with fail
        refine (HC2.out _ B d hd (hB.below hb25)).mono ?_
        rintro e w6 ⟨rfl, hb6⟩
        have hb26 := hb25.trans (hb6.mono hb25.size)
        clear HC2
        go_wp2_with fail
        refine (HW.out _).mono ?_
        rintro e w7 ⟨rfl, rfl⟩
        have hb06 := hb02.trans (hb26.mono hs02)
        have HE2 := HE.out _ hb06
        rw [errVal_pos (by decide)] at HE2
        have HE2 := Lib.hid HE2
        go_wp2_with fail
        refine HE2.out.mono ?_
        rintro e w8 ⟨rfl, hb8⟩
        go_wp2_with fail
        go_ret
        exact ⟨rfl, hb06.trans (hb8.mono hb06.size)⟩
  · obtain ⟨kk, hk⟩ : ∃ kk, rCode users G n fr to = kk := ⟨_, rfl⟩
    have hne : kk ≠ 0 := by rw [← hk]; exact hz
    have HR := Lib.hid (fun V (hV : IntsAt V A G) => GRevoke_bad users n G fr to A c V hV (by omega) (by omega) hcap hk hne)
    clear hz hk hne
    go_enter Tryd.func7, Tryd.ntmps7
    go_wp2_with fail
    refine H0.out.mono ?_
    rintro e w1 ⟨rfl, hb1⟩
    go_wp2_with fail
    refine (HR.out _ (h.below hb1)).mono ?_
    rintro e w2 ⟨rfl, hb2⟩
    go_wp2_with fail
    go_ret
    exact ⟨rfl, hb1.trans (hb2.mono hb1.size)⟩
end Go.Proofs.YtdnkknggnhihgaaDoor
