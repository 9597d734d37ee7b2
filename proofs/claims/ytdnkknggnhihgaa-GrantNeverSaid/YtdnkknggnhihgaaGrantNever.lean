/-
  The walk of GrantNever.
-/
import Derived.Test.YtdnkknggnhihgaaGrantE
import Derived.Test.YtdnkknggnhihgaaStructs
namespace Go.Proofs.Ytdnkknggnhihgaa
open Go.RowKit
set_option maxRecDepth 100000
set_option linter.unusedVariables false

theorem gCode_filt {users : Int} {G : List Int} {n k : Nat} {P : Nat → Bool} (h : gCode users G n = 0) (hk : k ≤ n) : gCode users (gFilt G (kept (gFr G) (gTo G) P) k) (gCount (kept (gFr G) (gTo G) P) k) = 0 := by
  obtain ⟨hu, h40, hall⟩ := gCode_ok h
  have hc := gCount_le (k := kept (gFr G) (gTo G) P) k
  unfold gCode
  rw [if_pos hu, if_neg (by omega)]
  exact gScan_zero.2 (gFilt_ok fun i hi => hall i (by omega))

set_option maxHeartbeats 4000000 in
theorem GrantNever_walk (users : Int) {W : World} (bu : I64 users) (n : Nat) (G : List Int) (A : Option Addr) (c : Nat) (hl : G.length = n * 3) (h : IntsAt W A G) (s3 : n * 3 < 2 ^ 47) (bG : ∀ x ∈ G, I64 x) (hcap : n ≤ c) (fr : Int) (bf : I64 fr) (to : Int) (bt : I64 to) (w : World) (hw : w = W) :
    Calls Try.prog 3 #[.int .i64 users, .slice A n c, .int .i64 fr, .int .i64 to] w fun e w' => e = .returned (.bool true) ∧ Below W.heap.size W w' := by
  subst hw
  have H0 := Lib.hid (grantFact_true w)
  by_cases hz : rCode users G n fr to = 0
  · have HR := Lib.hid (fun V (hV : IntsAt V A G) => GRevoke_ok users n G fr to A c V hV (by omega) (by omega) hcap hz)
    have hz1 : gCode users G n = 0 := by
      unfold rCode at hz
      split at hz
      · rename_i h1; exact h1
      · rename_i h1; exact absurd hz h1
    obtain ⟨hu, h40, hall⟩ := gCode_ok hz1
    have HF := Lib.hid (fun k (hk : k ≤ n) => show gCode users (gFilt G (gK G fr to) k) (gCount (gK G fr to) k) = 0 from gCode_filt hz1 hk)
    have HS := Lib.hid (fun k => show gK G fr to k = (!gP G fr to k && gHeld (gFilt G (gK G fr to) k) (gCount (gK G fr to) k) (gFr G k)) from kept_step k)
    have Hin := Lib.hid (fun i (hi : i < n) => (gBad_zero.1 (hall i hi)).1)
    have HC1 := Lib.hid (fun k (hf : gK G fr to k = true) => show gCount (gK G fr to) (k + 1) = gCount (gK G fr to) k + 1 ∧ gFilt G (gK G fr to) (k + 1) = gFilt G (gK G fr to) k ++ [gFr G k, gTo G k, gTm G k] by
      show (if (gK G fr to k) = true then _ else _) = _ ∧ (if (gK G fr to k) = true then _ else _) = _
      rw [if_pos hf, if_pos hf]
      exact ⟨rfl, rfl⟩)
    have HC0 := Lib.hid (fun k (hf : gK G fr to k = false) => show gCount (gK G fr to) (k + 1) = gCount (gK G fr to) k ∧ gFilt G (gK G fr to) (k + 1) = gFilt G (gK G fr to) k by
      show (if (gK G fr to k) = true then _ else _) = _ ∧ (if (gK G fr to k) = true then _ else _) = _
      rw [if_neg (by rw [hf]; decide), if_neg (by rw [hf]; decide)]
      exact ⟨rfl, rfl⟩)
    have HP := Lib.hid (fun i => show gP G fr to i = (gFr G i == fr && gTo G i == to) from rfl)
    have HL := Lib.hid (fun k => length_gFilt (G := G) (k := gK G fr to) k)
    have HCL := Lib.hid (fun k => gCount_le (k := gK G fr to) k)
    clear hz hz1 hall
    generalize gK G fr to = K at *
    generalize gP G fr to = P at *
    go_enter Try.func3, Try.ntmps3
    go_wp2_with fail
    refine H0.out.mono ?_
    rintro e w1 ⟨rfl, hb1⟩
    go_wp2_with fail
    refine (HR.out _ (h.below hb1)).mono ?_
    rintro e w2 ⟨⟨B, d, rfl, hd, hB⟩, hb2⟩
    clear HR H0
    have hb02 := hb1.trans (hb2.mono hb1.size)
    have hs02 := hb02.size
    go_wp2_with fail
    clear hb1 hb2
    go_loopw [13, 12] (fun i v wr => ∃ k : Nat, k ≤ n ∧ i = .int .i64 k ∧ OwnG wr w2.heap.size v (gCount K k) (gFilt G K k) ∧ Below w2.heap.size w2 wr) (fun i _ _ => n - (intOf i).toNat)
    case atStart => exact ⟨0, Nat.zero_le _, rfl, OwnG.nil _ _, Below.refl _ _⟩
    case round =>
      obtain ⟨k, hk, rfl, hown, hbr⟩ := hrel
      have hszr := hbr.size
      by_cases hlt : k < n
      · obtain ⟨b, off, rfl, hbw, q0, q1, q2⟩ := grant_at h (by omega) hlt (hb02.trans (hbr.mono hs02))
        obtain ⟨A', d', hv, hd', hi'⟩ := hown.form
        subst hv
        have hin := Hin.out k hlt
        have hbw3 : b < wr.heap.size := by omega
        have Hp := HP.out k
        have Hs := HS.out k
        have HH := GHolds_ok users (gCount K k) (gFilt G K k) A' d' wr hi' (by have := HL.out k; omega) (by have := HCL.out k; omega) hd' (HF.out k (by omega))
        have hto : ∀ i, i < gCount K k → 0 ≤ gTo (gFilt G K k) i ∧ gTo (gFilt G K k) i < 8 := fun i hi => by
          have h1 := (gBad_zero.1 ((gCode_ok (HF.out k (by omega))).2.2 i hi)).1
          exact ⟨h1.2.1.1, by have := h1.2.1.2; omega⟩
        have hset := gSet_held (G := gFilt G K k) (n := gCount K k) (u := gFr G k) (hin.1.1) (fun i hi => (hto i hi).1)
        have hset8 := gSet_lt (G := gFilt G K k) (n := gCount K k) (fun i hi => (hto i hi).2)
        have H1 := HC1.out k
        have H2 := HC0.out k
        have hcl := HCL.out k
        obtain ⟨f, hf⟩ := Int.eq_ofNat_of_zero_le hin.1.1
        have hf8 : f < 8 := by have := hin.1.2; omega
        rw [hf] at hset q0 H1 Hp Hs
        rw [← hset, Int.toNat_natCast] at Hs
        clear hin hto hset hf
        generalize gSet (gFilt G K k) (gCount K k) = sv at *
        generalize gCount K k = cnt at *
        generalize gFilt G K k = xs at *
        generalize gTo G k = x1 at *
        generalize gTm G k = x2 at *
        have HH := Lib.hid HH
        have H1 := Lib.hid H1
        have H2 := Lib.hid H2
        have Hs := Lib.hid Hs
        have Hp := Lib.hid Hp
        have Hown := Lib.hid hown
        have HB := Lib.hid (fun V (r : Bool) (hr : sv.testBit f = r) => Bit_is sv f r V (by omega) (by omega) hr)
        have d1 : decide ((sv : Int) < 0) = false := by simp
        have d2 : decide ((sv : Int) > 255) = false := by simp; omega
        clear hown
        have hgo : ∀ (Q : Prop), (((f : Int) == fr) = true → (x1 == to) = true → Hid (K k = false) → Q) → (((f : Int) == fr) = false → Hid (K k = sv.testBit f) → Q) → (((f : Int) == fr) = true → (x1 == to) = false → Hid (K k = sv.testBit f) → Q) → Q := fun Q c1 c2 c3 => by
          have hp := Hp.out
          have hs := Hs.out
          cases e0 : ((f : Int) == fr) with
          | false => rw [e0] at hp; rw [hp] at hs; exact c2 e0 (Lib.hid (by simpa using hs))
          | true =>
            cases e1 : (x1 == to) with
            | true => rw [e0, e1] at hp; rw [hp] at hs; exact c1 e0 e1 (Lib.hid (by simpa using hs))
            | false => rw [e0, e1] at hp; rw [hp] at hs; exact c3 e0 e1 (Lib.hid (by simpa using hs))
        clear Hp Hs
        refine hgo _ (fun e0 e1 hK => ?_) (fun e0 hK => ?_) (fun e0 e1 hK => ?_)
        · have H2 := Lib.hid (H2.out hK.out)
          clear hgo HH HB hK H1
          go_wp2_with fail
          refine ⟨⟨k + 1, ?ya, ?yb, ?yc, hbr⟩, ?yd⟩
          case ya => omega
          case yb => go_num
          case yc => rw [H2.out.1, H2.out.2]; exact Hown.out
          case yd => simp [intOf]; omega
        all_goals
          cases hbit : sv.testBit f with
          | false =>
            rw [hbit] at hK
            have H2 := Lib.hid (H2.out hK.out)
            have HB := Lib.hid (fun V => HB.out V false hbit)
            clear hgo hK H1 hbit
            go_wp2_with fail
            refine HH.out.mono ?_
            rintro e w4 ⟨rfl, hb4⟩
            have r0 := (hb4.cell (p := ⟨b, off + k * 3, none⟩) hbw3).trans q0
            have ho4 := Lib.hid (Hown.out.next hb4)
            have hb24 := hbr.trans (hb4.mono hszr)
            clear HH
            go_wp2_with fail
            refine (HB.out _).mono ?_
            rintro e w5 ⟨rfl, rfl⟩
            go_wp2_with fail
            refine ⟨⟨k + 1, ?za, ?zb, ?zc, hb24⟩, ?zd⟩
            case za => omega
            case zb => go_num
            case zc => rw [H2.out.1, H2.out.2]; exact ho4.out
            case zd => simp [intOf]; omega
          | true =>
            rw [hbit] at hK
            have H1 := Lib.hid (H1.out hK.out)
            have HB := Lib.hid (fun V => HB.out V true hbit)
            clear hgo hK H2 hbit
            go_wp2_with fail
            refine HH.out.mono ?_
            rintro e w4 ⟨rfl, hb4⟩
            have r0 := (hb4.cell (p := ⟨b, off + k * 3, none⟩) hbw3).trans q0
            have r1 := (hb4.cell (p := ⟨b, off + k * 3 + 1, none⟩) hbw3).trans q1
            have r2 := (hb4.cell (p := ⟨b, off + k * 3 + 2, none⟩) hbw3).trans q2
            have ho4 : OwnG w4 w2.heap.size _ cnt xs := Hown.out.next hb4
            have hb24 := hbr.trans (hb4.mono hszr)
            have hs24 := hb24.size
            clear HH q0 q1 q2
            go_wp2_with fail
            refine (HB.out _).mono ?_
            rintro e w5 ⟨rfl, rfl⟩
            go_wp2_with (at_builtin; refine wpList_push_g rfl _ _ rfl rfl (ho4.next ((Below.refl _ _).alloc (Nat.le_refl _) _)) (w4.heap.size) f x1 x2 rfl (BoxN.new' _ _ _ _ rfl) ?hc1 ?hc2 ?_)
            case hc1 => omega
            case hc2 => simp; omega
            intro v' w6 hown6 _ _ hbl
            have hb26 := hbl w2 (hb24.alloc hs24 _)
            clear hbl ho4
            go_wp2_with fail
            refine ⟨⟨k + 1, ?xa, ?xb, ?xc, hb26⟩, ?xd⟩
            case xa => omega
            case xb => go_num
            case xc => rw [H1.out.1, H1.out.2]; exact hown6
            case xd => simp [intOf]; omega
      · obtain rfl : k = n := by omega
        obtain ⟨A', d', hv, hd', hi'⟩ := hown.form
        have HE := Lib.hid (Givens_any (gFilt G K k) (gFilt G K k) (gCount K k) (gCount K k) (HL.out k) (HL.out k) B A' d d' wr (hB.below hbr) hi' (by have := HCL.out k; omega) (by have := HCL.out k; omega) (r := true) (by simp))
        have hbf := hb02.trans (hbr.mono hs02)
        clear hown
        subst hv
        go_wp2_with fail
        refine HE.out.mono ?_
        rintro e w4 ⟨rfl, hb4⟩
        go_wp2_with fail
        go_ret
        exact ⟨rfl, hbf.trans (hb4.mono hbf.size)⟩
  · obtain ⟨kk, hk⟩ : ∃ kk, rCode users G n fr to = kk := ⟨_, rfl⟩
    have hne : kk ≠ 0 := by rw [← hk]; exact hz
    have HR := Lib.hid (fun V (hV : IntsAt V A G) => GRevoke_bad users n G fr to A c V hV (by omega) (by omega) hcap hk hne)
    clear hz hk hne
    go_enter Try.func3, Try.ntmps3
    go_wp2_with fail
    refine H0.out.mono ?_
    rintro e w1 ⟨rfl, hb1⟩
    go_wp2_with fail
    refine (HR.out _ (h.below hb1)).mono ?_
    rintro e w2 ⟨rfl, hb2⟩
    go_wp2_with fail
    go_ret
    exact ⟨rfl, hb1.trans (hb2.mono hb1.size)⟩
end Go.Proofs.Ytdnkknggnhihgaa
