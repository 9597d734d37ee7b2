/-
  The walk of GrantOrder.
-/
import Derived.Test.YtdnkknggnhihgaaDoorGrantL
import Derived.Test.YtdnkknggnhihgaaDoorAs
import Derived.Test.YtdnkknggnhihgaaDoorStructs
namespace Go.Proofs.YtdnkknggnhihgaaDoor
open Go.RowKit
set_option maxRecDepth 100000
set_option linter.unusedVariables false

theorem two_codes {users fr to : Int} {X : List Int} {m : Nat} (h : gCode users X m = 0) (h2 : (0 ≤ fr ∧ fr < users) ∧ (0 ≤ to ∧ to < users)) : rCode users X m fr to = 0 ∨ rCode users X m fr to = 5 ∧ (List.range m).any (gP X fr to) = false := by
  rw [rCode_of h h2]
  cases hh : (List.range m).any (gP X fr to) with
  | true => left; rfl
  | false => right; exact ⟨rfl, rfl⟩

set_option maxHeartbeats 8000000 in
theorem GrantOrder_walk (users : Int) {W : World} (bu : I64 users) (n : Nat) (G : List Int) (A : Option Addr) (c : Nat) (hl : G.length = n * 3) (h : IntsAt W A G) (s3 : n * 3 < 2 ^ 47) (bG : ∀ x ∈ G, I64 x) (hcap : n ≤ c) (a : Int) (ba : I64 a) (b : Int) (bb : I64 b) (c1 : Int) (bc : I64 c1) (d1 : Int) (bd : I64 d1) (w : World) (hw : w = W) (hE : ErrT W) :
    Calls Tryd.prog 8 #[.int .i64 users, .slice A n c, .int .i64 a, .int .i64 b, .int .i64 c1, .int .i64 d1] w fun e w' => e = .returned (.bool true) ∧ Below W.heap.size W w' := by
  subst hw
  have H0 := Lib.hid (grantFact_true w)
  by_cases hz : rCode users G n a b = 0
  · by_cases hy : rCode users G n c1 d1 = 0
    · have HR1 := Lib.hid (fun V (hV : IntsAt V A G) => GRevoke_ok users n G a b A c V hV (by omega) (by omega) hcap hz)
      have HR2 := Lib.hid (fun V (hV : IntsAt V A G) => GRevoke_ok users n G c1 d1 A c V hV (by omega) (by omega) hcap hy)
      obtain ⟨hz1, hrg1, -⟩ := rCode_in hz
      obtain ⟨-, hrg2, -⟩ := rCode_in hy
      have h40 := (gCode_ok hz1).2.1
      have hX : gCode users (gFilt G (gK G a b) n) (gCount (gK G a b) n) = 0 := gCode_filt hz1 (Nat.le_refl _)
      have hY : gCode users (gFilt G (gK G c1 d1) n) (gCount (gK G c1 d1) n) = 0 := gCode_filt hz1 (Nat.le_refl _)
      have hlX : (gFilt G (gK G a b) n).length = gCount (gK G a b) n * 3 := length_gFilt n
      have hlY : (gFilt G (gK G c1 d1) n).length = gCount (gK G c1 d1) n * 3 := length_gFilt n
      have hcX := gCount_le (k := gK G a b) n
      have hcY := gCount_le (k := gK G c1 d1) n
      have hsame : gFilt (gFilt G (gK G a b) n) (gK (gFilt G (gK G a b) n) c1 d1) (gCount (gK G a b) n) = gFilt (gFilt G (gK G c1 d1) n) (gK (gFilt G (gK G c1 d1) n) a b) (gCount (gK G c1 d1) n) := by
        rw [two_same (fr := a) (to := b) _ rfl, two_same (fr := c1) (to := d1) _ rfl, two_swap]
      have cX := two_codes hX hrg2
      have cY := two_codes hY hrg1
      generalize gFilt G (gK G a b) n = X at *
      generalize gFilt G (gK G c1 d1) n = Y at *
      generalize gCount (gK G a b) n = mx at *
      generalize gCount (gK G c1 d1) n = my at *
      have hlp : (gFilt X (gK X c1 d1) mx).length = gCount (gK X c1 d1) mx * 3 := length_gFilt mx
      have hlq : (gFilt Y (gK Y a b) my).length = gCount (gK Y a b) my * 3 := length_gFilt my
      have hcp := gCount_le (k := gK X c1 d1) mx
      have hcq := gCount_le (k := gK Y a b) my
      have NX := fun ha => none_all (fr := c1) (to := d1) hX hlX ha
      have NY := fun ha => none_all (fr := a) (to := b) hY hlY ha
      have HE := Lib.hid (fun (k : Nat) (r : Bool) V (hr : decide ((k : Int) = 5) = r) (hV : Below w.heap.size w V) => Error_is k 5 r V (hE.next hV) hr)
      clear hz hy hz1 hrg1 hrg2 hE hX hY
      rcases cX with cX | cX
      · rcases cY with cY | cY
        · skip
          have HR3 := Lib.hid (fun V B d (hd : mx ≤ d) (hV : IntsAt V B X) => GRevoke_ok users mx X c1 d1 B d V hV (by omega) (by omega) hd cX)
          have HR4 := Lib.hid (fun V B d (hd : my ≤ d) (hV : IntsAt V B Y) => GRevoke_ok users my Y a b B d V hV (by omega) (by omega) hd cY)
          have HG := Lib.hid (fun V A' B' c' d' (h1 : IntsAt V A' (gFilt X (gK X c1 d1) mx)) (h2 : IntsAt V B' (gFilt Y (gK Y a b) my)) => Givens_any (gFilt X (gK X c1 d1) mx) (gFilt Y (gK Y a b) my) (gCount (gK X c1 d1) mx) (gCount (gK Y a b) my) hlp hlq A' B' c' d' V h1 h2 (by omega) (by omega) (r := true) (by rw [hsame]; simp))
          clear cX cY NX NY hsame
          go_enter Tryd.func8, Tryd.ntmps8
          go_wp2_with fail
          refine H0.out.mono ?_
          rintro e w1 ⟨rfl, hb01⟩
          go_wp2_with fail
          refine (HR1.out _ (h.below hb01)).mono ?_
          rintro e w2 ⟨⟨B1, e1, rfl, hd1, i1⟩, hb2⟩
          have hb02 := hb01.trans (hb2.mono hb01.size)
          go_wp2_with fail
          refine (HR2.out _ (h.below hb02)).mono ?_
          rintro e w3 ⟨⟨B2, e2, rfl, hd2, i2⟩, hb3⟩
          have hb03 := hb02.trans (hb3.mono hb02.size)
          have i1 := i1.below hb3
          go_wp2_with fail
          refine (HR3.out _ B1 e1 hd1 i1).mono ?_
          rintro e w4 ⟨⟨B3, e3, rfl, hd3, i3⟩, hb4⟩
          have hb04 := hb03.trans (hb4.mono hb03.size)
          have i1 := i1.below hb4
          have i2 := i2.below hb4
          go_wp2_with fail
          refine (HR4.out _ B2 e2 hd2 i2).mono ?_
          rintro e w5 ⟨⟨B4, e4, rfl, hd4, i4⟩, hb5⟩
          have hb05 := hb04.trans (hb5.mono hb04.size)
          have i1 := i1.below hb5
          have i2 := i2.below hb5
          have i3 := i3.below hb5
          have E3 := HE.out 0 false _ (by decide) hb05
          rw [errVal_zero] at E3
          have E3 := Lib.hid E3
          go_wp2_with fail
          refine (E3.out).mono ?_
          rintro e w6 ⟨rfl, hb6⟩
          have hb06 := hb05.trans (hb6.mono hb05.size)
          have i1 := i1.below hb6
          have i2 := i2.below hb6
          have i3 := i3.below hb6
          have i4 := i4.below hb6
          have E4 := HE.out 0 false _ (by decide) hb06
          rw [errVal_zero] at E4
          have E4 := Lib.hid E4
          go_wp2_with fail
          refine (E4.out).mono ?_
          rintro e w7 ⟨rfl, hb7⟩
          have hb07 := hb06.trans (hb7.mono hb06.size)
          have i1 := i1.below hb7
          have i2 := i2.below hb7
          have i3 := i3.below hb7
          have i4 := i4.below hb7
          go_wp2_with fail
          refine (HG.out _ _ _ _ _ i3 i4).mono ?_
          rintro e w8 ⟨rfl, hb8⟩
          have hb08 := hb07.trans (hb8.mono hb07.size)
          go_wp2_with fail
          go_ret
          exact ⟨rfl, hb08⟩
        · skip
          have HR3 := Lib.hid (fun V B d (hd : mx ≤ d) (hV : IntsAt V B X) => GRevoke_ok users mx X c1 d1 B d V hV (by omega) (by omega) hd cX)
          have HR4 := Lib.hid (fun V B d (hd : my ≤ d) (hV : IntsAt V B Y) => GRevoke_bad users my Y a b B d V hV (by omega) (by omega) hd cY.1 (by decide))
          obtain ⟨ny1, ny2⟩ := NY cY.2
          rw [ny1] at hsame
          have HG := Lib.hid (fun V A' B' c' d' (h1 : IntsAt V A' (gFilt X (gK X c1 d1) mx)) (h2 : IntsAt V B' Y) => Givens_any (gFilt X (gK X c1 d1) mx) Y (gCount (gK X c1 d1) mx) my hlp hlY A' B' c' d' V h1 h2 (by omega) (by omega) (r := true) (by rw [hsame]; simp))
          clear cX cY NX NY hsame
          go_enter Tryd.func8, Tryd.ntmps8
          go_wp2_with fail
          refine H0.out.mono ?_
          rintro e w1 ⟨rfl, hb01⟩
          go_wp2_with fail
          refine (HR1.out _ (h.below hb01)).mono ?_
          rintro e w2 ⟨⟨B1, e1, rfl, hd1, i1⟩, hb2⟩
          have hb02 := hb01.trans (hb2.mono hb01.size)
          go_wp2_with fail
          refine (HR2.out _ (h.below hb02)).mono ?_
          rintro e w3 ⟨⟨B2, e2, rfl, hd2, i2⟩, hb3⟩
          have hb03 := hb02.trans (hb3.mono hb02.size)
          have i1 := i1.below hb3
          go_wp2_with fail
          refine (HR3.out _ B1 e1 hd1 i1).mono ?_
          rintro e w4 ⟨⟨B3, e3, rfl, hd3, i3⟩, hb4⟩
          have hb04 := hb03.trans (hb4.mono hb03.size)
          have i1 := i1.below hb4
          have i2 := i2.below hb4
          go_wp2_with fail
          refine (HR4.out _ B2 e2 hd2 i2).mono ?_
          rintro e w5 ⟨rfl, hb5⟩
          have hb05 := hb04.trans (hb5.mono hb04.size)
          have i1 := i1.below hb5
          have i2 := i2.below hb5
          have i3 := i3.below hb5
          have E3 := HE.out 0 false _ (by decide) hb05
          rw [errVal_zero] at E3
          have E3 := Lib.hid E3
          go_wp2_with fail
          refine (E3.out).mono ?_
          rintro e w6 ⟨rfl, hb6⟩
          have hb06 := hb05.trans (hb6.mono hb05.size)
          have i1 := i1.below hb6
          have i2 := i2.below hb6
          have i3 := i3.below hb6
          have E4 := HE.out 5 true _ (by decide) hb06
          rw [errVal_pos (by decide)] at E4
          have E4 := Lib.hid E4
          go_wp2_with fail
          refine (E4.out).mono ?_
          rintro e w7 ⟨rfl, hb7⟩
          have hb07 := hb06.trans (hb7.mono hb06.size)
          have i1 := i1.below hb7
          have i2 := i2.below hb7
          have i3 := i3.below hb7
          go_wp2_with fail
          refine (HG.out _ _ _ _ _ i3 i2).mono ?_
          rintro e w8 ⟨rfl, hb8⟩
          have hb08 := hb07.trans (hb8.mono hb07.size)
          go_wp2_with fail
          go_ret
          exact ⟨rfl, hb08⟩
      · rcases cY with cY | cY
        · skip
          have HR3 := Lib.hid (fun V B d (hd : mx ≤ d) (hV : IntsAt V B X) => GRevoke_bad users mx X c1 d1 B d V hV (by omega) (by omega) hd cX.1 (by decide))
          obtain ⟨nx1, nx2⟩ := NX cX.2
          have HR4 := Lib.hid (fun V B d (hd : my ≤ d) (hV : IntsAt V B Y) => GRevoke_ok users my Y a b B d V hV (by omega) (by omega) hd cY)
          rw [nx1] at hsame
          have HG := Lib.hid (fun V A' B' c' d' (h1 : IntsAt V A' X) (h2 : IntsAt V B' (gFilt Y (gK Y a b) my)) => Givens_any X (gFilt Y (gK Y a b) my) mx (gCount (gK Y a b) my) hlX hlq A' B' c' d' V h1 h2 (by omega) (by omega) (r := true) (by rw [hsame]; simp))
          clear cX cY NX NY hsame
          go_enter Tryd.func8, Tryd.ntmps8
          go_wp2_with fail
          refine H0.out.mono ?_
          rintro e w1 ⟨rfl, hb01⟩
          go_wp2_with fail
          refine (HR1.out _ (h.below hb01)).mono ?_
          rintro e w2 ⟨⟨B1, e1, rfl, hd1, i1⟩, hb2⟩
          have hb02 := hb01.trans (hb2.mono hb01.size)
          go_wp2_with fail
          refine (HR2.out _ (h.below hb02)).mono ?_
          rintro e w3 ⟨⟨B2, e2, rfl, hd2, i2⟩, hb3⟩
          have hb03 := hb02.trans (hb3.mono hb02.size)
          have i1 := i1.below hb3
          go_wp2_with fail
          refine (HR3.out _ B1 e1 hd1 i1).mono ?_
          rintro e w4 ⟨rfl, hb4⟩
          have hb04 := hb03.trans (hb4.mono hb03.size)
          have i1 := i1.below hb4
          have i2 := i2.below hb4
          go_wp2_with fail
          refine (HR4.out _ B2 e2 hd2 i2).mono ?_
          rintro e w5 ⟨⟨B4, e4, rfl, hd4, i4⟩, hb5⟩
          have hb05 := hb04.trans (hb5.mono hb04.size)
          have i1 := i1.below hb5
          have i2 := i2.below hb5
          have E3 := HE.out 5 true _ (by decide) hb05
          rw [errVal_pos (by decide)] at E3
          have E3 := Lib.hid E3
          go_wp2_with fail
          refine (E3.out).mono ?_
          rintro e w6 ⟨rfl, hb6⟩
          have hb06 := hb05.trans (hb6.mono hb05.size)
          have i1 := i1.below hb6
          have i2 := i2.below hb6
          have i4 := i4.below hb6
          have E4 := HE.out 0 false _ (by decide) hb06
          rw [errVal_zero] at E4
          have E4 := Lib.hid E4
          go_wp2_with fail
          refine (E4.out).mono ?_
          rintro e w7 ⟨rfl, hb7⟩
          have hb07 := hb06.trans (hb7.mono hb06.size)
          have i1 := i1.below hb7
          have i2 := i2.below hb7
          have i4 := i4.below hb7
          go_wp2_with fail
          refine (HG.out _ _ _ _ _ i1 i4).mono ?_
          rintro e w8 ⟨rfl, hb8⟩
          have hb08 := hb07.trans (hb8.mono hb07.size)
          go_wp2_with fail
          go_ret
          exact ⟨rfl, hb08⟩
        · skip
          have HR3 := Lib.hid (fun V B d (hd : mx ≤ d) (hV : IntsAt V B X) => GRevoke_bad users mx X c1 d1 B d V hV (by omega) (by omega) hd cX.1 (by decide))
          obtain ⟨nx1, nx2⟩ := NX cX.2
          have HR4 := Lib.hid (fun V B d (hd : my ≤ d) (hV : IntsAt V B Y) => GRevoke_bad users my Y a b B d V hV (by omega) (by omega) hd cY.1 (by decide))
          obtain ⟨ny1, ny2⟩ := NY cY.2
          rw [nx1] at hsame
          rw [ny1] at hsame
          have HG := Lib.hid (fun V A' B' c' d' (h1 : IntsAt V A' X) (h2 : IntsAt V B' Y) => Givens_any X Y mx my hlX hlY A' B' c' d' V h1 h2 (by omega) (by omega) (r := true) (by rw [hsame]; simp))
          clear cX cY NX NY hsame
          go_enter Tryd.func8, Tryd.ntmps8
          go_wp2_with fail
          refine H0.out.mono ?_
          rintro e w1 ⟨rfl, hb01⟩
          go_wp2_with fail
          refine (HR1.out _ (h.below hb01)).mono ?_
          rintro e w2 ⟨⟨B1, e1, rfl, hd1, i1⟩, hb2⟩
          have hb02 := hb01.trans (hb2.mono hb01.size)
          go_wp2_with fail
          refine (HR2.out _ (h.below hb02)).mono ?_
          rintro e w3 ⟨⟨B2, e2, rfl, hd2, i2⟩, hb3⟩
          have hb03 := hb02.trans (hb3.mono hb02.size)
          have i1 := i1.below hb3
          go_wp2_with fail
          refine (HR3.out _ B1 e1 hd1 i1).mono ?_
          rintro e w4 ⟨rfl, hb4⟩
          have hb04 := hb03.trans (hb4.mono hb03.size)
          have i1 := i1.below hb4
          have i2 := i2.below hb4
          go_wp2_with fail
          refine (HR4.out _ B2 e2 hd2 i2).mono ?_
          rintro e w5 ⟨rfl, hb5⟩
          have hb05 := hb04.trans (hb5.mono hb04.size)
          have i1 := i1.below hb5
          have i2 := i2.below hb5
          have E3 := HE.out 5 true _ (by decide) hb05
          rw [errVal_pos (by decide)] at E3
          have E3 := Lib.hid E3
          go_wp2_with fail
          refine (E3.out).mono ?_
          rintro e w6 ⟨rfl, hb6⟩
          have hb06 := hb05.trans (hb6.mono hb05.size)
          have i1 := i1.below hb6
          have i2 := i2.below hb6
          have E4 := HE.out 5 true _ (by decide) hb06
          rw [errVal_pos (by decide)] at E4
          have E4 := Lib.hid E4
          go_wp2_with fail
          refine (E4.out).mono ?_
          rintro e w7 ⟨rfl, hb7⟩
          have hb07 := hb06.trans (hb7.mono hb06.size)
          have i1 := i1.below hb7
          have i2 := i2.below hb7
          go_wp2_with fail
          refine (HG.out _ _ _ _ _ i1 i2).mono ?_
          rintro e w8 ⟨rfl, hb8⟩
          have hb08 := hb07.trans (hb8.mono hb07.size)
          go_wp2_with fail
          go_ret
          exact ⟨rfl, hb08⟩
    · obtain ⟨k2, hk2⟩ : ∃ kk, rCode users G n c1 d1 = kk := ⟨_, rfl⟩
      have hne2 : k2 ≠ 0 := by rw [← hk2]; exact hy
      have HR := Lib.hid (fun V (hV : IntsAt V A G) => GRevoke_ok users n G a b A c V hV (by omega) (by omega) hcap hz)
      have HR2 := Lib.hid (fun V (hV : IntsAt V A G) => GRevoke_bad users n G c1 d1 A c V hV (by omega) (by omega) hcap hk2 hne2)
      clear hy hk2 hne2 hz
      go_enter Tryd.func8, Tryd.ntmps8
      go_wp2_with fail
      refine H0.out.mono ?_
      rintro e w1 ⟨rfl, hb1⟩
      go_wp2_with fail
      refine (HR.out _ (h.below hb1)).mono ?_
      rintro e w2 ⟨⟨B, d, rfl, _, _⟩, hb2⟩
      have hb02 := hb1.trans (hb2.mono hb1.size)
      go_wp2_with fail
      refine (HR2.out _ (h.below hb02)).mono ?_
      rintro e w3 ⟨rfl, hb3⟩
      go_wp2_with fail
      go_ret
      exact ⟨rfl, hb02.trans (hb3.mono hb02.size)⟩
  · obtain ⟨kk, hk⟩ : ∃ kk, rCode users G n a b = kk := ⟨_, rfl⟩
    have hne : kk ≠ 0 := by rw [← hk]; exact hz
    have HR := Lib.hid (fun V (hV : IntsAt V A G) => GRevoke_bad users n G a b A c V hV (by omega) (by omega) hcap hk hne)
    clear hz hk hne
    by_cases hy : rCode users G n c1 d1 = 0
    · have HR2 := Lib.hid (fun V (hV : IntsAt V A G) => GRevoke_ok users n G c1 d1 A c V hV (by omega) (by omega) hcap hy)
      clear hy
      go_enter Tryd.func8, Tryd.ntmps8
      go_wp2_with fail
      refine H0.out.mono ?_
      rintro e w1 ⟨rfl, hb1⟩
      go_wp2_with fail
      refine (HR.out _ (h.below hb1)).mono ?_
      rintro e w2 ⟨rfl, hb2⟩
      have hb02 := hb1.trans (hb2.mono hb1.size)
      go_wp2_with fail
      refine (HR2.out _ (h.below hb02)).mono ?_
      rintro e w3 ⟨⟨B, d, rfl, _, _⟩, hb3⟩
      go_wp2_with fail
      go_ret
      exact ⟨rfl, hb02.trans (hb3.mono hb02.size)⟩
    · obtain ⟨k2, hk2⟩ : ∃ kk, rCode users G n c1 d1 = kk := ⟨_, rfl⟩
      have hne2 : k2 ≠ 0 := by rw [← hk2]; exact hy
      have HR2 := Lib.hid (fun V (hV : IntsAt V A G) => GRevoke_bad users n G c1 d1 A c V hV (by omega) (by omega) hcap hk2 hne2)
      clear hy hk2 hne2
      go_enter Tryd.func8, Tryd.ntmps8
      go_wp2_with fail
      refine H0.out.mono ?_
      rintro e w1 ⟨rfl, hb1⟩
      go_wp2_with fail
      refine (HR.out _ (h.below hb1)).mono ?_
      rintro e w2 ⟨rfl, hb2⟩
      have hb02 := hb1.trans (hb2.mono hb1.size)
      go_wp2_with fail
      refine (HR2.out _ (h.below hb02)).mono ?_
      rintro e w3 ⟨rfl, hb3⟩
      go_wp2_with fail
      go_ret
      exact ⟨rfl, hb02.trans (hb3.mono hb02.size)⟩
end Go.Proofs.YtdnkknggnhihgaaDoor

