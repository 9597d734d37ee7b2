/-
  The walk of TrailTorn.
-/
import Derived.Test.YtncokblinocgaaaGreatDoorTrV
import Derived.Test.YtncokblinocgaaaGreatDoorDoorA
namespace Go.Proofs.YtncokblinocgaaaGreatDoor
open Go.RowKit
set_option maxRecDepth 100000
set_option linter.unusedVariables false

set_option maxHeartbeats 16000000 in
theorem TrailTorn_walk (m : Nat) (U : List Int) (Ua : Option Addr) (Uc : Nat) {W : World} (hU : U.length = m * 2) (iU : IntsAt W Ua U) (sU : m * 2 < 2 ^ 47) (bU : ∀ x ∈ U, I64 x) (n : Nat) (F : List Int) (Fa : Option Addr) (Fc : Nat) (hF : F.length = n * 2) (iF : IntsAt W Fa F) (sF : n * 2 < 2 ^ 47) (bF : ∀ x ∈ F, I64 x)
    (q : Nat) (K : List Int) (Ka : Option Addr) (Kc : Nat) (hn : K.length = q * 4) (hK : IntsAt W Ka K) (sK : q * 4 < 2 ^ 47) (bK : ∀ x ∈ K, I64 x)
    (k : Int) (bk : I64 k) (w : World) (hw : w = W) (hG : Glob W) :
    Calls Tryz.prog 8 #[.slice Ua m Uc, .slice Fa n Fc, .slice Ka q Kc, .int .i64 k] w fun e w' => e = .returned (.bool true) ∧ Below W.heap.size W w' := by
  subst hw
  have H0 := Lib.hid (trailFact_true w hG)
  by_cases h12 : labsCode U m 8 = 0 ∧ labsCode F n 8 = 0
  · have hL : LabsOk m n U F := ⟨h12.1, h12.2, hU, hF⟩
    have HT := Lib.hid (fun V (hV : Below w.heap.size w V) => Told_ok U F m n hL Ua Fa Uc Fc V (iU.below hV) (iF.below hV) q K Ka Kc hn (hK.below hV) (hG.next hV))
    have HT0 := Lib.hid (fun V (hV : Below w.heap.size w V) => Told_ok U F m n hL Ua Fa Uc Fc V (iU.below hV) (iF.below hV) 0 [] none 0 rfl (fun h => absurd rfl h) (hG.next hV))
    have HO := Lib.hid (fun V (s : ByteArray) (hs : s.size < 4294967281) (hV : Below w.heap.size w V) => TOpen_ok U F m n hU hF Ua Fa Uc Fc s hs V (hG.next hV) (iU.below hV) (iF.below hV) h12.1 h12.2)
    have hlen : TLen m n U F (tRun U F K (tStart m n) (min q 60)) := (TLen.start hL.m8 hL.n8).run _
    have Hrun := Lib.hid (fun j => (TLen.start (U := U) (F := F) hL.m8 hL.n8).run (K := K) j)
    have Hmany := Lib.hid (fun j => tRun_many_le (K := K) (TInv.start (U := U) (F := F) hL.m8 hL.n8) rfl j)
    have Htorn := Lib.hid (fun (j : Nat) => torn_some (K := K) (TInv.start (U := U) (F := F) hL.m8 hL.n8) rfl rfl (min q 60) j (by omega))
    have HTn := Lib.hid (show tRun U F K (tStart m n) (min q 60) = tRun U F K (tStart m n) (min q 60) from rfl)
    have Hst := Lib.hid (show tRun U F [] (tStart m n) (min 0 60) = tRun U F K (tStart m n) 0 from rfl)
    rw [Hst.out] at HT0
    obtain ⟨N, hN⟩ : ∃ N, min q 60 = N := ⟨_, rfl⟩
    rw [hN] at HT hlen Htorn
    obtain ⟨R, hR⟩ : ∃ R : Nat → TS, (fun j => tRun U F K (tStart m n) j) = R := ⟨_, rfl⟩
    have hRj : ∀ j, tRun U F K (tStart m n) j = R j := fun j => by rw [← hR]
    have hRs : ∀ j, R (j + 1) = (askAt U F K (R j) j).1 := fun j => by rw [← hRj, ← hRj]; rfl
    simp only [hRj] at HT HT0 Htorn hlen Hrun Hmany
    clear hR hRj HTn Hst
    have hRs := Lib.hid hRs
    clear h12
    go_enter Tryz.func8, Tryz.ntmps8
    go_wp2_with fail
    with_reducible refine H0.out.mono ?_
    rintro e w1 ⟨rfl, hb1⟩
    go_wp2_with fail
    with_reducible refine (HT.out _ hb1).mono ?_
    rintro e w2 ⟨⟨b, p, v, A, own, rfl, hT⟩, hb2⟩
    have hb02 := hb1.trans (hb2.mono hb1.size)
    have CT := Lib.hid (TText_any hT)
    have hlowT := hT.low
    clear hT H0 HT
    go_wp2_with fail
    with_reducible refine CT.out.mono ?_
    rintro e w3 ⟨rfl, hT3, hq3⟩
    have hb03 := hq3.to_below (B := w.heap.size) (w0 := w) (fun k hk => Nat.le_trans hb1.size (hlowT k hk)) hb02 hb02.size
    have hloglen := hlen.inv.log
    have hmanyT := hlen.inv.many
    have Hs := Lib.hid (show (⟨(R N).log.toArray⟩ : ByteArray).data.toList = (R N).log from ba_of _)
    have hsz : (⟨(R N).log.toArray⟩ : ByteArray).size = (R N).log.length := by rw [ba_size, ba_of]
    generalize (⟨(R N).log.toArray⟩ : ByteArray) = str at *
    clear CT hT3 hq3
    have hss : str.size ≤ 100 * 20 := by rw [hsz]; omega
    replace hsz := Lib.hid hsz
    by_cases hi0 : k < 0
    · have d0 : decide (k < 0) = true := by simp; omega
      go_wp2_with fail
      go_ret
      exact ⟨rfl, hb03⟩
    have d0 : decide (k < 0) = false := by simp; omega
    by_cases hi1 : (str.size : Int) < k
    · have d1 : decide (k > (str.size : Int)) = true := by simp; omega
      go_wp2_with fail
      go_ret
      exact ⟨rfl, hb03⟩
    obtain ⟨j, rfl⟩ := Int.eq_ofNat_of_zero_le (show 0 ≤ k by omega)
    have hj : j ≤ str.size := by omega
    have d1 : decide ((j : Int) > (str.size : Int)) = false := by simp; omega
    obtain ⟨T', ht1, ht2, ⟨j0, hj0, ht3⟩, ht4⟩ := Htorn.out j
    have hcl : ((R N).log.take j).count 10 ≤ N := by have := Hmany.out N; omega
    have hN60 : N ≤ 60 := by omega
    have hqj : (⟨((R N).log.take j).toArray⟩ : ByteArray) = str.extract 0 j := by
      apply ba_ext
      rw [ba_of, ← Hs.out]
      simp
    have CO := HO.out w3 (str.extract 0 j) (by rw [ByteArray.size_extract]; omega) hb03
    rw [← hqj, ba_of, ht1] at CO
    rw [hqj] at CO
    have CO := Lib.hid CO
    have Ht1 := Lib.hid ht1
    have Ht4 := Lib.hid ht4
    clear ht1 ht4 HO Htorn hqj
    go_wp2_with fail
    go_loopw [13, 14] (fun ln i wr => ∃ (k : Nat), k ≤ j ∧ i = .int .i64 k ∧ ln = .int .i64 (((R N).log.take k).count 10 : Nat) ∧ wr = w3) (fun _ i _ => j - (intOf i).toNat)
    case atStart => exact ⟨0, Nat.zero_le _, rfl, by simp, rfl⟩
    case round =>
      obtain ⟨k, hk, rfl, rfl, hwr⟩ := hrel
      have hwr2 : w3 = wr := hwr.symm
      clear hwr
      subst hwr2
      by_cases hlt : k < j
      · have hks : k < str.size := by omega
        have Hc := Lib.hid (count_next (l := (R N).log) (k := k) (by have := hsz.out; omega))
        obtain ⟨x, hx⟩ : ∃ x : Nat, (str[k]'hks).toNat = x := ⟨_, rfl⟩
        have hgx : ((R N).log.getD k 0).toNat = x := by rw [← hx, ← Hs.out, List.getD_eq_getElem?_getD, Array.getElem?_toList, Array.getElem?_eq_getElem hks]; rfl
        have hcl : ((R N).log.take k).count 10 ≤ (R N).log.length := Nat.le_trans List.count_le_length (by rw [List.length_take]; omega)
        rw [hgx] at Hc
        clear hgx CO Ht1 Ht4
        by_cases h10 : x = 10
        · rw [if_pos h10] at Hc
          have d10 : ((x : Int) == 10) = true := by simp; omega
          generalize ((R N).log.take k).count 10 = S at *
          go_wp2_with fail
          refine ⟨⟨k + 1, ?ya, ?yb, ?yc, trivial⟩, ?yd⟩
          case ya => omega
          case yb => go_num
          case yc => rw [Hc.out]; go_num
          case yd => simp [intOf]; omega
        · rw [if_neg h10] at Hc
          have d10 : ((x : Int) == 10) = false := by simp; omega
          generalize ((R N).log.take k).count 10 = S at *
          go_wp2_with fail
          refine ⟨⟨k + 1, ?ya, ?yb, ?yc, trivial⟩, ?yd⟩
          case ya => omega
          case yb => go_num
          case yc => rw [Hc.out]; rfl
          case yd => simp [intOf]; omega
      · obtain rfl : k = j := by omega
        obtain ⟨c0, hc0⟩ : ∃ c, ((R N).log.take k).count 10 = c := ⟨_, rfl⟩
        rw [hc0] at CO Ht1 Ht4 ht2 hcl
        rw [hc0]
        clear hlt hc0 Ht1
        have n0 : (0 : Int) ≤ (k : Int) := by omega
        have n1 : (k : Int) ≤ (str.size : Int) := by omega
        go_wp2_with fail
        with_reducible refine CO.out.mono ?_
        rintro e w4 ⟨hpost, hb4⟩
        rcases hpost with ⟨_, b2, p2, v2, A2, own2, rfl, hO⟩ | ⟨hne, _⟩
        · have hb04 := hb03.trans (hb4.mono hb03.size)
          have CT0 := Lib.hid (HT0.out w4 hb04)
          have HO4 := Lib.hid (hO.lower hb03.size)
          have HOlow := Lib.hid hO.low
          have HOlt := Lib.hid hO.lt
          clear CO hO HT0
          dsimp only
          go_wp2_with fail
          with_reducible refine CT0.out.mono ?_
          rintro e w5 ⟨⟨b3, p3, v3, A3, own3, rfl, hC⟩, hb5⟩
          have hb05 := hb04.trans (hb5.mono hb04.size)
          have HTwo0 := Lib.hid (show Two w.heap.size w5 b2 p2 v2 A2 own2 b3 p3 v3 A3 own3 U F T' (R 0) from
            ⟨HO4.out.below hb5, hC.lower hb04.size, fun g h2 h3 => by have h4 := HOlt.out g h2; have h5 := hC.low g h3; omega⟩)
          have Hb05 := Lib.hid hb05
          have hm0 : (R 0).many = 0 := by have := Hmany.out 0; omega
          clear CT0 hC HO4 HOlow HOlt hb5 hb05
          go_wp2_with fail
          go_loopw [20, 21] (fun had i wr => ∃ (k : Nat) (v3 : Value) (own3 : Nat → Prop), k ≤ N ∧ i = .int .i64 k ∧ had = .int .i64 ((R k).many : Nat) ∧ (R k).many ≤ c0 ∧ Hid (Two w.heap.size wr b2 p2 v2 A2 own2 b3 p3 v3 A3 own3 U F T' (R k)) ∧ Hid (Below w.heap.size w wr)) (fun _ i _ => q - (intOf i).toNat)
          case atStart => exact ⟨0, v3, own3, Nat.zero_le _, rfl, by rw [hm0]; rfl, by rw [hm0]; exact Nat.zero_le _, HTwo0, Hb05⟩
          case round =>
            clear HTwo0 Hb05 hm0
            obtain ⟨i, v3, own3, hiN, rfl, rfl, hmc, HTwo, Hbr⟩ := hrel
            by_cases hlt : i < N ∧ (R i).many < c0
            · obtain ⟨hin, hmlt⟩ := hlt
              have hiq : i < q := by omega
              have hi60 : i < 60 := by omega
              obtain ⟨bk, off, rfl, hc⟩ := hK (by intro e; simp [e] at hn; omega)
              have p0 := hc (i * 4) _ (get_gI (by omega))
              have hbw : bk < w.heap.size := block_lt p0
              have q0 := (Hbr.out.cell (p := ⟨bk, _, none⟩) hbw).trans p0
              have q1 : wr.cell? ⟨bk, off + i * 4 + 1, none⟩ = some (.int .i64 (gI K (i * 4 + 1))) := (Hbr.out.cell (p := ⟨bk, _, none⟩) hbw).trans (hc (i * 4 + 1) _ (get_gI (by omega)))
              have q2 : wr.cell? ⟨bk, off + i * 4 + 2, none⟩ = some (.int .i64 (gI K (i * 4 + 2))) := (Hbr.out.cell (p := ⟨bk, _, none⟩) hbw).trans (hc (i * 4 + 2) _ (get_gI (by omega)))
              have q3 : wr.cell? ⟨bk, off + i * 4 + 3, none⟩ = some (.int .i64 (gI K (i * 4 + 3))) := (Hbr.out.cell (p := ⟨bk, _, none⟩) hbw).trans (hc (i * 4 + 3) _ (get_gI (by omega)))
              have d60 : decide ((i : Int) < 60) = true := by simp; omega
              have dc0 : decide (((R i).many : Int) < (c0 : Int)) = true := by simp; omega
              have HA := TAsk_len hL hG Hbr.out HTwo.out.b (Hrun.out i) (gI K (i * 4)) (gI K (i * 4 + 1)) (gI K (i * 4 + 2)) (gI K (i * 4 + 3))
              have hcase := askAt_many (K := K) (Hrun.out i).inv i (by have := Hmany.out i; omega)
              have hsucc := hRs.out i
              rw [show tAsk U F (R i) (gI K (i * 4)) (gI K (i * 4 + 1)) (gI K (i * 4 + 2)) (gI K (i * 4 + 3)) = askAt U F K (R i) i from rfl] at HA
              generalize askAt U F K (R i) i = r at *
              obtain ⟨T1, code⟩ := r
              obtain rfl : R (i + 1) = T1 := hsucc
              have HA := Lib.hid HA
              clear p0
              generalize gI K (i * 4) = ak at *
              generalize gI K (i * 4 + 1) = au at *
              generalize gI K (i * 4 + 2) = af at *
              generalize gI K (i * 4 + 3) = at_ at *
              rcases hcase with ⟨hc1, hm1⟩ | ⟨hc1, hm1⟩
              · obtain rfl : code = 1 := hc1
                have hm1 : (R (i + 1)).many = (R i).many := hm1
                have CE := Lib.hid (fun V (hV : Below w.heap.size w V) => Error_is 1 1 true V (hG.err.next hV) rfl)
                go_wp2_with fail
                with_reducible refine HA.out.mono ?_
                rintro e w6 hq
                obtain ⟨rfl, ⟨v', own', hTwo6⟩, hq6⟩ := HTwo.out.askB hq
                have hb6 := hq6.to_below (B := w.heap.size) (w0 := w) (fun g hg => HTwo.out.b.low g hg) Hbr.out Hbr.out.size
                have HTwo6 := Lib.hid hTwo6
                clear HA hq hq6 hTwo6 q0 q1 q2 q3
                go_wp2_with fail
                with_reducible refine (CE.out _ hb6).mono ?_
                rintro e w7 ⟨rfl, hb7⟩
                go_wp2_with fail
                refine ⟨⟨i + 1, v', own', ?ya, ?yb, ?yc, ?yd, Lib.hid (HTwo6.out.below hb7), Lib.hid (hb6.trans (hb7.mono hb6.size))⟩, ?ye⟩
                case ya => omega
                case yb => go_num
                case yc => rw [hm1]
                case yd => omega
                case ye => simp [intOf]; omega
              · have hc1 : code ≠ 1 := hc1
                have hm1 : (R (i + 1)).many = (R i).many + 1 := hm1
                have CE := Lib.hid (fun V (hV : Below w.heap.size w V) => Error_is code 1 false V (hG.err.next hV) (by simp; omega))
                clear hc1
                go_wp2_with fail
                with_reducible refine HA.out.mono ?_
                rintro e w6 hq
                obtain ⟨rfl, ⟨v', own', hTwo6⟩, hq6⟩ := HTwo.out.askB hq
                have hb6 := hq6.to_below (B := w.heap.size) (w0 := w) (fun g hg => HTwo.out.b.low g hg) Hbr.out Hbr.out.size
                have HTwo6 := Lib.hid hTwo6
                clear HA hq hq6 hTwo6 q0 q1 q2 q3
                go_wp2_with fail
                with_reducible refine (CE.out _ hb6).mono ?_
                rintro e w7 ⟨rfl, hb7⟩
                go_wp2_with fail
                refine ⟨⟨i + 1, v', own', ?ya, ?yb, ?yc, ?yd, Lib.hid (HTwo6.out.below hb7), Lib.hid (hb6.trans (hb7.mono hb6.size))⟩, ?ye⟩
                case ya => omega
                case yb => go_num
                case yc => rw [hm1]; go_num
                case yd => omega
                case ye => simp [intOf]; omega
            · have hmi : (R i).many = c0 := by
                by_cases hin : i < N
                · have := fun h => hlt ⟨hin, h⟩
                  omega
                · obtain rfl : i = N := by omega
                  omega
              have hRi := Ht4.out i hiN hmi
              have hTwo := HTwo.out
              rw [hRi] at hTwo
              have hlen' := Hrun.out i
              rw [hRi] at hlen'
              have CAl := Lib.hid (Alike_any hTwo hlen' hL.m8 hL.n8)
              have hlow2 : ∀ k, own2 k ∨ own3 k → w.heap.size ≤ k := fun k hk => hk.elim (fun h => hTwo.a.low k h) (fun h => hTwo.b.low k h)
              have hbr := Hbr.out
              rw [hmi]
              have dcc : ((c0 : Int) == (c0 : Int)) = true := by simp
              clear hTwo hlen' hlt
              by_cases hiq : i < q
              · by_cases hi60 : i < 60
                · have d60 : decide ((i : Int) < 60) = true := by simp; omega
                  have dc0 : decide ((c0 : Int) < (c0 : Int)) = false := by simp
                  go_wp2_with fail
                  with_reducible refine CAl.out.mono ?_
                  rintro e w6 ⟨rfl, _, hq6⟩
                  have hb6 := hq6.to_below (B := w.heap.size) (w0 := w) hlow2 hbr hbr.size
                  clear hq6
                  go_wp2_with fail
                  go_ret
                  exact ⟨rfl, hb6⟩
                · have d60 : decide ((i : Int) < 60) = false := by simp; omega
                  go_wp2_with fail
                  with_reducible refine CAl.out.mono ?_
                  rintro e w6 ⟨rfl, _, hq6⟩
                  have hb6 := hq6.to_below (B := w.heap.size) (w0 := w) hlow2 hbr hbr.size
                  clear hq6
                  go_wp2_with fail
                  go_ret
                  exact ⟨rfl, hb6⟩
              · have dq : decide ((i : Int) < (q : Int)) = false := by simp; omega
                go_wp2_with fail
                with_reducible refine CAl.out.mono ?_
                rintro e w6 ⟨rfl, _, hq6⟩
                have hb6 := hq6.to_below (B := w.heap.size) (w0 := w) hlow2 hbr hbr.size
                clear hq6
                go_wp2_with fail
                go_ret
                exact ⟨rfl, hb6⟩
        · exact absurd rfl hne
  · have HT := Lib.hid (fun V (hV : Below w.heap.size w V) => Told_bad U F m n hU hF Ua Fa Uc Fc (.slice Ka q Kc) V (iU.below hV) (iF.below hV) (by omega) (by omega) h12)
    clear h12
    go_enter Tryz.func8, Tryz.ntmps8
    go_wp2_with fail
    with_reducible refine H0.out.mono ?_
    rintro e w1 ⟨rfl, hb1⟩
    go_wp2_with fail
    with_reducible refine (HT.out _ hb1).mono ?_
    rintro e w2 ⟨rfl, hb2⟩
    go_wp2_with fail
    go_ret
    exact ⟨rfl, hb1.trans (hb2.mono hb1.size)⟩
end Go.Proofs.YtncokblinocgaaaGreatDoor
