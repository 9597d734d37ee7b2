/-
  The walk of TopTrail: more than 45 asks.
-/
import Derived.Test.YtncokblinocgaaaGreatDoorTrV
import Derived.Test.YtncokblinocgaaaGreatDoorTopTrailA
import Derived.Test.YtncokblinocgaaaGreatDoorDoorA
import Derived.Lib.QuietBelow
namespace Go.Proofs.YtncokblinocgaaaGreatDoor
open Go.RowKit
set_option maxRecDepth 100000
set_option linter.unusedVariables false

set_option maxHeartbeats 32000000 in
theorem TopTrail_10 (m : Nat) (U : List Int) (Ua : Option Addr) (Uc : Nat) {W : World} (hU : U.length = m * 2) (iU : IntsAt W Ua U) (sU : m * 2 < 2 ^ 47) (bU : ∀ x ∈ U, I64 x) (n : Nat) (F : List Int) (Fa : Option Addr) (Fc : Nat) (hF : F.length = n * 2) (iF : IntsAt W Fa F) (sF : n * 2 < 2 ^ 47) (bF : ∀ x ∈ F, I64 x)
    (q : Nat) (K : List Int) (Ka : Option Addr) (Kc : Nat) (hn : K.length = q * 4) (hK : IntsAt W Ka K) (sK : q * 4 < 2 ^ 47) (bK : ∀ x ∈ K, I64 x)
    (k : Int) (bk : I64 k) (z : Nat) (M : List Int) (Ma : Option Addr) (Mc : Nat) (hz : M.length = z * 4) (hM : IntsAt W Ma M) (sM : z * 4 < 2 ^ 47) (bM : ∀ x ∈ M, I64 x) (w : World) (hw : w = W) (hG : Glob W) (hqq : 45 < q) (hzz : z ≤ 45) :
    Calls Tryz.prog 9 #[.slice Ua m Uc, .slice Fa n Fc, .slice Ka q Kc, .int .i64 k, .slice Ma z Mc] w fun e w' => e = .returned (.bool true) ∧ Below W.heap.size W w' := by
  subst hw
  have N := Lib.hid (fun V A B hU hF => LNew_ok [5, 0] [4, 0] 1 1 rfl rfl A B 1 1 V hU hF (by decide) (by decide))
  obtain ⟨w1, hw1⟩ : ∃ w1, (w.alloc (.cells #[.int .i64 5, .int .i64 0] 75)).alloc (.cells #[.int .i64 4, .int .i64 0] 75) = w1 := ⟨_, rfl⟩
  have hu : BoxN w1 w.heap.size 75 #[.int .i64 5, .int .i64 0] := by rw [← hw1]; exact (BoxN.new w _ _).alloc _
  have hf : BoxN w1 (w.heap.size + 1) 75 #[.int .i64 4, .int .i64 0] := by rw [← hw1]; exact BoxN.new' _ _ _ _ (by simp)
  have hb1 : Below w.heap.size w w1 := by rw [← hw1]; exact ((Below.refl _ _).alloc (Nat.le_refl _) _).alloc (by simp) _
  have jU : IntsAt w1 (some ⟨w.heap.size, 0, none⟩) [5, 0] := IntsAt.fresh fun j x hj => by
    match j, hj with
    | 0, hj => cases hj; exact hu.cell rfl
    | 1, hj => cases hj; exact hu.cell rfl
  have jF : IntsAt w1 (some ⟨w.heap.size + 1, 0, none⟩) [4, 0] := IntsAt.fresh fun j x hj => by
    match j, hj with
    | 0, hj => cases hj; exact hf.cell rfl
    | 1, hj => cases hj; exact hf.cell rfl
  have CN := Lib.hid (N.out w1 _ _ jU jF)
  have hs1 := hb1.size
  have hI2 : LInv [5, 0] [4, 0] (lStart 1 1) := LInv.start (by decide) (by decide)
  have hlu : ∀ i, i < 1 → labOk (gI [5, 0] (i * 2)) (gI [5, 0] (i * 2 + 1)) := (labsCode_ok (show labsCode [5, 0] 1 8 = 0 by decide)).2
  have hlf : ∀ i, i < 1 → labOk (gI [4, 0] (i * 2)) (gI [4, 0] (i * 2 + 1)) := (labsCode_ok (show labsCode [4, 0] 1 8 = 0 by decide)).2
  have HA := Lib.hid (fun V p A base (h2 : BellAt V base p [5, 0] [4, 0] (lStart 1 1) A) (hb : Below w.heap.size w V) (hs : base ≤ V.heap.size) => by
    have A1 := LAsk_any2 (ok := fun _ => False) h2 (hG.tab.next hb) hI2 hlu hlf hs (fun _ _ _ _ => id) 0 0 0 0
    rw [bellStart, errVal_zero] at A1
    exact A1)
  clear N jU jF hu hf hI2 hlu hlf
  have hN0 : ∃ kk, (labsCode U m 8 = 0 ∧ labsCode F n 8 = 0 → kk = 0) := ⟨0, fun _ => rfl⟩
  clear hN0
  go_enter Tryz.func9, Tryz.ntmps9
  go_wp2_with fail
  try rw [hw1]
  clear hw1
  with_reducible refine CN.out.mono ?_
  rintro e w2 ⟨⟨p0, A0, rfl, h2⟩, hb2⟩
  have hb02 := hb1.trans (hb2.mono hs1)
  have CA0 := Lib.hid (HA.out _ _ _ _ h2 hb02 hb2.size)
  clear HA h2 CN hb2
  go_wp2_with fail
  with_reducible refine CA0.out.mono ?_
  rintro e w3 ⟨rfl, h3, hb3, _⟩
  have hb03 := hb02.trans (hb3.mono hs1)
  have CR0 := Lib.hid (LReads_any h3 (by decide) 0)
  rw [show told (LS.mk [1] [0] [1]).Re 0 = 1 from by decide] at CR0
  clear CA0 h3 hb3
  go_wp2_with fail
  with_reducible refine CR0.out.mono ?_
  rintro e w3 ⟨rfl, rfl⟩
  clear CR0 hb02 hb1
  by_cases h12 : labsCode U m 8 = 0 ∧ labsCode F n 8 = 0
  · have hL : LabsOk m n U F := ⟨h12.1, h12.2, hU, hF⟩
    have CT := Lib.hid (TNew_ok U F m n hU hF Ua Fa Uc Fc w3 (iU.below hb03) (iF.below hb03) h12.1 h12.2)
    have HO := Lib.hid (fun V (s : ByteArray) (hs : s.size < 4294967281) (hV : Below w.heap.size w V) => TOpen_ok U F m n hU hF Ua Fa Uc Fc s hs V (hG.next hV) (iU.below hV) (iF.below hV) h12.1 h12.2)
    have Hrun := Lib.hid (fun j => (TLen.start (U := U) (F := F) hL.m8 hL.n8).run (K := K) j)
    have Htorn := Lib.hid (fun (N j : Nat) (hN : N ≤ 60) => torn_some (K := K) (TInv.start (U := U) (F := F) hL.m8 hL.n8) rfl rfl N j hN)
    have HlF := Lib.hid (labsCode_ok hL.cf).2
    have hn8 := hL.n8
    clear h12
    go_wp2_with fail
    with_reducible refine CT.out.mono ?_
    rintro e w4 ⟨⟨b, p, v, A, own, rfl, hT⟩, hb4⟩
    have hb04 := hb03.trans (hb4.mono hb03.size)
    have HT := Lib.hid (hT.lower (lo' := w.heap.size) hb03.size)
    have Hb04 := Lib.hid hb04
    clear CT hT hb4 hb04 hb03
    go_wp2_with fail
    go_loopw [15] (fun i wr => ∃ (k : Nat) (v : Value) (own : Nat → Prop), k ≤ q ∧ k ≤ 45 ∧ i = .int .i64 k ∧ Hid (TrailAt w.heap.size own wr b p v A U F (tRun U F K (tStart m n) k)) ∧ Hid (Below w.heap.size w wr)) (fun i _ => q - (intOf i).toNat)
    case atStart => exact ⟨0, v, own, Nat.zero_le _, Nat.zero_le _, rfl, HT, Hb04⟩
    case round =>
      clear HT Hb04
      obtain ⟨i, v, own, hi, hi4, rfl, HT, Hbr⟩ := hrel
      by_cases hlt : i < q ∧ i < 45
      · obtain ⟨hiq, hi45⟩ := hlt
        obtain ⟨kb, off, rfl, hc⟩ := hK (by intro e; simp [e] at hn; omega)
        have p0 := hc (i * 4) _ (get_gI (by omega))
        have hbw : kb < w.heap.size := block_lt p0
        have q0 := (Hbr.out.cell (p := ⟨kb, _, none⟩) hbw).trans p0
        have q1 : wr.cell? ⟨kb, off + i * 4 + 1, none⟩ = some (.int .i64 (gI K (i * 4 + 1))) := (Hbr.out.cell (p := ⟨kb, _, none⟩) hbw).trans (hc (i * 4 + 1) _ (get_gI (by omega)))
        have q2 : wr.cell? ⟨kb, off + i * 4 + 2, none⟩ = some (.int .i64 (gI K (i * 4 + 2))) := (Hbr.out.cell (p := ⟨kb, _, none⟩) hbw).trans (hc (i * 4 + 2) _ (get_gI (by omega)))
        have q3 : wr.cell? ⟨kb, off + i * 4 + 3, none⟩ = some (.int .i64 (gI K (i * 4 + 3))) := (Hbr.out.cell (p := ⟨kb, _, none⟩) hbw).trans (hc (i * 4 + 3) _ (get_gI (by omega)))
        have d45 : decide ((i : Int) < 45) = true := by simp; omega
        have HAk := TAsk_len hL hG Hbr.out HT.out (Hrun.out i) (gI K (i * 4)) (gI K (i * 4 + 1)) (gI K (i * 4 + 2)) (gI K (i * 4 + 3))
        rw [show tAsk U F (tRun U F K (tStart m n) i) (gI K (i * 4)) (gI K (i * 4 + 1)) (gI K (i * 4 + 2)) (gI K (i * 4 + 3)) = askAt U F K (tRun U F K (tStart m n) i) i from rfl] at HAk
        obtain ⟨r, hr⟩ : ∃ r, askAt U F K (tRun U F K (tStart m n) i) i = r := ⟨_, rfl⟩
        have Hr := Lib.hid (show tRun U F K (tStart m n) (i + 1) = r.1 by rw [tRun_succ, hr])
        rw [hr] at HAk
        have HAk := Lib.hid HAk
        clear p0 hr
        generalize gI K (i * 4) = ak at *
        generalize gI K (i * 4 + 1) = au at *
        generalize gI K (i * 4 + 2) = af at *
        generalize gI K (i * 4 + 3) = at_ at *
        go_wp2_with fail
        with_reducible refine HAk.out.mono ?_
        rintro e w5 ⟨rfl, own', v', hT5, ho5, hq5⟩
        have hb5 := hq5.to_below (fun g hg => HT.out.low g hg) Hbr.out Hbr.out.size
        have HT5 := Lib.hid hT5
        have Hb5 := Lib.hid hb5
        clear hT5 ho5 hq5 hb5
        go_wp2_with fail
        refine ⟨⟨i + 1, v', own', ?ya, ?yb, ?yc, ?yd, Hb5⟩, ?ye⟩
        case ya => omega
        case yb => omega
        case yc => go_num
        case yd => exact Lib.hid (by rw [Hr.out]; exact HT5.out)
        case ye => simp [intOf]; omega
      · have hlen := Hrun.out i
        have Ht := Lib.hid (fun j => Htorn.out i j (by omega))
        have HR := Lib.hid Hrun.out
        clear Hrun Htorn
        have CTx := Lib.hid (TText_any HT.out)
        have hloglen := hlen.inv.log
        have hmany := hlen.inv.many
        clear hlen
        have hiq : i < q := by omega
        have d45 : decide ((i : Int) < 45) = false := by simp; omega
        clear hlt
        go_wp2_with fail
        with_reducible refine CTx.out.mono ?_
        rintro e w5 ⟨rfl, hT5, hq5⟩
        have hb05 := hq5.to_below (B := w.heap.size) (w0 := w) (fun g hg => HT.out.low g hg) Hbr.out Hbr.out.size
        have Hs := Lib.hid (show (⟨(tRun U F K (tStart m n) i).log.toArray⟩ : ByteArray).data.toList = (tRun U F K (tStart m n) i).log from ba_of _)
        have hsz : (⟨(tRun U F K (tStart m n) i).log.toArray⟩ : ByteArray).size = (tRun U F K (tStart m n) i).log.length := by rw [ba_size, ba_of]
        have hss : (⟨(tRun U F K (tStart m n) i).log.toArray⟩ : ByteArray).size ≤ 100 * 20 := by rw [hsz]; omega
        generalize (⟨(tRun U F K (tStart m n) i).log.toArray⟩ : ByteArray) = str at *
        obtain ⟨lg, hlg⟩ : ∃ lg, (tRun U F K (tStart m n) i).log = lg := ⟨_, rfl⟩
        rw [hlg] at Ht Hs hsz hloglen
        replace hsz := Lib.hid hsz
        clear CTx hT5 hq5 HT Hbr hlg hloglen hmany
        have HC := Lib.hid (fun (j : Nat) (hj : j ≤ str.size) => by
          obtain ⟨T', ht1, _, ⟨j0, _, ht3⟩, _⟩ := Ht.out j
          have hqj : (⟨(lg.take j).toArray⟩ : ByteArray) = str.extract 0 j := by
            apply ba_ext
            rw [ba_of, ← Hs.out]
            simp
          have CO := HO.out w5 (str.extract 0 j) (by rw [ByteArray.size_extract]; omega) hb05
          rw [← hqj, ba_of, ht1] at CO
          rw [hqj] at CO
          have hl := HR.out j0
          rw [← ht3] at hl
          exact (⟨T', _, hl, CO⟩ : ∃ T' c, TLen m n U F T' ∧ Calls Tryz.prog 27 #[.slice Ua m Uc, .slice Fa n Fc, .string (str.extract 0 j)] w5 fun e w' => OpenPost w5 U F (T', c, 0) e w' ∧ Below w5.heap.size w5 w'))
        clear Ht HO HR Hs
        by_cases hin : 0 ≤ k ∧ k ≤ (str.size : Int)
        · obtain ⟨j, rfl⟩ := Int.eq_ofNat_of_zero_le hin.1
          have hj : j ≤ str.size := by omega
          have d0 : decide ((j : Int) < 0) = false := by simp
          have d1 : decide ((j : Int) > (str.size : Int)) = false := by simp; omega
          have n0 : (0 : Int) ≤ (j : Int) := by omega
          have n1 : (j : Int) ≤ (str.size : Int) := by omega
          obtain ⟨T', c', hl', CO⟩ := HC.out j hj
          have CO := Lib.hid CO
          clear HC hin
          go_wp2_with fail
          with_reducible refine CO.out.mono ?_
          rintro e w6 ⟨hpost, hb6⟩
          have Hb06 := Lib.hid (hb05.trans (hb6.mono hb05.size))
          rcases hpost with ⟨_, b2, p2, v2, A2, own2, rfl, hO⟩ | ⟨hne, _⟩
          · have HO2 := Lib.hid (hO.lower (lo' := w.heap.size) hb05.size)
            clear CO hO hb6
            dsimp only
            go_wp2_with fail
            go_loopw [20] (fun i wr => ∃ (k : Nat) (T : TS) (v2 : Value) (own2 : Nat → Prop), k ≤ z ∧ k ≤ 45 ∧ i = .int .i64 k ∧ Hid (TrailAt w.heap.size own2 wr b2 p2 v2 A2 U F T) ∧ TLen m n U F T ∧ Hid (Below w.heap.size w wr)) (fun i _ => z - (intOf i).toNat)
            case atStart => exact ⟨0, T', v2, own2, Nat.zero_le _, Nat.zero_le _, rfl, HO2, hl', Hb06⟩
            case round =>
              clear HO2 Hb06 hl'
              obtain ⟨i, T, v2, own2, hi, hi4, rfl, HT, hlen, Hbr⟩ := hrel
              by_cases hlt : i < z ∧ i < 45
              · obtain ⟨hiz, hi45⟩ := hlt
                obtain ⟨kb, off, rfl, hc⟩ := hM (by intro e; simp [e] at hz; omega)
                have p0 := hc (i * 4) _ (get_gI (by omega))
                have hbw : kb < w.heap.size := block_lt p0
                have q0 := (Hbr.out.cell (p := ⟨kb, _, none⟩) hbw).trans p0
                have q1 : wr.cell? ⟨kb, off + i * 4 + 1, none⟩ = some (.int .i64 (gI M (i * 4 + 1))) := (Hbr.out.cell (p := ⟨kb, _, none⟩) hbw).trans (hc (i * 4 + 1) _ (get_gI (by omega)))
                have q2 : wr.cell? ⟨kb, off + i * 4 + 2, none⟩ = some (.int .i64 (gI M (i * 4 + 2))) := (Hbr.out.cell (p := ⟨kb, _, none⟩) hbw).trans (hc (i * 4 + 2) _ (get_gI (by omega)))
                have q3 : wr.cell? ⟨kb, off + i * 4 + 3, none⟩ = some (.int .i64 (gI M (i * 4 + 3))) := (Hbr.out.cell (p := ⟨kb, _, none⟩) hbw).trans (hc (i * 4 + 3) _ (get_gI (by omega)))
                have d45 : decide ((i : Int) < 45) = true := by simp; omega
                generalize gI M (i * 4) = ak at *
                generalize gI M (i * 4 + 1) = au at *
                generalize gI M (i * 4 + 2) = af at *
                generalize gI M (i * 4 + 3) = at_ at *
                have HAk := Lib.hid (TAsk_len hL hG Hbr.out HT.out hlen ak au af at_)
                have hlen' := Lib.hid (hlen.ask ak au af at_)
                generalize tAsk U F T ak au af at_ = r at *
                obtain ⟨T1, code⟩ := r
                clear p0 hlen
                go_wp2_with fail
                with_reducible refine HAk.out.mono ?_
                rintro e w7 ⟨rfl, own', v', hT7, ho7, hq7⟩
                have Hb7 := Lib.hid (hq7.to_below (fun g hg => HT.out.low g hg) Hbr.out Hbr.out.size)
                have HT7 := Lib.hid hT7
                clear hT7 ho7 hq7
                go_wp2_with fail
                refine ⟨⟨i + 1, T1, v', own', ?ya, ?yb, ?yc, HT7, hlen'.out, Hb7⟩, ?ye⟩
                case ya => omega
                case yb => omega
                case yc => go_num
                case ye => simp [intOf]; omega
              · have hl8 := hlen.ho
                have HInv := Lib.hid hlen.inv.inv
                have HTl := Lib.hid HT.out
                have hbz := Hbr.out
                have hTz := HT.out
                clear hlen HT Hbr
                have hiz : ¬ i < z := by omega
                have dz : decide ((i : Int) < (z : Int)) = false := by simp; omega
                clear hlt
                go_wp2_with fail
                go_loopw [21] (fun i wx => ∃ (f : Nat), f ≤ n ∧ i = .int .i64 f ∧ Hid (TrailAt w.heap.size own2 wx b2 p2 v2 A2 U F T) ∧ Hid (Below w.heap.size w wx)) (fun i _ => n - (intOf i).toNat)
                case atStart => exact ⟨0, Nat.zero_le _, rfl, Lib.hid hTz, Lib.hid hbz⟩
                case round =>
                  clear hTz hbz HTl
                  obtain ⟨wu, rfl⟩ : ∃ wu : World, wu = wr := ⟨_, rfl⟩
                  obtain ⟨f, hf, rfl, HTx, Hbx⟩ := hrel
                  by_cases hfn : f < n
                  · have HS := THolds_any HTx.out (by omega) (f : Int)
                    rw [told_here (by omega)] at HS
                    have HS := Lib.hid HS
                    have hx := HInv.out.ho_lt f
                    have HBt := Lib.hid (fun (g : Nat) (bb : Bool) (V : World) (hg : g < 2 ^ 62) (hh : (row T.S.Ho f).testBit g = bb) => Bit_is (row T.S.Ho f) g bb V (by omega) hg hh)
                    have Hself := Lib.hid (HInv.out.self f (by omega))
                    have Hown := Lib.hid (fun g => HInv.out.own f g)
                    generalize row T.S.Ho f = x at *
                    have d1 : decide ((x : Int) < 0) = false := by simp
                    have d2 : decide ((x : Int) > 255) = false := by simp; omega
                    have Hb1 := Lib.hid (fun V => HBt.out f true V (by omega) Hself.out)
                    go_wp2_with fail
                    with_reducible refine HS.out.mono ?_
                    rintro e w8 ⟨rfl, rfl⟩
                    go_wp2_with fail
                    with_reducible refine (Hb1.out _).mono ?_
                    rintro e w8 ⟨rfl, rfl⟩
                    go_wp2_with fail
                    go_loopw [23] (fun i wx => ∃ (g : Nat), g ≤ n ∧ i = .int .i64 g ∧ Hid (TrailAt w.heap.size own2 wx b2 p2 v2 A2 U F T) ∧ Hid (Below w.heap.size w wx)) (fun i _ => n - (intOf i).toNat)
                    case atStart => exact ⟨0, Nat.zero_le _, rfl, HTx, Hbx⟩
                    case round =>
                      clear HTx Hbx HS Hb1
                      obtain ⟨wg, rfl⟩ : ∃ wg : World, wg = wr := ⟨_, rfl⟩
                      obtain ⟨g, hg, rfl, HTg, Hbg⟩ := hrel
                      by_cases hgn : g < n
                      · obtain ⟨fb, fo, rfl, fc⟩ := iF (by intro e; simp [e] at hF; omega)
                        have fp := fc (f * 2) _ (get_gI (by omega))
                        have flt : fb < w.heap.size := block_lt fp
                        have lf := HlF.out f hfn
                        have lg := HlF.out g hgn
                        obtain ⟨sf, hsf⟩ := Int.eq_ofNat_of_zero_le lf.2.2.1
                        obtain ⟨sg, hsg⟩ := Int.eq_ofNat_of_zero_le lg.2.2.1
                        have t0 := cell_regrown ((Hbg.out.cell (p := ⟨fb, _, none⟩) flt).trans fp)
                        have t1 := cell_regrown ((Hbg.out.cell (p := ⟨fb, fo + f * 2 + 1, none⟩) flt).trans (fc (f * 2 + 1) _ (get_gI (by omega))))
                        have t2 := cell_regrown ((Hbg.out.cell (p := ⟨fb, fo + g * 2, none⟩) flt).trans (fc (g * 2) _ (get_gI (by omega))))
                        have t3 := cell_regrown ((Hbg.out.cell (p := ⟨fb, fo + g * 2 + 1, none⟩) flt).trans (fc (g * 2 + 1) _ (get_gI (by omega))))
                        have hown := Hown.out g
                        unfold belowL at hown
                        rw [hsf] at t1 lf hown
                        rw [hsg] at t3 lg hown
                        have Q1 := fun (d : Nat) (os : Array Obj) => Calls.regrown_of (Below_ok (gI F (g * 2)) (gI F (f * 2)) sg sf (Sort.grow (redrawn wg d) os) lg lf)
                        rw [Int.toNat_natCast, Int.toNat_natCast] at hown
                        obtain ⟨bb, hbb⟩ : ∃ bb, (decide (gI F (g * 2) ≤ gI F (f * 2)) && within sg sf) = bb := ⟨_, rfl⟩
                        rw [hbb] at hown
                        simp only [hbb] at Q1
                        replace Q1 := Lib.hid Q1
                        clear fp fc lf lg hsf hsg hbb
                        generalize gI F (g * 2) = u0 at *
                        generalize gI F (f * 2) = u2 at *
                        go_wp2_with fail
                        refine wp_region_quiet_below (by kernel_rfl) (by kernel_rfl) ?_
                        repeat (go_big_quiet_step (with_reducible exact Q1.out _ _))
                        refine wpQuiet_nil ?_
                        rintro _ ⟨pq, rfl⟩
                        have hbq := below_regrown wg pq.d pq.os
                        have Hb9 := Lib.hid (Hbg.out.trans (hbq.mono Hbg.out.size))
                        have HT9 := Lib.hid (HTg.out.below hbq)
                        generalize Sort.grow (redrawn wg pq.d) pq.os = w9 at *
                        clear t0 t1 t2 t3 Q1 HTg Hbg hbq
                        cases hbt : x.testBit g with
                        | false =>
                          have Hbb := Lib.hid (fun V => HBt.out g false V (by omega) hbt)
                          clear hown hbt
                          go_wp2_with fail
                          with_reducible refine (Hbb.out _).mono ?_
                          rintro e w10 ⟨rfl, rfl⟩
                          go_wp2_with fail
                          exact ⟨⟨g + 1, by omega, by go_num, HT9, Hb9⟩, by simp [intOf]; omega⟩
                        | true =>
                          obtain rfl : bb = true := hown hbt
                          have Hbb := Lib.hid (fun V => HBt.out g true V (by omega) hbt)
                          clear hown hbt
                          go_wp2_with fail
                          with_reducible refine (Hbb.out _).mono ?_
                          rintro e w10 ⟨rfl, rfl⟩
                          go_wp2_with fail
                          exact ⟨⟨g + 1, by omega, by go_num, HT9, Hb9⟩, by simp [intOf]; omega⟩
                      · have dg : decide ((g : Int) < (n : Int)) = false := by simp; omega
                        go_wp2_with fail
                        exact ⟨⟨f + 1, by omega, by go_num, HTg, Hbg⟩, by simp [intOf]; omega⟩
                  · have df : decide ((f : Int) < (n : Int)) = false := by simp; omega
                    go_wp2_with fail
                    go_ret
                    exact ⟨rfl, Hbx.out⟩
          · exact absurd rfl hne
        · have hj : str.size ≤ str.size := Nat.le_refl _
          have n0 : (0 : Int) ≤ (str.size : Int) := by omega
          have n1 : (str.size : Int) ≤ (str.size : Int) := by omega
          obtain ⟨T', c', hl', CO⟩ := HC.out str.size hj
          rw [show str.extract 0 str.size = str from by apply ba_ext; simp] at CO
          have CO := Lib.hid CO
          clear HC
          by_cases h0 : k < 0
          · have d0 : decide (k < 0) = true := by simp; omega
            clear hin
            go_wp2_with fail
            with_reducible refine CO.out.mono ?_
            rintro e w6 ⟨hpost, hb6⟩
            have Hb06 := Lib.hid (hb05.trans (hb6.mono hb05.size))
            rcases hpost with ⟨_, b2, p2, v2, A2, own2, rfl, hO⟩ | ⟨hne, _⟩
            · have HO2 := Lib.hid (hO.lower (lo' := w.heap.size) hb05.size)
              clear CO hO hb6
              dsimp only
              go_wp2_with fail
              go_loopw [20] (fun i wr => ∃ (k : Nat) (T : TS) (v2 : Value) (own2 : Nat → Prop), k ≤ z ∧ k ≤ 45 ∧ i = .int .i64 k ∧ Hid (TrailAt w.heap.size own2 wr b2 p2 v2 A2 U F T) ∧ TLen m n U F T ∧ Hid (Below w.heap.size w wr)) (fun i _ => z - (intOf i).toNat)
              case atStart => exact ⟨0, T', v2, own2, Nat.zero_le _, Nat.zero_le _, rfl, HO2, hl', Hb06⟩
              case round =>
                clear HO2 Hb06 hl'
                obtain ⟨i, T, v2, own2, hi, hi4, rfl, HT, hlen, Hbr⟩ := hrel
                by_cases hlt : i < z ∧ i < 45
                · obtain ⟨hiz, hi45⟩ := hlt
                  obtain ⟨kb, off, rfl, hc⟩ := hM (by intro e; simp [e] at hz; omega)
                  have p0 := hc (i * 4) _ (get_gI (by omega))
                  have hbw : kb < w.heap.size := block_lt p0
                  have q0 := (Hbr.out.cell (p := ⟨kb, _, none⟩) hbw).trans p0
                  have q1 : wr.cell? ⟨kb, off + i * 4 + 1, none⟩ = some (.int .i64 (gI M (i * 4 + 1))) := (Hbr.out.cell (p := ⟨kb, _, none⟩) hbw).trans (hc (i * 4 + 1) _ (get_gI (by omega)))
                  have q2 : wr.cell? ⟨kb, off + i * 4 + 2, none⟩ = some (.int .i64 (gI M (i * 4 + 2))) := (Hbr.out.cell (p := ⟨kb, _, none⟩) hbw).trans (hc (i * 4 + 2) _ (get_gI (by omega)))
                  have q3 : wr.cell? ⟨kb, off + i * 4 + 3, none⟩ = some (.int .i64 (gI M (i * 4 + 3))) := (Hbr.out.cell (p := ⟨kb, _, none⟩) hbw).trans (hc (i * 4 + 3) _ (get_gI (by omega)))
                  have d45 : decide ((i : Int) < 45) = true := by simp; omega
                  generalize gI M (i * 4) = ak at *
                  generalize gI M (i * 4 + 1) = au at *
                  generalize gI M (i * 4 + 2) = af at *
                  generalize gI M (i * 4 + 3) = at_ at *
                  have HAk := Lib.hid (TAsk_len hL hG Hbr.out HT.out hlen ak au af at_)
                  have hlen' := Lib.hid (hlen.ask ak au af at_)
                  generalize tAsk U F T ak au af at_ = r at *
                  obtain ⟨T1, code⟩ := r
                  clear p0 hlen
                  go_wp2_with fail
                  with_reducible refine HAk.out.mono ?_
                  rintro e w7 ⟨rfl, own', v', hT7, ho7, hq7⟩
                  have Hb7 := Lib.hid (hq7.to_below (fun g hg => HT.out.low g hg) Hbr.out Hbr.out.size)
                  have HT7 := Lib.hid hT7
                  clear hT7 ho7 hq7
                  go_wp2_with fail
                  refine ⟨⟨i + 1, T1, v', own', ?ya, ?yb, ?yc, HT7, hlen'.out, Hb7⟩, ?ye⟩
                  case ya => omega
                  case yb => omega
                  case yc => go_num
                  case ye => simp [intOf]; omega
                · have hl8 := hlen.ho
                  have HInv := Lib.hid hlen.inv.inv
                  have HTl := Lib.hid HT.out
                  have hbz := Hbr.out
                  have hTz := HT.out
                  clear hlen HT Hbr
                  have hiz : ¬ i < z := by omega
                  have dz : decide ((i : Int) < (z : Int)) = false := by simp; omega
                  clear hlt
                  go_wp2_with fail
                  go_loopw [21] (fun i wx => ∃ (f : Nat), f ≤ n ∧ i = .int .i64 f ∧ Hid (TrailAt w.heap.size own2 wx b2 p2 v2 A2 U F T) ∧ Hid (Below w.heap.size w wx)) (fun i _ => n - (intOf i).toNat)
                  case atStart => exact ⟨0, Nat.zero_le _, rfl, Lib.hid hTz, Lib.hid hbz⟩
                  case round =>
                    clear hTz hbz HTl
                    obtain ⟨wu, rfl⟩ : ∃ wu : World, wu = wr := ⟨_, rfl⟩
                    obtain ⟨f, hf, rfl, HTx, Hbx⟩ := hrel
                    by_cases hfn : f < n
                    · have HS := THolds_any HTx.out (by omega) (f : Int)
                      rw [told_here (by omega)] at HS
                      have HS := Lib.hid HS
                      have hx := HInv.out.ho_lt f
                      have HBt := Lib.hid (fun (g : Nat) (bb : Bool) (V : World) (hg : g < 2 ^ 62) (hh : (row T.S.Ho f).testBit g = bb) => Bit_is (row T.S.Ho f) g bb V (by omega) hg hh)
                      have Hself := Lib.hid (HInv.out.self f (by omega))
                      have Hown := Lib.hid (fun g => HInv.out.own f g)
                      generalize row T.S.Ho f = x at *
                      have d1 : decide ((x : Int) < 0) = false := by simp
                      have d2 : decide ((x : Int) > 255) = false := by simp; omega
                      have Hb1 := Lib.hid (fun V => HBt.out f true V (by omega) Hself.out)
                      go_wp2_with fail
                      with_reducible refine HS.out.mono ?_
                      rintro e w8 ⟨rfl, rfl⟩
                      go_wp2_with fail
                      with_reducible refine (Hb1.out _).mono ?_
                      rintro e w8 ⟨rfl, rfl⟩
                      go_wp2_with fail
                      go_loopw [23] (fun i wx => ∃ (g : Nat), g ≤ n ∧ i = .int .i64 g ∧ Hid (TrailAt w.heap.size own2 wx b2 p2 v2 A2 U F T) ∧ Hid (Below w.heap.size w wx)) (fun i _ => n - (intOf i).toNat)
                      case atStart => exact ⟨0, Nat.zero_le _, rfl, HTx, Hbx⟩
                      case round =>
                        clear HTx Hbx HS Hb1
                        obtain ⟨wg, rfl⟩ : ∃ wg : World, wg = wr := ⟨_, rfl⟩
                        obtain ⟨g, hg, rfl, HTg, Hbg⟩ := hrel
                        by_cases hgn : g < n
                        · obtain ⟨fb, fo, rfl, fc⟩ := iF (by intro e; simp [e] at hF; omega)
                          have fp := fc (f * 2) _ (get_gI (by omega))
                          have flt : fb < w.heap.size := block_lt fp
                          have lf := HlF.out f hfn
                          have lg := HlF.out g hgn
                          obtain ⟨sf, hsf⟩ := Int.eq_ofNat_of_zero_le lf.2.2.1
                          obtain ⟨sg, hsg⟩ := Int.eq_ofNat_of_zero_le lg.2.2.1
                          have t0 := cell_regrown ((Hbg.out.cell (p := ⟨fb, _, none⟩) flt).trans fp)
                          have t1 := cell_regrown ((Hbg.out.cell (p := ⟨fb, fo + f * 2 + 1, none⟩) flt).trans (fc (f * 2 + 1) _ (get_gI (by omega))))
                          have t2 := cell_regrown ((Hbg.out.cell (p := ⟨fb, fo + g * 2, none⟩) flt).trans (fc (g * 2) _ (get_gI (by omega))))
                          have t3 := cell_regrown ((Hbg.out.cell (p := ⟨fb, fo + g * 2 + 1, none⟩) flt).trans (fc (g * 2 + 1) _ (get_gI (by omega))))
                          have hown := Hown.out g
                          unfold belowL at hown
                          rw [hsf] at t1 lf hown
                          rw [hsg] at t3 lg hown
                          have Q1 := fun (d : Nat) (os : Array Obj) => Calls.regrown_of (Below_ok (gI F (g * 2)) (gI F (f * 2)) sg sf (Sort.grow (redrawn wg d) os) lg lf)
                          rw [Int.toNat_natCast, Int.toNat_natCast] at hown
                          obtain ⟨bb, hbb⟩ : ∃ bb, (decide (gI F (g * 2) ≤ gI F (f * 2)) && within sg sf) = bb := ⟨_, rfl⟩
                          rw [hbb] at hown
                          simp only [hbb] at Q1
                          replace Q1 := Lib.hid Q1
                          clear fp fc lf lg hsf hsg hbb
                          generalize gI F (g * 2) = u0 at *
                          generalize gI F (f * 2) = u2 at *
                          go_wp2_with fail
                          refine wp_region_quiet_below (by kernel_rfl) (by kernel_rfl) ?_
                          repeat (go_big_quiet_step (with_reducible exact Q1.out _ _))
                          refine wpQuiet_nil ?_
                          rintro _ ⟨pq, rfl⟩
                          have hbq := below_regrown wg pq.d pq.os
                          have Hb9 := Lib.hid (Hbg.out.trans (hbq.mono Hbg.out.size))
                          have HT9 := Lib.hid (HTg.out.below hbq)
                          generalize Sort.grow (redrawn wg pq.d) pq.os = w9 at *
                          clear t0 t1 t2 t3 Q1 HTg Hbg hbq
                          cases hbt : x.testBit g with
                          | false =>
                            have Hbb := Lib.hid (fun V => HBt.out g false V (by omega) hbt)
                            clear hown hbt
                            go_wp2_with fail
                            with_reducible refine (Hbb.out _).mono ?_
                            rintro e w10 ⟨rfl, rfl⟩
                            go_wp2_with fail
                            exact ⟨⟨g + 1, by omega, by go_num, HT9, Hb9⟩, by simp [intOf]; omega⟩
                          | true =>
                            obtain rfl : bb = true := hown hbt
                            have Hbb := Lib.hid (fun V => HBt.out g true V (by omega) hbt)
                            clear hown hbt
                            go_wp2_with fail
                            with_reducible refine (Hbb.out _).mono ?_
                            rintro e w10 ⟨rfl, rfl⟩
                            go_wp2_with fail
                            exact ⟨⟨g + 1, by omega, by go_num, HT9, Hb9⟩, by simp [intOf]; omega⟩
                        · have dg : decide ((g : Int) < (n : Int)) = false := by simp; omega
                          go_wp2_with fail
                          exact ⟨⟨f + 1, by omega, by go_num, HTg, Hbg⟩, by simp [intOf]; omega⟩
                    · have df : decide ((f : Int) < (n : Int)) = false := by simp; omega
                      go_wp2_with fail
                      go_ret
                      exact ⟨rfl, Hbx.out⟩
            · exact absurd rfl hne
          · have d0 : decide (k < 0) = false := by simp; omega
            have d1 : decide (k > (str.size : Int)) = true := by simp; omega
            clear hin
            go_wp2_with fail
            with_reducible refine CO.out.mono ?_
            rintro e w6 ⟨hpost, hb6⟩
            have Hb06 := Lib.hid (hb05.trans (hb6.mono hb05.size))
            rcases hpost with ⟨_, b2, p2, v2, A2, own2, rfl, hO⟩ | ⟨hne, _⟩
            · have HO2 := Lib.hid (hO.lower (lo' := w.heap.size) hb05.size)
              clear CO hO hb6
              dsimp only
              go_wp2_with fail
              go_loopw [20] (fun i wr => ∃ (k : Nat) (T : TS) (v2 : Value) (own2 : Nat → Prop), k ≤ z ∧ k ≤ 45 ∧ i = .int .i64 k ∧ Hid (TrailAt w.heap.size own2 wr b2 p2 v2 A2 U F T) ∧ TLen m n U F T ∧ Hid (Below w.heap.size w wr)) (fun i _ => z - (intOf i).toNat)
              case atStart => exact ⟨0, T', v2, own2, Nat.zero_le _, Nat.zero_le _, rfl, HO2, hl', Hb06⟩
              case round =>
                clear HO2 Hb06 hl'
                obtain ⟨i, T, v2, own2, hi, hi4, rfl, HT, hlen, Hbr⟩ := hrel
                by_cases hlt : i < z ∧ i < 45
                · obtain ⟨hiz, hi45⟩ := hlt
                  obtain ⟨kb, off, rfl, hc⟩ := hM (by intro e; simp [e] at hz; omega)
                  have p0 := hc (i * 4) _ (get_gI (by omega))
                  have hbw : kb < w.heap.size := block_lt p0
                  have q0 := (Hbr.out.cell (p := ⟨kb, _, none⟩) hbw).trans p0
                  have q1 : wr.cell? ⟨kb, off + i * 4 + 1, none⟩ = some (.int .i64 (gI M (i * 4 + 1))) := (Hbr.out.cell (p := ⟨kb, _, none⟩) hbw).trans (hc (i * 4 + 1) _ (get_gI (by omega)))
                  have q2 : wr.cell? ⟨kb, off + i * 4 + 2, none⟩ = some (.int .i64 (gI M (i * 4 + 2))) := (Hbr.out.cell (p := ⟨kb, _, none⟩) hbw).trans (hc (i * 4 + 2) _ (get_gI (by omega)))
                  have q3 : wr.cell? ⟨kb, off + i * 4 + 3, none⟩ = some (.int .i64 (gI M (i * 4 + 3))) := (Hbr.out.cell (p := ⟨kb, _, none⟩) hbw).trans (hc (i * 4 + 3) _ (get_gI (by omega)))
                  have d45 : decide ((i : Int) < 45) = true := by simp; omega
                  generalize gI M (i * 4) = ak at *
                  generalize gI M (i * 4 + 1) = au at *
                  generalize gI M (i * 4 + 2) = af at *
                  generalize gI M (i * 4 + 3) = at_ at *
                  have HAk := Lib.hid (TAsk_len hL hG Hbr.out HT.out hlen ak au af at_)
                  have hlen' := Lib.hid (hlen.ask ak au af at_)
                  generalize tAsk U F T ak au af at_ = r at *
                  obtain ⟨T1, code⟩ := r
                  clear p0 hlen
                  go_wp2_with fail
                  with_reducible refine HAk.out.mono ?_
                  rintro e w7 ⟨rfl, own', v', hT7, ho7, hq7⟩
                  have Hb7 := Lib.hid (hq7.to_below (fun g hg => HT.out.low g hg) Hbr.out Hbr.out.size)
                  have HT7 := Lib.hid hT7
                  clear hT7 ho7 hq7
                  go_wp2_with fail
                  refine ⟨⟨i + 1, T1, v', own', ?ya, ?yb, ?yc, HT7, hlen'.out, Hb7⟩, ?ye⟩
                  case ya => omega
                  case yb => omega
                  case yc => go_num
                  case ye => simp [intOf]; omega
                · have hl8 := hlen.ho
                  have HInv := Lib.hid hlen.inv.inv
                  have HTl := Lib.hid HT.out
                  have hbz := Hbr.out
                  have hTz := HT.out
                  clear hlen HT Hbr
                  have hiz : ¬ i < z := by omega
                  have dz : decide ((i : Int) < (z : Int)) = false := by simp; omega
                  clear hlt
                  go_wp2_with fail
                  go_loopw [21] (fun i wx => ∃ (f : Nat), f ≤ n ∧ i = .int .i64 f ∧ Hid (TrailAt w.heap.size own2 wx b2 p2 v2 A2 U F T) ∧ Hid (Below w.heap.size w wx)) (fun i _ => n - (intOf i).toNat)
                  case atStart => exact ⟨0, Nat.zero_le _, rfl, Lib.hid hTz, Lib.hid hbz⟩
                  case round =>
                    clear hTz hbz HTl
                    obtain ⟨wu, rfl⟩ : ∃ wu : World, wu = wr := ⟨_, rfl⟩
                    obtain ⟨f, hf, rfl, HTx, Hbx⟩ := hrel
                    by_cases hfn : f < n
                    · have HS := THolds_any HTx.out (by omega) (f : Int)
                      rw [told_here (by omega)] at HS
                      have HS := Lib.hid HS
                      have hx := HInv.out.ho_lt f
                      have HBt := Lib.hid (fun (g : Nat) (bb : Bool) (V : World) (hg : g < 2 ^ 62) (hh : (row T.S.Ho f).testBit g = bb) => Bit_is (row T.S.Ho f) g bb V (by omega) hg hh)
                      have Hself := Lib.hid (HInv.out.self f (by omega))
                      have Hown := Lib.hid (fun g => HInv.out.own f g)
                      generalize row T.S.Ho f = x at *
                      have d1 : decide ((x : Int) < 0) = false := by simp
                      have d2 : decide ((x : Int) > 255) = false := by simp; omega
                      have Hb1 := Lib.hid (fun V => HBt.out f true V (by omega) Hself.out)
                      go_wp2_with fail
                      with_reducible refine HS.out.mono ?_
                      rintro e w8 ⟨rfl, rfl⟩
                      go_wp2_with fail
                      with_reducible refine (Hb1.out _).mono ?_
                      rintro e w8 ⟨rfl, rfl⟩
                      go_wp2_with fail
                      go_loopw [23] (fun i wx => ∃ (g : Nat), g ≤ n ∧ i = .int .i64 g ∧ Hid (TrailAt w.heap.size own2 wx b2 p2 v2 A2 U F T) ∧ Hid (Below w.heap.size w wx)) (fun i _ => n - (intOf i).toNat)
                      case atStart => exact ⟨0, Nat.zero_le _, rfl, HTx, Hbx⟩
                      case round =>
                        clear HTx Hbx HS Hb1
                        obtain ⟨wg, rfl⟩ : ∃ wg : World, wg = wr := ⟨_, rfl⟩
                        obtain ⟨g, hg, rfl, HTg, Hbg⟩ := hrel
                        by_cases hgn : g < n
                        · obtain ⟨fb, fo, rfl, fc⟩ := iF (by intro e; simp [e] at hF; omega)
                          have fp := fc (f * 2) _ (get_gI (by omega))
                          have flt : fb < w.heap.size := block_lt fp
                          have lf := HlF.out f hfn
                          have lg := HlF.out g hgn
                          obtain ⟨sf, hsf⟩ := Int.eq_ofNat_of_zero_le lf.2.2.1
                          obtain ⟨sg, hsg⟩ := Int.eq_ofNat_of_zero_le lg.2.2.1
                          have t0 := cell_regrown ((Hbg.out.cell (p := ⟨fb, _, none⟩) flt).trans fp)
                          have t1 := cell_regrown ((Hbg.out.cell (p := ⟨fb, fo + f * 2 + 1, none⟩) flt).trans (fc (f * 2 + 1) _ (get_gI (by omega))))
                          have t2 := cell_regrown ((Hbg.out.cell (p := ⟨fb, fo + g * 2, none⟩) flt).trans (fc (g * 2) _ (get_gI (by omega))))
                          have t3 := cell_regrown ((Hbg.out.cell (p := ⟨fb, fo + g * 2 + 1, none⟩) flt).trans (fc (g * 2 + 1) _ (get_gI (by omega))))
                          have hown := Hown.out g
                          unfold belowL at hown
                          rw [hsf] at t1 lf hown
                          rw [hsg] at t3 lg hown
                          have Q1 := fun (d : Nat) (os : Array Obj) => Calls.regrown_of (Below_ok (gI F (g * 2)) (gI F (f * 2)) sg sf (Sort.grow (redrawn wg d) os) lg lf)
                          rw [Int.toNat_natCast, Int.toNat_natCast] at hown
                          obtain ⟨bb, hbb⟩ : ∃ bb, (decide (gI F (g * 2) ≤ gI F (f * 2)) && within sg sf) = bb := ⟨_, rfl⟩
                          rw [hbb] at hown
                          simp only [hbb] at Q1
                          replace Q1 := Lib.hid Q1
                          clear fp fc lf lg hsf hsg hbb
                          generalize gI F (g * 2) = u0 at *
                          generalize gI F (f * 2) = u2 at *
                          go_wp2_with fail
                          refine wp_region_quiet_below (by kernel_rfl) (by kernel_rfl) ?_
                          repeat (go_big_quiet_step (with_reducible exact Q1.out _ _))
                          refine wpQuiet_nil ?_
                          rintro _ ⟨pq, rfl⟩
                          have hbq := below_regrown wg pq.d pq.os
                          have Hb9 := Lib.hid (Hbg.out.trans (hbq.mono Hbg.out.size))
                          have HT9 := Lib.hid (HTg.out.below hbq)
                          generalize Sort.grow (redrawn wg pq.d) pq.os = w9 at *
                          clear t0 t1 t2 t3 Q1 HTg Hbg hbq
                          cases hbt : x.testBit g with
                          | false =>
                            have Hbb := Lib.hid (fun V => HBt.out g false V (by omega) hbt)
                            clear hown hbt
                            go_wp2_with fail
                            with_reducible refine (Hbb.out _).mono ?_
                            rintro e w10 ⟨rfl, rfl⟩
                            go_wp2_with fail
                            exact ⟨⟨g + 1, by omega, by go_num, HT9, Hb9⟩, by simp [intOf]; omega⟩
                          | true =>
                            obtain rfl : bb = true := hown hbt
                            have Hbb := Lib.hid (fun V => HBt.out g true V (by omega) hbt)
                            clear hown hbt
                            go_wp2_with fail
                            with_reducible refine (Hbb.out _).mono ?_
                            rintro e w10 ⟨rfl, rfl⟩
                            go_wp2_with fail
                            exact ⟨⟨g + 1, by omega, by go_num, HT9, Hb9⟩, by simp [intOf]; omega⟩
                        · have dg : decide ((g : Int) < (n : Int)) = false := by simp; omega
                          go_wp2_with fail
                          exact ⟨⟨f + 1, by omega, by go_num, HTg, Hbg⟩, by simp [intOf]; omega⟩
                    · have df : decide ((f : Int) < (n : Int)) = false := by simp; omega
                      go_wp2_with fail
                      go_ret
                      exact ⟨rfl, Hbx.out⟩
            · exact absurd rfl hne
  · obtain ⟨kk, hkk, hne⟩ : ∃ kk, kk = (if labsCode U m 8 ≠ 0 then labsCode U m 8 else labsCode F n 8) ∧ kk ≠ 0 := ⟨_, rfl, by split <;> simp_all⟩
    have CT := Lib.hid (TNew_bad U F m n hU hF Ua Fa Uc Fc w3 (iU.below hb03) (iF.below hb03) (by omega) (by omega) kk hkk hne)
    clear h12 hkk hne
    go_wp2_with fail
    with_reducible refine CT.out.mono ?_
    rintro e w4 ⟨rfl, hb4⟩
    go_wp2_with fail
    go_ret
    exact ⟨rfl, hb03.trans (hb4.mono hb03.size)⟩
set_option maxHeartbeats 32000000 in
theorem TopTrail_11 (m : Nat) (U : List Int) (Ua : Option Addr) (Uc : Nat) {W : World} (hU : U.length = m * 2) (iU : IntsAt W Ua U) (sU : m * 2 < 2 ^ 47) (bU : ∀ x ∈ U, I64 x) (n : Nat) (F : List Int) (Fa : Option Addr) (Fc : Nat) (hF : F.length = n * 2) (iF : IntsAt W Fa F) (sF : n * 2 < 2 ^ 47) (bF : ∀ x ∈ F, I64 x)
    (q : Nat) (K : List Int) (Ka : Option Addr) (Kc : Nat) (hn : K.length = q * 4) (hK : IntsAt W Ka K) (sK : q * 4 < 2 ^ 47) (bK : ∀ x ∈ K, I64 x)
    (k : Int) (bk : I64 k) (z : Nat) (M : List Int) (Ma : Option Addr) (Mc : Nat) (hz : M.length = z * 4) (hM : IntsAt W Ma M) (sM : z * 4 < 2 ^ 47) (bM : ∀ x ∈ M, I64 x) (w : World) (hw : w = W) (hG : Glob W) (hqq : 45 < q) (hzz : 45 < z) :
    Calls Tryz.prog 9 #[.slice Ua m Uc, .slice Fa n Fc, .slice Ka q Kc, .int .i64 k, .slice Ma z Mc] w fun e w' => e = .returned (.bool true) ∧ Below W.heap.size W w' := by
  subst hw
  have N := Lib.hid (fun V A B hU hF => LNew_ok [5, 0] [4, 0] 1 1 rfl rfl A B 1 1 V hU hF (by decide) (by decide))
  obtain ⟨w1, hw1⟩ : ∃ w1, (w.alloc (.cells #[.int .i64 5, .int .i64 0] 75)).alloc (.cells #[.int .i64 4, .int .i64 0] 75) = w1 := ⟨_, rfl⟩
  have hu : BoxN w1 w.heap.size 75 #[.int .i64 5, .int .i64 0] := by rw [← hw1]; exact (BoxN.new w _ _).alloc _
  have hf : BoxN w1 (w.heap.size + 1) 75 #[.int .i64 4, .int .i64 0] := by rw [← hw1]; exact BoxN.new' _ _ _ _ (by simp)
  have hb1 : Below w.heap.size w w1 := by rw [← hw1]; exact ((Below.refl _ _).alloc (Nat.le_refl _) _).alloc (by simp) _
  have jU : IntsAt w1 (some ⟨w.heap.size, 0, none⟩) [5, 0] := IntsAt.fresh fun j x hj => by
    match j, hj with
    | 0, hj => cases hj; exact hu.cell rfl
    | 1, hj => cases hj; exact hu.cell rfl
  have jF : IntsAt w1 (some ⟨w.heap.size + 1, 0, none⟩) [4, 0] := IntsAt.fresh fun j x hj => by
    match j, hj with
    | 0, hj => cases hj; exact hf.cell rfl
    | 1, hj => cases hj; exact hf.cell rfl
  have CN := Lib.hid (N.out w1 _ _ jU jF)
  have hs1 := hb1.size
  have hI2 : LInv [5, 0] [4, 0] (lStart 1 1) := LInv.start (by decide) (by decide)
  have hlu : ∀ i, i < 1 → labOk (gI [5, 0] (i * 2)) (gI [5, 0] (i * 2 + 1)) := (labsCode_ok (show labsCode [5, 0] 1 8 = 0 by decide)).2
  have hlf : ∀ i, i < 1 → labOk (gI [4, 0] (i * 2)) (gI [4, 0] (i * 2 + 1)) := (labsCode_ok (show labsCode [4, 0] 1 8 = 0 by decide)).2
  have HA := Lib.hid (fun V p A base (h2 : BellAt V base p [5, 0] [4, 0] (lStart 1 1) A) (hb : Below w.heap.size w V) (hs : base ≤ V.heap.size) => by
    have A1 := LAsk_any2 (ok := fun _ => False) h2 (hG.tab.next hb) hI2 hlu hlf hs (fun _ _ _ _ => id) 0 0 0 0
    rw [bellStart, errVal_zero] at A1
    exact A1)
  clear N jU jF hu hf hI2 hlu hlf
  have hN0 : ∃ kk, (labsCode U m 8 = 0 ∧ labsCode F n 8 = 0 → kk = 0) := ⟨0, fun _ => rfl⟩
  clear hN0
  go_enter Tryz.func9, Tryz.ntmps9
  go_wp2_with fail
  try rw [hw1]
  clear hw1
  with_reducible refine CN.out.mono ?_
  rintro e w2 ⟨⟨p0, A0, rfl, h2⟩, hb2⟩
  have hb02 := hb1.trans (hb2.mono hs1)
  have CA0 := Lib.hid (HA.out _ _ _ _ h2 hb02 hb2.size)
  clear HA h2 CN hb2
  go_wp2_with fail
  with_reducible refine CA0.out.mono ?_
  rintro e w3 ⟨rfl, h3, hb3, _⟩
  have hb03 := hb02.trans (hb3.mono hs1)
  have CR0 := Lib.hid (LReads_any h3 (by decide) 0)
  rw [show told (LS.mk [1] [0] [1]).Re 0 = 1 from by decide] at CR0
  clear CA0 h3 hb3
  go_wp2_with fail
  with_reducible refine CR0.out.mono ?_
  rintro e w3 ⟨rfl, rfl⟩
  clear CR0 hb02 hb1
  by_cases h12 : labsCode U m 8 = 0 ∧ labsCode F n 8 = 0
  · have hL : LabsOk m n U F := ⟨h12.1, h12.2, hU, hF⟩
    have CT := Lib.hid (TNew_ok U F m n hU hF Ua Fa Uc Fc w3 (iU.below hb03) (iF.below hb03) h12.1 h12.2)
    have HO := Lib.hid (fun V (s : ByteArray) (hs : s.size < 4294967281) (hV : Below w.heap.size w V) => TOpen_ok U F m n hU hF Ua Fa Uc Fc s hs V (hG.next hV) (iU.below hV) (iF.below hV) h12.1 h12.2)
    have Hrun := Lib.hid (fun j => (TLen.start (U := U) (F := F) hL.m8 hL.n8).run (K := K) j)
    have Htorn := Lib.hid (fun (N j : Nat) (hN : N ≤ 60) => torn_some (K := K) (TInv.start (U := U) (F := F) hL.m8 hL.n8) rfl rfl N j hN)
    have HlF := Lib.hid (labsCode_ok hL.cf).2
    have hn8 := hL.n8
    clear h12
    go_wp2_with fail
    with_reducible refine CT.out.mono ?_
    rintro e w4 ⟨⟨b, p, v, A, own, rfl, hT⟩, hb4⟩
    have hb04 := hb03.trans (hb4.mono hb03.size)
    have HT := Lib.hid (hT.lower (lo' := w.heap.size) hb03.size)
    have Hb04 := Lib.hid hb04
    clear CT hT hb4 hb04 hb03
    go_wp2_with fail
    go_loopw [15] (fun i wr => ∃ (k : Nat) (v : Value) (own : Nat → Prop), k ≤ q ∧ k ≤ 45 ∧ i = .int .i64 k ∧ Hid (TrailAt w.heap.size own wr b p v A U F (tRun U F K (tStart m n) k)) ∧ Hid (Below w.heap.size w wr)) (fun i _ => q - (intOf i).toNat)
    case atStart => exact ⟨0, v, own, Nat.zero_le _, Nat.zero_le _, rfl, HT, Hb04⟩
    case round =>
      clear HT Hb04
      obtain ⟨i, v, own, hi, hi4, rfl, HT, Hbr⟩ := hrel
      by_cases hlt : i < q ∧ i < 45
      · obtain ⟨hiq, hi45⟩ := hlt
        obtain ⟨kb, off, rfl, hc⟩ := hK (by intro e; simp [e] at hn; omega)
        have p0 := hc (i * 4) _ (get_gI (by omega))
        have hbw : kb < w.heap.size := block_lt p0
        have q0 := (Hbr.out.cell (p := ⟨kb, _, none⟩) hbw).trans p0
        have q1 : wr.cell? ⟨kb, off + i * 4 + 1, none⟩ = some (.int .i64 (gI K (i * 4 + 1))) := (Hbr.out.cell (p := ⟨kb, _, none⟩) hbw).trans (hc (i * 4 + 1) _ (get_gI (by omega)))
        have q2 : wr.cell? ⟨kb, off + i * 4 + 2, none⟩ = some (.int .i64 (gI K (i * 4 + 2))) := (Hbr.out.cell (p := ⟨kb, _, none⟩) hbw).trans (hc (i * 4 + 2) _ (get_gI (by omega)))
        have q3 : wr.cell? ⟨kb, off + i * 4 + 3, none⟩ = some (.int .i64 (gI K (i * 4 + 3))) := (Hbr.out.cell (p := ⟨kb, _, none⟩) hbw).trans (hc (i * 4 + 3) _ (get_gI (by omega)))
        have d45 : decide ((i : Int) < 45) = true := by simp; omega
        have HAk := TAsk_len hL hG Hbr.out HT.out (Hrun.out i) (gI K (i * 4)) (gI K (i * 4 + 1)) (gI K (i * 4 + 2)) (gI K (i * 4 + 3))
        rw [show tAsk U F (tRun U F K (tStart m n) i) (gI K (i * 4)) (gI K (i * 4 + 1)) (gI K (i * 4 + 2)) (gI K (i * 4 + 3)) = askAt U F K (tRun U F K (tStart m n) i) i from rfl] at HAk
        obtain ⟨r, hr⟩ : ∃ r, askAt U F K (tRun U F K (tStart m n) i) i = r := ⟨_, rfl⟩
        have Hr := Lib.hid (show tRun U F K (tStart m n) (i + 1) = r.1 by rw [tRun_succ, hr])
        rw [hr] at HAk
        have HAk := Lib.hid HAk
        clear p0 hr
        generalize gI K (i * 4) = ak at *
        generalize gI K (i * 4 + 1) = au at *
        generalize gI K (i * 4 + 2) = af at *
        generalize gI K (i * 4 + 3) = at_ at *
        go_wp2_with fail
        with_reducible refine HAk.out.mono ?_
        rintro e w5 ⟨rfl, own', v', hT5, ho5, hq5⟩
        have hb5 := hq5.to_below (fun g hg => HT.out.low g hg) Hbr.out Hbr.out.size
        have HT5 := Lib.hid hT5
        have Hb5 := Lib.hid hb5
        clear hT5 ho5 hq5 hb5
        go_wp2_with fail
        refine ⟨⟨i + 1, v', own', ?ya, ?yb, ?yc, ?yd, Hb5⟩, ?ye⟩
        case ya => omega
        case yb => omega
        case yc => go_num
        case yd => exact Lib.hid (by rw [Hr.out]; exact HT5.out)
        case ye => simp [intOf]; omega
      · have hlen := Hrun.out i
        have Ht := Lib.hid (fun j => Htorn.out i j (by omega))
        have HR := Lib.hid Hrun.out
        clear Hrun Htorn
        have CTx := Lib.hid (TText_any HT.out)
        have hloglen := hlen.inv.log
        have hmany := hlen.inv.many
        clear hlen
        have hiq : i < q := by omega
        have d45 : decide ((i : Int) < 45) = false := by simp; omega
        clear hlt
        go_wp2_with fail
        with_reducible refine CTx.out.mono ?_
        rintro e w5 ⟨rfl, hT5, hq5⟩
        have hb05 := hq5.to_below (B := w.heap.size) (w0 := w) (fun g hg => HT.out.low g hg) Hbr.out Hbr.out.size
        have Hs := Lib.hid (show (⟨(tRun U F K (tStart m n) i).log.toArray⟩ : ByteArray).data.toList = (tRun U F K (tStart m n) i).log from ba_of _)
        have hsz : (⟨(tRun U F K (tStart m n) i).log.toArray⟩ : ByteArray).size = (tRun U F K (tStart m n) i).log.length := by rw [ba_size, ba_of]
        have hss : (⟨(tRun U F K (tStart m n) i).log.toArray⟩ : ByteArray).size ≤ 100 * 20 := by rw [hsz]; omega
        generalize (⟨(tRun U F K (tStart m n) i).log.toArray⟩ : ByteArray) = str at *
        obtain ⟨lg, hlg⟩ : ∃ lg, (tRun U F K (tStart m n) i).log = lg := ⟨_, rfl⟩
        rw [hlg] at Ht Hs hsz hloglen
        replace hsz := Lib.hid hsz
        clear CTx hT5 hq5 HT Hbr hlg hloglen hmany
        have HC := Lib.hid (fun (j : Nat) (hj : j ≤ str.size) => by
          obtain ⟨T', ht1, _, ⟨j0, _, ht3⟩, _⟩ := Ht.out j
          have hqj : (⟨(lg.take j).toArray⟩ : ByteArray) = str.extract 0 j := by
            apply ba_ext
            rw [ba_of, ← Hs.out]
            simp
          have CO := HO.out w5 (str.extract 0 j) (by rw [ByteArray.size_extract]; omega) hb05
          rw [← hqj, ba_of, ht1] at CO
          rw [hqj] at CO
          have hl := HR.out j0
          rw [← ht3] at hl
          exact (⟨T', _, hl, CO⟩ : ∃ T' c, TLen m n U F T' ∧ Calls Tryz.prog 27 #[.slice Ua m Uc, .slice Fa n Fc, .string (str.extract 0 j)] w5 fun e w' => OpenPost w5 U F (T', c, 0) e w' ∧ Below w5.heap.size w5 w'))
        clear Ht HO HR Hs
        by_cases hin : 0 ≤ k ∧ k ≤ (str.size : Int)
        · obtain ⟨j, rfl⟩ := Int.eq_ofNat_of_zero_le hin.1
          have hj : j ≤ str.size := by omega
          have d0 : decide ((j : Int) < 0) = false := by simp
          have d1 : decide ((j : Int) > (str.size : Int)) = false := by simp; omega
          have n0 : (0 : Int) ≤ (j : Int) := by omega
          have n1 : (j : Int) ≤ (str.size : Int) := by omega
          obtain ⟨T', c', hl', CO⟩ := HC.out j hj
          have CO := Lib.hid CO
          clear HC hin
          go_wp2_with fail
          with_reducible refine CO.out.mono ?_
          rintro e w6 ⟨hpost, hb6⟩
          have Hb06 := Lib.hid (hb05.trans (hb6.mono hb05.size))
          rcases hpost with ⟨_, b2, p2, v2, A2, own2, rfl, hO⟩ | ⟨hne, _⟩
          · have HO2 := Lib.hid (hO.lower (lo' := w.heap.size) hb05.size)
            clear CO hO hb6
            dsimp only
            go_wp2_with fail
            go_loopw [20] (fun i wr => ∃ (k : Nat) (T : TS) (v2 : Value) (own2 : Nat → Prop), k ≤ z ∧ k ≤ 45 ∧ i = .int .i64 k ∧ Hid (TrailAt w.heap.size own2 wr b2 p2 v2 A2 U F T) ∧ TLen m n U F T ∧ Hid (Below w.heap.size w wr)) (fun i _ => z - (intOf i).toNat)
            case atStart => exact ⟨0, T', v2, own2, Nat.zero_le _, Nat.zero_le _, rfl, HO2, hl', Hb06⟩
            case round =>
              clear HO2 Hb06 hl'
              obtain ⟨i, T, v2, own2, hi, hi4, rfl, HT, hlen, Hbr⟩ := hrel
              by_cases hlt : i < z ∧ i < 45
              · obtain ⟨hiz, hi45⟩ := hlt
                obtain ⟨kb, off, rfl, hc⟩ := hM (by intro e; simp [e] at hz; omega)
                have p0 := hc (i * 4) _ (get_gI (by omega))
                have hbw : kb < w.heap.size := block_lt p0
                have q0 := (Hbr.out.cell (p := ⟨kb, _, none⟩) hbw).trans p0
                have q1 : wr.cell? ⟨kb, off + i * 4 + 1, none⟩ = some (.int .i64 (gI M (i * 4 + 1))) := (Hbr.out.cell (p := ⟨kb, _, none⟩) hbw).trans (hc (i * 4 + 1) _ (get_gI (by omega)))
                have q2 : wr.cell? ⟨kb, off + i * 4 + 2, none⟩ = some (.int .i64 (gI M (i * 4 + 2))) := (Hbr.out.cell (p := ⟨kb, _, none⟩) hbw).trans (hc (i * 4 + 2) _ (get_gI (by omega)))
                have q3 : wr.cell? ⟨kb, off + i * 4 + 3, none⟩ = some (.int .i64 (gI M (i * 4 + 3))) := (Hbr.out.cell (p := ⟨kb, _, none⟩) hbw).trans (hc (i * 4 + 3) _ (get_gI (by omega)))
                have d45 : decide ((i : Int) < 45) = true := by simp; omega
                generalize gI M (i * 4) = ak at *
                generalize gI M (i * 4 + 1) = au at *
                generalize gI M (i * 4 + 2) = af at *
                generalize gI M (i * 4 + 3) = at_ at *
                have HAk := Lib.hid (TAsk_len hL hG Hbr.out HT.out hlen ak au af at_)
                have hlen' := Lib.hid (hlen.ask ak au af at_)
                generalize tAsk U F T ak au af at_ = r at *
                obtain ⟨T1, code⟩ := r
                clear p0 hlen
                go_wp2_with fail
                with_reducible refine HAk.out.mono ?_
                rintro e w7 ⟨rfl, own', v', hT7, ho7, hq7⟩
                have Hb7 := Lib.hid (hq7.to_below (fun g hg => HT.out.low g hg) Hbr.out Hbr.out.size)
                have HT7 := Lib.hid hT7
                clear hT7 ho7 hq7
                go_wp2_with fail
                refine ⟨⟨i + 1, T1, v', own', ?ya, ?yb, ?yc, HT7, hlen'.out, Hb7⟩, ?ye⟩
                case ya => omega
                case yb => omega
                case yc => go_num
                case ye => simp [intOf]; omega
              · have hl8 := hlen.ho
                have HInv := Lib.hid hlen.inv.inv
                have HTl := Lib.hid HT.out
                have hbz := Hbr.out
                have hTz := HT.out
                clear hlen HT Hbr
                have hiz : i < z := by omega
                have d45 : decide ((i : Int) < 45) = false := by simp; omega
                clear hlt
                go_wp2_with fail
                go_loopw [21] (fun i wx => ∃ (f : Nat), f ≤ n ∧ i = .int .i64 f ∧ Hid (TrailAt w.heap.size own2 wx b2 p2 v2 A2 U F T) ∧ Hid (Below w.heap.size w wx)) (fun i _ => n - (intOf i).toNat)
                case atStart => exact ⟨0, Nat.zero_le _, rfl, Lib.hid hTz, Lib.hid hbz⟩
                case round =>
                  clear hTz hbz HTl
                  obtain ⟨wu, rfl⟩ : ∃ wu : World, wu = wr := ⟨_, rfl⟩
                  obtain ⟨f, hf, rfl, HTx, Hbx⟩ := hrel
                  by_cases hfn : f < n
                  · have HS := THolds_any HTx.out (by omega) (f : Int)
                    rw [told_here (by omega)] at HS
                    have HS := Lib.hid HS
                    have hx := HInv.out.ho_lt f
                    have HBt := Lib.hid (fun (g : Nat) (bb : Bool) (V : World) (hg : g < 2 ^ 62) (hh : (row T.S.Ho f).testBit g = bb) => Bit_is (row T.S.Ho f) g bb V (by omega) hg hh)
                    have Hself := Lib.hid (HInv.out.self f (by omega))
                    have Hown := Lib.hid (fun g => HInv.out.own f g)
                    generalize row T.S.Ho f = x at *
                    have d1 : decide ((x : Int) < 0) = false := by simp
                    have d2 : decide ((x : Int) > 255) = false := by simp; omega
                    have Hb1 := Lib.hid (fun V => HBt.out f true V (by omega) Hself.out)
                    go_wp2_with fail
                    with_reducible refine HS.out.mono ?_
                    rintro e w8 ⟨rfl, rfl⟩
                    go_wp2_with fail
                    with_reducible refine (Hb1.out _).mono ?_
                    rintro e w8 ⟨rfl, rfl⟩
                    go_wp2_with fail
                    go_loopw [23] (fun i wx => ∃ (g : Nat), g ≤ n ∧ i = .int .i64 g ∧ Hid (TrailAt w.heap.size own2 wx b2 p2 v2 A2 U F T) ∧ Hid (Below w.heap.size w wx)) (fun i _ => n - (intOf i).toNat)
                    case atStart => exact ⟨0, Nat.zero_le _, rfl, HTx, Hbx⟩
                    case round =>
                      clear HTx Hbx HS Hb1
                      obtain ⟨wg, rfl⟩ : ∃ wg : World, wg = wr := ⟨_, rfl⟩
                      obtain ⟨g, hg, rfl, HTg, Hbg⟩ := hrel
                      by_cases hgn : g < n
                      · obtain ⟨fb, fo, rfl, fc⟩ := iF (by intro e; simp [e] at hF; omega)
                        have fp := fc (f * 2) _ (get_gI (by omega))
                        have flt : fb < w.heap.size := block_lt fp
                        have lf := HlF.out f hfn
                        have lg := HlF.out g hgn
                        obtain ⟨sf, hsf⟩ := Int.eq_ofNat_of_zero_le lf.2.2.1
                        obtain ⟨sg, hsg⟩ := Int.eq_ofNat_of_zero_le lg.2.2.1
                        have t0 := cell_regrown ((Hbg.out.cell (p := ⟨fb, _, none⟩) flt).trans fp)
                        have t1 := cell_regrown ((Hbg.out.cell (p := ⟨fb, fo + f * 2 + 1, none⟩) flt).trans (fc (f * 2 + 1) _ (get_gI (by omega))))
                        have t2 := cell_regrown ((Hbg.out.cell (p := ⟨fb, fo + g * 2, none⟩) flt).trans (fc (g * 2) _ (get_gI (by omega))))
                        have t3 := cell_regrown ((Hbg.out.cell (p := ⟨fb, fo + g * 2 + 1, none⟩) flt).trans (fc (g * 2 + 1) _ (get_gI (by omega))))
                        have hown := Hown.out g
                        unfold belowL at hown
                        rw [hsf] at t1 lf hown
                        rw [hsg] at t3 lg hown
                        have Q1 := fun (d : Nat) (os : Array Obj) => Calls.regrown_of (Below_ok (gI F (g * 2)) (gI F (f * 2)) sg sf (Sort.grow (redrawn wg d) os) lg lf)
                        rw [Int.toNat_natCast, Int.toNat_natCast] at hown
                        obtain ⟨bb, hbb⟩ : ∃ bb, (decide (gI F (g * 2) ≤ gI F (f * 2)) && within sg sf) = bb := ⟨_, rfl⟩
                        rw [hbb] at hown
                        simp only [hbb] at Q1
                        replace Q1 := Lib.hid Q1
                        clear fp fc lf lg hsf hsg hbb
                        generalize gI F (g * 2) = u0 at *
                        generalize gI F (f * 2) = u2 at *
                        go_wp2_with fail
                        refine wp_region_quiet_below (by kernel_rfl) (by kernel_rfl) ?_
                        repeat (go_big_quiet_step (with_reducible exact Q1.out _ _))
                        refine wpQuiet_nil ?_
                        rintro _ ⟨pq, rfl⟩
                        have hbq := below_regrown wg pq.d pq.os
                        have Hb9 := Lib.hid (Hbg.out.trans (hbq.mono Hbg.out.size))
                        have HT9 := Lib.hid (HTg.out.below hbq)
                        generalize Sort.grow (redrawn wg pq.d) pq.os = w9 at *
                        clear t0 t1 t2 t3 Q1 HTg Hbg hbq
                        cases hbt : x.testBit g with
                        | false =>
                          have Hbb := Lib.hid (fun V => HBt.out g false V (by omega) hbt)
                          clear hown hbt
                          go_wp2_with fail
                          with_reducible refine (Hbb.out _).mono ?_
                          rintro e w10 ⟨rfl, rfl⟩
                          go_wp2_with fail
                          exact ⟨⟨g + 1, by omega, by go_num, HT9, Hb9⟩, by simp [intOf]; omega⟩
                        | true =>
                          obtain rfl : bb = true := hown hbt
                          have Hbb := Lib.hid (fun V => HBt.out g true V (by omega) hbt)
                          clear hown hbt
                          go_wp2_with fail
                          with_reducible refine (Hbb.out _).mono ?_
                          rintro e w10 ⟨rfl, rfl⟩
                          go_wp2_with fail
                          exact ⟨⟨g + 1, by omega, by go_num, HT9, Hb9⟩, by simp [intOf]; omega⟩
                      · have dg : decide ((g : Int) < (n : Int)) = false := by simp; omega
                        go_wp2_with fail
                        exact ⟨⟨f + 1, by omega, by go_num, HTg, Hbg⟩, by simp [intOf]; omega⟩
                  · have df : decide ((f : Int) < (n : Int)) = false := by simp; omega
                    go_wp2_with fail
                    go_ret
                    exact ⟨rfl, Hbx.out⟩
          · exact absurd rfl hne
        · have hj : str.size ≤ str.size := Nat.le_refl _
          have n0 : (0 : Int) ≤ (str.size : Int) := by omega
          have n1 : (str.size : Int) ≤ (str.size : Int) := by omega
          obtain ⟨T', c', hl', CO⟩ := HC.out str.size hj
          rw [show str.extract 0 str.size = str from by apply ba_ext; simp] at CO
          have CO := Lib.hid CO
          clear HC
          by_cases h0 : k < 0
          · have d0 : decide (k < 0) = true := by simp; omega
            clear hin
            go_wp2_with fail
            with_reducible refine CO.out.mono ?_
            rintro e w6 ⟨hpost, hb6⟩
            have Hb06 := Lib.hid (hb05.trans (hb6.mono hb05.size))
            rcases hpost with ⟨_, b2, p2, v2, A2, own2, rfl, hO⟩ | ⟨hne, _⟩
            · have HO2 := Lib.hid (hO.lower (lo' := w.heap.size) hb05.size)
              clear CO hO hb6
              dsimp only
              go_wp2_with fail
              go_loopw [20] (fun i wr => ∃ (k : Nat) (T : TS) (v2 : Value) (own2 : Nat → Prop), k ≤ z ∧ k ≤ 45 ∧ i = .int .i64 k ∧ Hid (TrailAt w.heap.size own2 wr b2 p2 v2 A2 U F T) ∧ TLen m n U F T ∧ Hid (Below w.heap.size w wr)) (fun i _ => z - (intOf i).toNat)
              case atStart => exact ⟨0, T', v2, own2, Nat.zero_le _, Nat.zero_le _, rfl, HO2, hl', Hb06⟩
              case round =>
                clear HO2 Hb06 hl'
                obtain ⟨i, T, v2, own2, hi, hi4, rfl, HT, hlen, Hbr⟩ := hrel
                by_cases hlt : i < z ∧ i < 45
                · obtain ⟨hiz, hi45⟩ := hlt
                  obtain ⟨kb, off, rfl, hc⟩ := hM (by intro e; simp [e] at hz; omega)
                  have p0 := hc (i * 4) _ (get_gI (by omega))
                  have hbw : kb < w.heap.size := block_lt p0
                  have q0 := (Hbr.out.cell (p := ⟨kb, _, none⟩) hbw).trans p0
                  have q1 : wr.cell? ⟨kb, off + i * 4 + 1, none⟩ = some (.int .i64 (gI M (i * 4 + 1))) := (Hbr.out.cell (p := ⟨kb, _, none⟩) hbw).trans (hc (i * 4 + 1) _ (get_gI (by omega)))
                  have q2 : wr.cell? ⟨kb, off + i * 4 + 2, none⟩ = some (.int .i64 (gI M (i * 4 + 2))) := (Hbr.out.cell (p := ⟨kb, _, none⟩) hbw).trans (hc (i * 4 + 2) _ (get_gI (by omega)))
                  have q3 : wr.cell? ⟨kb, off + i * 4 + 3, none⟩ = some (.int .i64 (gI M (i * 4 + 3))) := (Hbr.out.cell (p := ⟨kb, _, none⟩) hbw).trans (hc (i * 4 + 3) _ (get_gI (by omega)))
                  have d45 : decide ((i : Int) < 45) = true := by simp; omega
                  generalize gI M (i * 4) = ak at *
                  generalize gI M (i * 4 + 1) = au at *
                  generalize gI M (i * 4 + 2) = af at *
                  generalize gI M (i * 4 + 3) = at_ at *
                  have HAk := Lib.hid (TAsk_len hL hG Hbr.out HT.out hlen ak au af at_)
                  have hlen' := Lib.hid (hlen.ask ak au af at_)
                  generalize tAsk U F T ak au af at_ = r at *
                  obtain ⟨T1, code⟩ := r
                  clear p0 hlen
                  go_wp2_with fail
                  with_reducible refine HAk.out.mono ?_
                  rintro e w7 ⟨rfl, own', v', hT7, ho7, hq7⟩
                  have Hb7 := Lib.hid (hq7.to_below (fun g hg => HT.out.low g hg) Hbr.out Hbr.out.size)
                  have HT7 := Lib.hid hT7
                  clear hT7 ho7 hq7
                  go_wp2_with fail
                  refine ⟨⟨i + 1, T1, v', own', ?ya, ?yb, ?yc, HT7, hlen'.out, Hb7⟩, ?ye⟩
                  case ya => omega
                  case yb => omega
                  case yc => go_num
                  case ye => simp [intOf]; omega
                · have hl8 := hlen.ho
                  have HInv := Lib.hid hlen.inv.inv
                  have HTl := Lib.hid HT.out
                  have hbz := Hbr.out
                  have hTz := HT.out
                  clear hlen HT Hbr
                  have hiz : i < z := by omega
                  have d45 : decide ((i : Int) < 45) = false := by simp; omega
                  clear hlt
                  go_wp2_with fail
                  go_loopw [21] (fun i wx => ∃ (f : Nat), f ≤ n ∧ i = .int .i64 f ∧ Hid (TrailAt w.heap.size own2 wx b2 p2 v2 A2 U F T) ∧ Hid (Below w.heap.size w wx)) (fun i _ => n - (intOf i).toNat)
                  case atStart => exact ⟨0, Nat.zero_le _, rfl, Lib.hid hTz, Lib.hid hbz⟩
                  case round =>
                    clear hTz hbz HTl
                    obtain ⟨wu, rfl⟩ : ∃ wu : World, wu = wr := ⟨_, rfl⟩
                    obtain ⟨f, hf, rfl, HTx, Hbx⟩ := hrel
                    by_cases hfn : f < n
                    · have HS := THolds_any HTx.out (by omega) (f : Int)
                      rw [told_here (by omega)] at HS
                      have HS := Lib.hid HS
                      have hx := HInv.out.ho_lt f
                      have HBt := Lib.hid (fun (g : Nat) (bb : Bool) (V : World) (hg : g < 2 ^ 62) (hh : (row T.S.Ho f).testBit g = bb) => Bit_is (row T.S.Ho f) g bb V (by omega) hg hh)
                      have Hself := Lib.hid (HInv.out.self f (by omega))
                      have Hown := Lib.hid (fun g => HInv.out.own f g)
                      generalize row T.S.Ho f = x at *
                      have d1 : decide ((x : Int) < 0) = false := by simp
                      have d2 : decide ((x : Int) > 255) = false := by simp; omega
                      have Hb1 := Lib.hid (fun V => HBt.out f true V (by omega) Hself.out)
                      go_wp2_with fail
                      with_reducible refine HS.out.mono ?_
                      rintro e w8 ⟨rfl, rfl⟩
                      go_wp2_with fail
                      with_reducible refine (Hb1.out _).mono ?_
                      rintro e w8 ⟨rfl, rfl⟩
                      go_wp2_with fail
                      go_loopw [23] (fun i wx => ∃ (g : Nat), g ≤ n ∧ i = .int .i64 g ∧ Hid (TrailAt w.heap.size own2 wx b2 p2 v2 A2 U F T) ∧ Hid (Below w.heap.size w wx)) (fun i _ => n - (intOf i).toNat)
                      case atStart => exact ⟨0, Nat.zero_le _, rfl, HTx, Hbx⟩
                      case round =>
                        clear HTx Hbx HS Hb1
                        obtain ⟨wg, rfl⟩ : ∃ wg : World, wg = wr := ⟨_, rfl⟩
                        obtain ⟨g, hg, rfl, HTg, Hbg⟩ := hrel
                        by_cases hgn : g < n
                        · obtain ⟨fb, fo, rfl, fc⟩ := iF (by intro e; simp [e] at hF; omega)
                          have fp := fc (f * 2) _ (get_gI (by omega))
                          have flt : fb < w.heap.size := block_lt fp
                          have lf := HlF.out f hfn
                          have lg := HlF.out g hgn
                          obtain ⟨sf, hsf⟩ := Int.eq_ofNat_of_zero_le lf.2.2.1
                          obtain ⟨sg, hsg⟩ := Int.eq_ofNat_of_zero_le lg.2.2.1
                          have t0 := cell_regrown ((Hbg.out.cell (p := ⟨fb, _, none⟩) flt).trans fp)
                          have t1 := cell_regrown ((Hbg.out.cell (p := ⟨fb, fo + f * 2 + 1, none⟩) flt).trans (fc (f * 2 + 1) _ (get_gI (by omega))))
                          have t2 := cell_regrown ((Hbg.out.cell (p := ⟨fb, fo + g * 2, none⟩) flt).trans (fc (g * 2) _ (get_gI (by omega))))
                          have t3 := cell_regrown ((Hbg.out.cell (p := ⟨fb, fo + g * 2 + 1, none⟩) flt).trans (fc (g * 2 + 1) _ (get_gI (by omega))))
                          have hown := Hown.out g
                          unfold belowL at hown
                          rw [hsf] at t1 lf hown
                          rw [hsg] at t3 lg hown
                          have Q1 := fun (d : Nat) (os : Array Obj) => Calls.regrown_of (Below_ok (gI F (g * 2)) (gI F (f * 2)) sg sf (Sort.grow (redrawn wg d) os) lg lf)
                          rw [Int.toNat_natCast, Int.toNat_natCast] at hown
                          obtain ⟨bb, hbb⟩ : ∃ bb, (decide (gI F (g * 2) ≤ gI F (f * 2)) && within sg sf) = bb := ⟨_, rfl⟩
                          rw [hbb] at hown
                          simp only [hbb] at Q1
                          replace Q1 := Lib.hid Q1
                          clear fp fc lf lg hsf hsg hbb
                          generalize gI F (g * 2) = u0 at *
                          generalize gI F (f * 2) = u2 at *
                          go_wp2_with fail
                          refine wp_region_quiet_below (by kernel_rfl) (by kernel_rfl) ?_
                          repeat (go_big_quiet_step (with_reducible exact Q1.out _ _))
                          refine wpQuiet_nil ?_
                          rintro _ ⟨pq, rfl⟩
                          have hbq := below_regrown wg pq.d pq.os
                          have Hb9 := Lib.hid (Hbg.out.trans (hbq.mono Hbg.out.size))
                          have HT9 := Lib.hid (HTg.out.below hbq)
                          generalize Sort.grow (redrawn wg pq.d) pq.os = w9 at *
                          clear t0 t1 t2 t3 Q1 HTg Hbg hbq
                          cases hbt : x.testBit g with
                          | false =>
                            have Hbb := Lib.hid (fun V => HBt.out g false V (by omega) hbt)
                            clear hown hbt
                            go_wp2_with fail
                            with_reducible refine (Hbb.out _).mono ?_
                            rintro e w10 ⟨rfl, rfl⟩
                            go_wp2_with fail
                            exact ⟨⟨g + 1, by omega, by go_num, HT9, Hb9⟩, by simp [intOf]; omega⟩
                          | true =>
                            obtain rfl : bb = true := hown hbt
                            have Hbb := Lib.hid (fun V => HBt.out g true V (by omega) hbt)
                            clear hown hbt
                            go_wp2_with fail
                            with_reducible refine (Hbb.out _).mono ?_
                            rintro e w10 ⟨rfl, rfl⟩
                            go_wp2_with fail
                            exact ⟨⟨g + 1, by omega, by go_num, HT9, Hb9⟩, by simp [intOf]; omega⟩
                        · have dg : decide ((g : Int) < (n : Int)) = false := by simp; omega
                          go_wp2_with fail
                          exact ⟨⟨f + 1, by omega, by go_num, HTg, Hbg⟩, by simp [intOf]; omega⟩
                    · have df : decide ((f : Int) < (n : Int)) = false := by simp; omega
                      go_wp2_with fail
                      go_ret
                      exact ⟨rfl, Hbx.out⟩
            · exact absurd rfl hne
          · have d0 : decide (k < 0) = false := by simp; omega
            have d1 : decide (k > (str.size : Int)) = true := by simp; omega
            clear hin
            go_wp2_with fail
            with_reducible refine CO.out.mono ?_
            rintro e w6 ⟨hpost, hb6⟩
            have Hb06 := Lib.hid (hb05.trans (hb6.mono hb05.size))
            rcases hpost with ⟨_, b2, p2, v2, A2, own2, rfl, hO⟩ | ⟨hne, _⟩
            · have HO2 := Lib.hid (hO.lower (lo' := w.heap.size) hb05.size)
              clear CO hO hb6
              dsimp only
              go_wp2_with fail
              go_loopw [20] (fun i wr => ∃ (k : Nat) (T : TS) (v2 : Value) (own2 : Nat → Prop), k ≤ z ∧ k ≤ 45 ∧ i = .int .i64 k ∧ Hid (TrailAt w.heap.size own2 wr b2 p2 v2 A2 U F T) ∧ TLen m n U F T ∧ Hid (Below w.heap.size w wr)) (fun i _ => z - (intOf i).toNat)
              case atStart => exact ⟨0, T', v2, own2, Nat.zero_le _, Nat.zero_le _, rfl, HO2, hl', Hb06⟩
              case round =>
                clear HO2 Hb06 hl'
                obtain ⟨i, T, v2, own2, hi, hi4, rfl, HT, hlen, Hbr⟩ := hrel
                by_cases hlt : i < z ∧ i < 45
                · obtain ⟨hiz, hi45⟩ := hlt
                  obtain ⟨kb, off, rfl, hc⟩ := hM (by intro e; simp [e] at hz; omega)
                  have p0 := hc (i * 4) _ (get_gI (by omega))
                  have hbw : kb < w.heap.size := block_lt p0
                  have q0 := (Hbr.out.cell (p := ⟨kb, _, none⟩) hbw).trans p0
                  have q1 : wr.cell? ⟨kb, off + i * 4 + 1, none⟩ = some (.int .i64 (gI M (i * 4 + 1))) := (Hbr.out.cell (p := ⟨kb, _, none⟩) hbw).trans (hc (i * 4 + 1) _ (get_gI (by omega)))
                  have q2 : wr.cell? ⟨kb, off + i * 4 + 2, none⟩ = some (.int .i64 (gI M (i * 4 + 2))) := (Hbr.out.cell (p := ⟨kb, _, none⟩) hbw).trans (hc (i * 4 + 2) _ (get_gI (by omega)))
                  have q3 : wr.cell? ⟨kb, off + i * 4 + 3, none⟩ = some (.int .i64 (gI M (i * 4 + 3))) := (Hbr.out.cell (p := ⟨kb, _, none⟩) hbw).trans (hc (i * 4 + 3) _ (get_gI (by omega)))
                  have d45 : decide ((i : Int) < 45) = true := by simp; omega
                  generalize gI M (i * 4) = ak at *
                  generalize gI M (i * 4 + 1) = au at *
                  generalize gI M (i * 4 + 2) = af at *
                  generalize gI M (i * 4 + 3) = at_ at *
                  have HAk := Lib.hid (TAsk_len hL hG Hbr.out HT.out hlen ak au af at_)
                  have hlen' := Lib.hid (hlen.ask ak au af at_)
                  generalize tAsk U F T ak au af at_ = r at *
                  obtain ⟨T1, code⟩ := r
                  clear p0 hlen
                  go_wp2_with fail
                  with_reducible refine HAk.out.mono ?_
                  rintro e w7 ⟨rfl, own', v', hT7, ho7, hq7⟩
                  have Hb7 := Lib.hid (hq7.to_below (fun g hg => HT.out.low g hg) Hbr.out Hbr.out.size)
                  have HT7 := Lib.hid hT7
                  clear hT7 ho7 hq7
                  go_wp2_with fail
                  refine ⟨⟨i + 1, T1, v', own', ?ya, ?yb, ?yc, HT7, hlen'.out, Hb7⟩, ?ye⟩
                  case ya => omega
                  case yb => omega
                  case yc => go_num
                  case ye => simp [intOf]; omega
                · have hl8 := hlen.ho
                  have HInv := Lib.hid hlen.inv.inv
                  have HTl := Lib.hid HT.out
                  have hbz := Hbr.out
                  have hTz := HT.out
                  clear hlen HT Hbr
                  have hiz : i < z := by omega
                  have d45 : decide ((i : Int) < 45) = false := by simp; omega
                  clear hlt
                  go_wp2_with fail
                  go_loopw [21] (fun i wx => ∃ (f : Nat), f ≤ n ∧ i = .int .i64 f ∧ Hid (TrailAt w.heap.size own2 wx b2 p2 v2 A2 U F T) ∧ Hid (Below w.heap.size w wx)) (fun i _ => n - (intOf i).toNat)
                  case atStart => exact ⟨0, Nat.zero_le _, rfl, Lib.hid hTz, Lib.hid hbz⟩
                  case round =>
                    clear hTz hbz HTl
                    obtain ⟨wu, rfl⟩ : ∃ wu : World, wu = wr := ⟨_, rfl⟩
                    obtain ⟨f, hf, rfl, HTx, Hbx⟩ := hrel
                    by_cases hfn : f < n
                    · have HS := THolds_any HTx.out (by omega) (f : Int)
                      rw [told_here (by omega)] at HS
                      have HS := Lib.hid HS
                      have hx := HInv.out.ho_lt f
                      have HBt := Lib.hid (fun (g : Nat) (bb : Bool) (V : World) (hg : g < 2 ^ 62) (hh : (row T.S.Ho f).testBit g = bb) => Bit_is (row T.S.Ho f) g bb V (by omega) hg hh)
                      have Hself := Lib.hid (HInv.out.self f (by omega))
                      have Hown := Lib.hid (fun g => HInv.out.own f g)
                      generalize row T.S.Ho f = x at *
                      have d1 : decide ((x : Int) < 0) = false := by simp
                      have d2 : decide ((x : Int) > 255) = false := by simp; omega
                      have Hb1 := Lib.hid (fun V => HBt.out f true V (by omega) Hself.out)
                      go_wp2_with fail
                      with_reducible refine HS.out.mono ?_
                      rintro e w8 ⟨rfl, rfl⟩
                      go_wp2_with fail
                      with_reducible refine (Hb1.out _).mono ?_
                      rintro e w8 ⟨rfl, rfl⟩
                      go_wp2_with fail
                      go_loopw [23] (fun i wx => ∃ (g : Nat), g ≤ n ∧ i = .int .i64 g ∧ Hid (TrailAt w.heap.size own2 wx b2 p2 v2 A2 U F T) ∧ Hid (Below w.heap.size w wx)) (fun i _ => n - (intOf i).toNat)
                      case atStart => exact ⟨0, Nat.zero_le _, rfl, HTx, Hbx⟩
                      case round =>
                        clear HTx Hbx HS Hb1
                        obtain ⟨wg, rfl⟩ : ∃ wg : World, wg = wr := ⟨_, rfl⟩
                        obtain ⟨g, hg, rfl, HTg, Hbg⟩ := hrel
                        by_cases hgn : g < n
                        · obtain ⟨fb, fo, rfl, fc⟩ := iF (by intro e; simp [e] at hF; omega)
                          have fp := fc (f * 2) _ (get_gI (by omega))
                          have flt : fb < w.heap.size := block_lt fp
                          have lf := HlF.out f hfn
                          have lg := HlF.out g hgn
                          obtain ⟨sf, hsf⟩ := Int.eq_ofNat_of_zero_le lf.2.2.1
                          obtain ⟨sg, hsg⟩ := Int.eq_ofNat_of_zero_le lg.2.2.1
                          have t0 := cell_regrown ((Hbg.out.cell (p := ⟨fb, _, none⟩) flt).trans fp)
                          have t1 := cell_regrown ((Hbg.out.cell (p := ⟨fb, fo + f * 2 + 1, none⟩) flt).trans (fc (f * 2 + 1) _ (get_gI (by omega))))
                          have t2 := cell_regrown ((Hbg.out.cell (p := ⟨fb, fo + g * 2, none⟩) flt).trans (fc (g * 2) _ (get_gI (by omega))))
                          have t3 := cell_regrown ((Hbg.out.cell (p := ⟨fb, fo + g * 2 + 1, none⟩) flt).trans (fc (g * 2 + 1) _ (get_gI (by omega))))
                          have hown := Hown.out g
                          unfold belowL at hown
                          rw [hsf] at t1 lf hown
                          rw [hsg] at t3 lg hown
                          have Q1 := fun (d : Nat) (os : Array Obj) => Calls.regrown_of (Below_ok (gI F (g * 2)) (gI F (f * 2)) sg sf (Sort.grow (redrawn wg d) os) lg lf)
                          rw [Int.toNat_natCast, Int.toNat_natCast] at hown
                          obtain ⟨bb, hbb⟩ : ∃ bb, (decide (gI F (g * 2) ≤ gI F (f * 2)) && within sg sf) = bb := ⟨_, rfl⟩
                          rw [hbb] at hown
                          simp only [hbb] at Q1
                          replace Q1 := Lib.hid Q1
                          clear fp fc lf lg hsf hsg hbb
                          generalize gI F (g * 2) = u0 at *
                          generalize gI F (f * 2) = u2 at *
                          go_wp2_with fail
                          refine wp_region_quiet_below (by kernel_rfl) (by kernel_rfl) ?_
                          repeat (go_big_quiet_step (with_reducible exact Q1.out _ _))
                          refine wpQuiet_nil ?_
                          rintro _ ⟨pq, rfl⟩
                          have hbq := below_regrown wg pq.d pq.os
                          have Hb9 := Lib.hid (Hbg.out.trans (hbq.mono Hbg.out.size))
                          have HT9 := Lib.hid (HTg.out.below hbq)
                          generalize Sort.grow (redrawn wg pq.d) pq.os = w9 at *
                          clear t0 t1 t2 t3 Q1 HTg Hbg hbq
                          cases hbt : x.testBit g with
                          | false =>
                            have Hbb := Lib.hid (fun V => HBt.out g false V (by omega) hbt)
                            clear hown hbt
                            go_wp2_with fail
                            with_reducible refine (Hbb.out _).mono ?_
                            rintro e w10 ⟨rfl, rfl⟩
                            go_wp2_with fail
                            exact ⟨⟨g + 1, by omega, by go_num, HT9, Hb9⟩, by simp [intOf]; omega⟩
                          | true =>
                            obtain rfl : bb = true := hown hbt
                            have Hbb := Lib.hid (fun V => HBt.out g true V (by omega) hbt)
                            clear hown hbt
                            go_wp2_with fail
                            with_reducible refine (Hbb.out _).mono ?_
                            rintro e w10 ⟨rfl, rfl⟩
                            go_wp2_with fail
                            exact ⟨⟨g + 1, by omega, by go_num, HT9, Hb9⟩, by simp [intOf]; omega⟩
                        · have dg : decide ((g : Int) < (n : Int)) = false := by simp; omega
                          go_wp2_with fail
                          exact ⟨⟨f + 1, by omega, by go_num, HTg, Hbg⟩, by simp [intOf]; omega⟩
                    · have df : decide ((f : Int) < (n : Int)) = false := by simp; omega
                      go_wp2_with fail
                      go_ret
                      exact ⟨rfl, Hbx.out⟩
            · exact absurd rfl hne
  · obtain ⟨kk, hkk, hne⟩ : ∃ kk, kk = (if labsCode U m 8 ≠ 0 then labsCode U m 8 else labsCode F n 8) ∧ kk ≠ 0 := ⟨_, rfl, by split <;> simp_all⟩
    have CT := Lib.hid (TNew_bad U F m n hU hF Ua Fa Uc Fc w3 (iU.below hb03) (iF.below hb03) (by omega) (by omega) kk hkk hne)
    clear h12 hkk hne
    go_wp2_with fail
    with_reducible refine CT.out.mono ?_
    rintro e w4 ⟨rfl, hb4⟩
    go_wp2_with fail
    go_ret
    exact ⟨rfl, hb03.trans (hb4.mono hb03.size)⟩
end Go.Proofs.YtncokblinocgaaaGreatDoor
