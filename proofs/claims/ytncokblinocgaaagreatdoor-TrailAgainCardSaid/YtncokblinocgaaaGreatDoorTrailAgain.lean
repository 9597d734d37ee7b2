/-
  The walk of TrailAgain.
-/
import Derived.Test.YtncokblinocgaaaGreatDoorTrX
import Derived.Test.YtncokblinocgaaaGreatDoorDoorA
namespace Go.Proofs.YtncokblinocgaaaGreatDoor
open Go.RowKit
set_option maxRecDepth 100000
set_option linter.unusedVariables false

set_option maxHeartbeats 8000000 in
theorem TrailAgain_walk (m : Nat) (U : List Int) (Ua : Option Addr) (Uc : Nat) {W : World} (hU : U.length = m * 2) (iU : IntsAt W Ua U) (sU : m * 2 < 2 ^ 47) (bU : ∀ x ∈ U, I64 x) (n : Nat) (F : List Int) (Fa : Option Addr) (Fc : Nat) (hF : F.length = n * 2) (iF : IntsAt W Fa F) (sF : n * 2 < 2 ^ 47) (bF : ∀ x ∈ F, I64 x)
    (q : Nat) (K : List Int) (Ka : Option Addr) (Kc : Nat) (hn : K.length = q * 4) (hK : IntsAt W Ka K) (sK : q * 4 < 2 ^ 47) (bK : ∀ x ∈ K, I64 x)
    (z : Nat) (M : List Int) (Ma : Option Addr) (Mc : Nat) (hz : M.length = z * 4) (hM : IntsAt W Ma M) (sM : z * 4 < 2 ^ 47) (bM : ∀ x ∈ M, I64 x) (w : World) (hw : w = W) (hG : Glob W) :
    Calls Tryz.prog 7 #[.slice Ua m Uc, .slice Fa n Fc, .slice Ka q Kc, .slice Ma z Mc] w fun e w' => e = .returned (.bool true) ∧ Below W.heap.size W w' := by
  subst hw
  have H0 := Lib.hid (trailFact_true w hG)
  by_cases h12 : labsCode U m 8 = 0 ∧ labsCode F n 8 = 0
  · have hL : LabsOk m n U F := ⟨h12.1, h12.2, hU, hF⟩
    have HT := Lib.hid (fun V (hV : Below w.heap.size w V) => Told_ok U F m n hL Ua Fa Uc Fc V (iU.below hV) (iF.below hV) q K Ka Kc hn (hK.below hV) (hG.next hV))
    have HO := Lib.hid (fun V (s : ByteArray) (hs : s.size < 4294967281) (hV : Below w.heap.size w V) => TOpen_ok U F m n hU hF Ua Fa Uc Fc s hs V (hG.next hV) (iU.below hV) (iF.below hV) h12.1 h12.2)
    have hlen : TLen m n U F (tRun U F K (tStart m n) (min q 60)) := (TLen.start hL.m8 hL.n8).run _
    have Hwhole := Lib.hid (open_whole (K := K) (TInv.start (U := U) (F := F) hL.m8 hL.n8) rfl rfl (min q 60))
    generalize tRun U F K (tStart m n) (min q 60) = T at *
    clear h12
    go_enter Tryz.func7, Tryz.ntmps7
    go_wp2_with fail
    with_reducible refine H0.out.mono ?_
    rintro e w1 ⟨rfl, hb1⟩
    go_wp2_with fail
    with_reducible refine (HT.out _ hb1).mono ?_
    rintro e w2 ⟨⟨b, p, v, A, own, rfl, hT⟩, hb2⟩
    have hb02 := hb1.trans (hb2.mono hb1.size)
    have CT := Lib.hid (TText_any hT)
    have hlowT := hT.low
    clear hT H0 HT
    go_wp2_with fail
    with_reducible refine CT.out.mono ?_
    rintro e w3 ⟨rfl, hT3, hq3⟩
    have hb03 := hq3.to_below (B := w.heap.size) (w0 := w) (fun k hk => Nat.le_trans hb1.size (hlowT k hk)) hb02 hb02.size
    have hloglen := hlen.inv.log
    have hmany := hlen.inv.many
    have CO := HO.out w3 ⟨T.log.toArray⟩ (by rw [ba_size, ba_of]; omega) hb03
    rw [ba_of, Hwhole.out] at CO
    have CO := Lib.hid CO
    clear CT HO Hwhole
    generalize (⟨T.log.toArray⟩ : ByteArray) = str at *
    go_wp2_with fail
    with_reducible refine CO.out.mono ?_
    rintro e w4 ⟨hpost, hb4⟩
    rcases hpost with ⟨_, b2, p2, v2, A2, own2, rfl, hO⟩ | ⟨hne, _⟩
    · have hb04 := hb03.trans (hb4.mono hb03.size)
      have hTwo : Two w.heap.size w4 b2 p2 v2 A2 own2 b p v A own U F T T :=
        ⟨hO.lower hb03.size, (hT3.below hb4).lower hb1.size, fun k h2 h1 => by have := hO.low k h2; have := hT3.lt k h1; omega⟩
      have CAl := Lib.hid (Alike_any hTwo hlen hL.m8 hL.n8)
      have hlow2 : ∀ k, own2 k ∨ own k → w.heap.size ≤ k := fun k hk => hk.elim (fun h => Nat.le_trans hb03.size (hO.low k h)) (fun h => Nat.le_trans hb1.size (hlowT k h))
      clear CO hO hT3 hTwo
      dsimp only
      go_wp2_with fail
      with_reducible refine CAl.out.mono ?_
      rintro e w5 ⟨rfl, hTwo, hq5⟩
      have hb05 := hq5.to_below (B := w.heap.size) (w0 := w) hlow2 hb04 hb04.size
      clear CAl hq5 hlow2 hq3 hlowT
      go_wp2_with fail
      go_loopw [15] (fun i wr => ∃ (k : Nat) (T' : TS) (v2 : Value) (own2 : Nat → Prop) (v : Value) (own : Nat → Prop), k ≤ z ∧ k ≤ 60 ∧ i = .int .i64 k ∧ Two w.heap.size wr b2 p2 v2 A2 own2 b p v A own U F T' T' ∧ TLen m n U F T' ∧ Below w.heap.size w wr) (fun i _ => z - (intOf i).toNat)
      case atStart => exact ⟨0, T, v2, own2, v, own, Nat.zero_le _, Nat.zero_le _, rfl, hTwo, hlen, hb05⟩
      case round =>
        clear hTwo hb05 hlen
        obtain ⟨k, T', v2, own2, v, own, hk, hk6, rfl, hTwo, hlen, hbr⟩ := hrel
        by_cases hlt : k < z ∧ k < 60
        · obtain ⟨hkn, hk60⟩ := hlt
          obtain ⟨bk, off, rfl, hc⟩ := hM (by intro e; simp [e] at hz; omega)
          have p0 := hc (k * 4) _ (get_gI (by omega))
          have hbw : bk < w.heap.size := block_lt p0
          have p1 : w.cell? ⟨bk, off + k * 4 + 1, none⟩ = some (.int .i64 (gI M (k * 4 + 1))) := hc (k * 4 + 1) _ (get_gI (by omega))
          have p2' : w.cell? ⟨bk, off + k * 4 + 2, none⟩ = some (.int .i64 (gI M (k * 4 + 2))) := hc (k * 4 + 2) _ (get_gI (by omega))
          have p3 : w.cell? ⟨bk, off + k * 4 + 3, none⟩ = some (.int .i64 (gI M (k * 4 + 3))) := hc (k * 4 + 3) _ (get_gI (by omega))
          have HP := Lib.hid (⟨p0, p1, p2', p3⟩ : _ ∧ _ ∧ _ ∧ _)
          have q0 := (hbr.cell (p := ⟨bk, _, none⟩) hbw).trans p0
          have q1 := (hbr.cell (p := ⟨bk, _, none⟩) hbw).trans p1
          have q2 := (hbr.cell (p := ⟨bk, _, none⟩) hbw).trans p2'
          have q3 := (hbr.cell (p := ⟨bk, _, none⟩) hbw).trans p3
          have d60 : decide ((k : Int) < 60) = true := by simp; omega
          clear p0 p1 p2' p3 hc
          generalize gI M (k * 4) = ak at *
          generalize gI M (k * 4 + 1) = au at *
          generalize gI M (k * 4 + 2) = af at *
          generalize gI M (k * 4 + 3) = at_ at *
          have HA := Lib.hid (TAsk_len hL hG hbr hTwo.b hlen ak au af at_)
          have HB := Lib.hid (fun V v own v2 own2 T'' (h : Two w.heap.size V b2 p2 v2 A2 own2 b p v A own U F T' T'') (hV : Below w.heap.size w V) => TAsk_len hL hG hV h.a hlen ak au af at_)
          have hlen' := hlen.ask ak au af at_
          generalize tAsk U F T' ak au af at_ = r at *
          obtain ⟨T1, code⟩ := r
          have HTwo := Lib.hid hTwo
          clear hTwo hlen
          go_wp2_with fail
          with_reducible refine HA.out.mono ?_
          rintro e w6 hq
          obtain ⟨rfl, ⟨v', own', hTwo6⟩, hq6⟩ := HTwo.out.askB hq
          have hb6 := hq6.to_below (B := w.heap.size) (w0 := w) (fun g hg => HTwo.out.b.low g hg) hbr hbr.size
          have q0 := (hb6.cell (p := ⟨bk, _, none⟩) hbw).trans HP.out.1
          have q1 := (hb6.cell (p := ⟨bk, _, none⟩) hbw).trans HP.out.2.1
          have q2 := (hb6.cell (p := ⟨bk, _, none⟩) hbw).trans HP.out.2.2.1
          have q3 := (hb6.cell (p := ⟨bk, _, none⟩) hbw).trans HP.out.2.2.2
          have HC := Lib.hid (HB.out _ _ _ _ _ _ hTwo6 hb6)
          have HTwo6 := Lib.hid hTwo6
          clear HA HB hTwo6 hq hq6
          go_wp2_with fail
          with_reducible refine HC.out.mono ?_
          rintro e w7 hq
          obtain ⟨rfl, ⟨v'', own'', hTwo7⟩, hq7⟩ := HTwo6.out.askA hq
          have hb7 := hq7.to_below (B := w.heap.size) (w0 := w) (fun g hg => HTwo6.out.a.low g hg) hb6 hb6.size
          have HTwo7 := Lib.hid hTwo7
          have Hlen := Lib.hid hlen'
          clear hq hq7 hTwo7 HC hlen' q0 q1 q2 q3 HP
          by_cases hc0 : code = 0
          · subst hc0
            rw [errVal_zero]
            go_wp2_with fail
            go_region
            go_wp2_with fail
            refine ⟨⟨k + 1, T1, v'', own'', v', own', ?ya, ?yb, ?yc, HTwo7.out.below ((Below.refl _ _).drew), Hlen.out, hb7.drew⟩, ?ye⟩
            case ya => omega
            case yb => omega
            case yc => go_num
            case ye => simp [intOf]; omega
          · rw [errVal_pos hc0]
            go_wp2_with fail
            go_region
            go_wp2_with fail
            refine ⟨⟨k + 1, T1, v'', own'', v', own', ?ya, ?yb, ?yc, HTwo7.out.below ((Below.refl _ _).drew), Hlen.out, hb7.drew⟩, ?ye⟩
            case ya => omega
            case yb => omega
            case yc => go_num
            case ye => simp [intOf]; omega
        · have CAl := Lib.hid (Alike_any hTwo hlen hL.m8 hL.n8)
          have hlow2 : ∀ k, own2 k ∨ own k → w.heap.size ≤ k := fun k hk => hk.elim (fun h => hTwo.a.low k h) (fun h => hTwo.b.low k h)
          clear hTwo hlen
          by_cases hkq : k < z
          · have d60 : decide ((k : Int) < 60) = false := by simp; omega
            clear hlt
            go_wp2_with fail
            with_reducible refine CAl.out.mono ?_
            rintro e w6 ⟨rfl, _, hq6⟩
            have hb6 := hq6.to_below (B := w.heap.size) (w0 := w) hlow2 hbr hbr.size
            clear hq6
            go_wp2_with fail
            go_ret
            exact ⟨rfl, hb6⟩
          · obtain rfl : k = z := by omega
            clear hlt hkq
            go_wp2_with fail
            with_reducible refine CAl.out.mono ?_
            rintro e w6 ⟨rfl, _, hq6⟩
            have hb6 := hq6.to_below (B := w.heap.size) (w0 := w) hlow2 hbr hbr.size
            clear hq6
            go_wp2_with fail
            go_ret
            exact ⟨rfl, hb6⟩
    · exact absurd rfl hne
  · have HT := Lib.hid (fun V (hV : Below w.heap.size w V) => Told_bad U F m n hU hF Ua Fa Uc Fc (.slice Ka q Kc) V (iU.below hV) (iF.below hV) (by omega) (by omega) h12)
    clear h12
    go_enter Tryz.func7, Tryz.ntmps7
    go_wp2_with fail
    with_reducible refine H0.out.mono ?_
    rintro e w1 ⟨rfl, hb1⟩
    go_wp2_with fail
    with_reducible refine (HT.out _ hb1).mono ?_
    rintro e w2 ⟨rfl, hb2⟩
    go_wp2_with fail
    go_ret
    exact ⟨rfl, hb1.trans (hb2.mono hb1.size)⟩
end Go.Proofs.YtncokblinocgaaaGreatDoor
