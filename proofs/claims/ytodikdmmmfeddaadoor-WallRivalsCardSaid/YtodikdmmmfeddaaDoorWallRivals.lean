/-
  The walk of WallRivals.
-/
import Derived.Test.YtodikdmmmfeddaaDoorWallHolds
import Derived.Test.YtodikdmmmfeddaaDoorWithin
namespace Go.Proofs.YtodikdmmmfeddaaDoor
open Go.RowKit
set_option maxRecDepth 100000
set_option linter.unusedVariables false

set_option maxHeartbeats 4000000 in
theorem WallRivals_walk (u : Int) {W : World} (hu : I64 u) (T : List Int) (Ta : Option Addr) (Tc : Nat) (hF : IntsAt W Ta T) (sT : T.length < 2 ^ 47) (bT : ∀ x ∈ T, I64 x)
    (n : Nat) (K : List Int) (Ka : Option Addr) (Kc : Nat) (hn : K.length = n * 4) (hK : IntsAt W Ka K) (sK : n * 4 < 2 ^ 47) (bK : ∀ x ∈ K, I64 x) (w : World) (hw : w = W) (hT : Tab W) (hE : ErrT W) :
    Calls Tryd.prog 6 #[.int .i64 u, .slice Ta T.length Tc, .slice Ka n Kc] w fun e w' => e = .returned (.bool true) ∧ Below W.heap.size W w' := by
  subst hw
  have H0 := Lib.hid (wallFact_true w hE hT)
  by_cases h12 : wCode u T = 0
  · obtain ⟨m, rfl, hm8, hlv⟩ := wCode_ok h12
    have HN := Lib.hid (fun V hU => WNew_ok m hm8 T Ta Tc V hU hlv)
    have hn8 := (levCode_ok hlv).1
    have hI0 := WInv.start hm8 hn8
    clear h12 hlv
    go_enter Tryd.func6, Tryd.ntmps6
    go_wp2_with (with_reducible refine H0.out.mono ?_; rintro e w1 ⟨rfl, hb1⟩)
    refine (HN.out _ (hF.below hb1)).mono ?_
    rintro e w2 ⟨⟨p, At, As, Ah, ct, cs, ch, rfl, h1⟩, hb2⟩
    clear HN H0
    have hs1 := hb1.size
    have hs2 := hb2.size
    generalize w1.heap.size = base at *
    have hb02 := hb1.trans (hb2.mono hs1)
    have hgb : 2 < base := Nat.lt_of_lt_of_le hT.lt hs1
    clear hb1
    go_wp2_with fail
    go_loopw [10] (fun i wr => ∃ (k : Nat) (S : WS), k ≤ n ∧ i = .int .i64 k ∧ WallAt wr base p T S At As Ah ct cs ch ∧ WInv T S ∧ S.Saw.length = m ∧ Below w.heap.size w wr ∧ base ≤ wr.heap.size) (fun i _ => n - (intOf i).toNat)
    case atStart => exact ⟨0, _, Nat.zero_le _, rfl, h1, hI0, by simp [wStart], hb02, hs2⟩
    case round =>
      obtain ⟨k, S, hk, rfl, hB, hI, hSl, hbr, hsr⟩ := hrel
      clear hI0 h1
      by_cases hlt : k < n ∧ k < 100
      · obtain ⟨hkn, hk100⟩ := hlt
        obtain ⟨b, off, rfl, hc⟩ := hK (by intro e; simp [e] at hn; omega)
        have p0 := hc (k * 4) _ (get_gI (by omega))
        have hbw : b < w.heap.size := block_lt p0
        have q0 := (hbr.cell (p := ⟨b, _, none⟩) hbw).trans p0
        have q1 : wr.cell? ⟨b, off + k * 4 + 1, none⟩ = some (.int .i64 (gI K (k * 4 + 1))) := (hbr.cell (p := ⟨b, _, none⟩) hbw).trans (hc (k * 4 + 1) _ (get_gI (by omega)))
        have q2 : wr.cell? ⟨b, off + k * 4 + 2, none⟩ = some (.int .i64 (gI K (k * 4 + 2))) := (hbr.cell (p := ⟨b, _, none⟩) hbw).trans (hc (k * 4 + 2) _ (get_gI (by omega)))
        have q3 : wr.cell? ⟨b, off + k * 4 + 3, none⟩ = some (.int .i64 (gI K (k * 4 + 3))) := (hbr.cell (p := ⟨b, _, none⟩) hbw).trans (hc (k * 4 + 3) _ (get_gI (by omega)))
        clear p0
        have d100 : decide ((k : Int) < 100) = true := by simp; omega
        generalize gI K (k * 4) = ak at *
        generalize gI K (k * 4 + 1) = au at *
        generalize gI K (k * 4 + 2) = af at *
        generalize gI K (k * 4 + 3) = at_ at *
        have HA := Lib.hid (WAsk_any hB (hT.next hbr) hI hsr hgb ak au af at_)
        have HI := Lib.hid (hI.ask ak au af)
        have HL := Lib.hid ((wAsk_lens (T := T) (S := S) ak au af).trans hSl)
        clear hI hB hSl
        generalize wAsk T S ak au af = r at *
        obtain ⟨S', code⟩ := r
        have HIs := Lib.hid (fun u => HI.out.saw_lt u)
        go_wp2_with (with_reducible refine HA.out.mono ?_; rintro e w3 ⟨rfl, hB3, hb3, _⟩)
        have hb03 := hbr.trans (hb3.mono hs1)
        have hs3 := Nat.le_trans hsr hb3.size
        clear q0 q1 q2 q3 hb3 HA
        go_loopw [11] (fun i wu => ∃ (j : Nat), j ≤ m ∧ i = .int .i64 j ∧ WallAt wu base p T S' At As Ah ct cs ch ∧ Below w.heap.size w wu ∧ base ≤ wu.heap.size) (fun i _ => m - (intOf i).toNat)
        case atStart => exact ⟨0, Nat.zero_le _, rfl, hB3, hb03, hs3⟩
        case round =>
          clear hB3 hb03 hs3
          obtain ⟨j, hj, rfl, hBu, hbu, hsu⟩ := hrel
          by_cases hjm : j < m
          · have hjl : j < S'.Saw.length := by rw [HL.out]; exact hjm
            have HS := Saw_any hBu (by rw [HL.out]; omega) (j : Int)
            rw [told_in hjl] at HS
            have HS := Lib.hid HS
            have hx := HIs.out j
            have HBt := Lib.hid (fun (g : Nat) (bb : Bool) (V : World) (hg : g < 2 ^ 62) (hh : (row S'.Saw j).testBit g = bb) => Bit_is (row S'.Saw j) g bb V (by omega) hg hh)
            have Hriv := Lib.hid (fun f g => HI.out.riv j f g)
            have Hag := Lib.hid (fun f (hf : f < T.length) (hb : (row S'.Saw j).testBit f = true) => wAsk_again HI.out hjl hf hb)
            generalize row S'.Saw j = x at *
            have d1 : decide ((x : Int) < 0) = false := by simp
            have d2 : decide ((x : Int) > 255) = false := by simp; omega
            have d8 : decide ((j : Int) < 8) = true := by simp; omega
            clear hjl
            go_wp2_with (go_at_call 25; with_reducible refine HS.out.mono ?_; rintro e w' ⟨rfl, rfl⟩)
            go_loopw [13] (fun i wf => ∃ (f : Nat), f ≤ T.length ∧ i = .int .i64 f ∧ WallAt wf base p T S' At As Ah ct cs ch ∧ Below w.heap.size w wf ∧ base ≤ wf.heap.size) (fun i _ => T.length - (intOf i).toNat)
            case atStart => exact ⟨0, Nat.zero_le _, rfl, hBu, hbu, hsu⟩
            case round =>
              clear hBu hbu hsu HS
              obtain ⟨wf, rfl⟩ : ∃ wf : World, wf = wr := ⟨_, rfl⟩
              obtain ⟨f, hf, rfl, hBf, hbf, hsf⟩ := hrel
              by_cases hfn : f < T.length
              · obtain ⟨tb, tf, rfl, htc⟩ := hF (by intro e; simp [e] at hfn)
                have tc0 := htc f _ (get_gI hfn)
                have htw := block_lt tc0
                have tc1 := (hbf.cell (p := ⟨tb, tf + f, none⟩) htw).trans tc0
                have Htc := Lib.hid (fun g (hg : g < T.length) => (hbf.cell (p := ⟨tb, tf + g, none⟩) htw).trans (htc g _ (get_gI hg)))
                clear htc tc0

                go_wp2_with fail
                go_loopw [14] (fun i wg => ∃ (g q : Nat), g ≤ f ∧ i = .int .i64 g ∧ wg = wf.drewN q) (fun i _ => f - (intOf i).toNat)
                case atStart => exact ⟨0, 0, Nat.zero_le _, rfl, rfl⟩
                case round =>
                  obtain ⟨g, q, hg, rfl, rfl⟩ := hrel
                  by_cases hgf : g < f
                  · have tg1 := Htc.out g (by omega)
                    have hgn : g < T.length := by omega
                    have Hr := Lib.hid (Hriv.out f g)
                    have hgT : ((g : Nat) : Int) < T.length := by omega
                    have hfT : ((f : Nat) : Int) < T.length := by omega
                    generalize hy1 : gI T f = yf at *
                    generalize hy2 : gI T g = yg at *
                    clear hy1 hy2
                    by_cases h0 : yf = 0
                    · have b0 : (yf != 0) = false := by simpa using h0
                      clear h0
                      go_wp2_with fail
                      go_quiet (fail)
                      go_wp2_with fail
                      exact ⟨⟨g + 1, _, by omega, by go_num, rfl⟩, by simp [intOf]; omega⟩
                    · have b0 : (yf != 0) = true := by simpa using h0
                      by_cases h1 : yf = yg
                      · have b1 : (yf == yg) = true := by simpa using h1
                        cases hbf' : x.testBit f with
                        | false =>
                          have Hb1 := Lib.hid (fun V => HBt.out f false V (by omega) hbf')
                          clear hbf' h0 h1
                          go_wp2_with fail
                          go_quiet (with_reducible exact quiet2 (Hb1.out _))
                          go_wp2_with fail
                          exact ⟨⟨g + 1, _, by omega, by go_num, rfl⟩, by simp [intOf]; omega⟩
                        | true =>
                          have Hb1 := Lib.hid (fun V => HBt.out f true V (by omega) hbf')
                          have hbg : x.testBit g = false := Bool.eq_false_iff.2 fun e => Hr.out hbf' e (by omega) h0 h1
                          have Hb2 := Lib.hid (fun V => HBt.out g false V (by omega) hbg)
                          clear hbf' hbg h0 h1
                          go_wp2_with fail
                          go_quiet (first | (with_reducible exact quiet2 (Hb1.out _)) | (with_reducible exact quiet2 (Hb2.out _)))
                          go_wp2_with fail
                          exact ⟨⟨g + 1, _, by omega, by go_num, rfl⟩, by simp [intOf]; omega⟩
                      · have b1 : (yf == yg) = false := by simpa using h1
                        clear h0 h1
                        go_wp2_with fail
                        go_quiet (fail)
                        go_wp2_with fail
                        exact ⟨⟨g + 1, _, by omega, by go_num, rfl⟩, by simp [intOf]; omega⟩
                  · have hBq := hBf.all (belowD (Below.refl _ wf) q)
                    have hbq := belowD hbf q
                    have hsq : base ≤ (wf.drewN q).heap.size := hsf
                    cases hbf' : x.testBit f with
                    | false =>
                      have Hb1 := Lib.hid (fun V => HBt.out f false V (by omega) hbf')
                      clear hbf'
                      go_wp2_with (go_at_call 26; with_reducible refine (Hb1.out _).mono ?_; rintro e w' ⟨rfl, rfl⟩)
                      exact ⟨⟨f + 1, by omega, by go_num, hBq, hbq, hsq⟩, by simp [intOf]; omega⟩
                    | true =>
                      have Hb1 := Lib.hid (fun V => HBt.out f true V (by omega) hbf')
                      have HA := WAsk_any hBq (hT.next hbq) HI.out hsq hgb 0 (j : Int) (f : Int) 0
                      rw [Hag.out f hfn hbf'] at HA
                      have HA := Lib.hid HA
                      clear hbf'
                      go_wp2_with (first | (go_at_call 26; with_reducible refine (Hb1.out _).mono ?_; rintro e w' ⟨rfl, rfl⟩) | (go_at_call 24; with_reducible refine HA.out.mono ?_; rintro e w5 ⟨rfl, hB5, hb5, _⟩; rw [errVal_zero]))
                      exact ⟨⟨f + 1, by omega, by go_num, hB5, hbq.trans (hb5.mono hs1), Nat.le_trans hsq hb5.size⟩, by simp [intOf]; omega⟩
              · go_wp2_with fail
                refine ⟨⟨j + 1, by omega, by go_num, hBf, hbf, hsf⟩, by simp [intOf]; omega⟩
          · go_wp2_with fail
            refine ⟨⟨k + 1, S', by omega, by go_num, hBu, HI.out, HL.out, hbu, hsu⟩, by simp [intOf]; omega⟩
      · go_wp2_with fail
        all_goals
          go_ret
          exact ⟨rfl, hbr⟩
  · obtain ⟨kk, hkk⟩ : ∃ kk, wCode u T = kk := ⟨_, rfl⟩
    have hne : kk ≠ 0 := by rw [← hkk]; exact h12
    have HN := Lib.hid (fun V hU => WNew_bad u T Ta Tc V hU (by omega) kk hkk hne)
    clear h12 hkk hne
    go_enter Tryd.func6, Tryd.ntmps6
    go_wp2_with (with_reducible refine H0.out.mono ?_; rintro e w1 ⟨rfl, hb1⟩)
    refine (HN.out _ (hF.below hb1)).mono ?_
    rintro e w2 ⟨rfl, rfl⟩
    go_wp2_with fail
    go_ret
    exact ⟨rfl, hb1⟩
end Go.Proofs.YtodikdmmmfeddaaDoor
