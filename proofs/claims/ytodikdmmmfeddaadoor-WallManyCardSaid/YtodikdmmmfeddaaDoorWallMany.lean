/-
  The walk of WallMany.
-/
import Derived.Test.YtodikdmmmfeddaaDoorWallHolds
namespace Go.Proofs.YtodikdmmmfeddaaDoor
open Go.RowKit
set_option maxRecDepth 100000
set_option linter.unusedVariables false

set_option maxHeartbeats 2000000 in
theorem WallMany_walk (u : Int) {W : World} (hu : I64 u) (T : List Int) (Ta : Option Addr) (Tc : Nat) (hF : IntsAt W Ta T) (sT : T.length < 2 ^ 47) (bT : ∀ x ∈ T, I64 x)
    (n : Nat) (K : List Int) (Ka : Option Addr) (Kc : Nat) (hn : K.length = n * 4) (hK : IntsAt W Ka K) (sK : n * 4 < 2 ^ 47) (bK : ∀ x ∈ K, I64 x) (t : Int) (ht64 : I64 t) (w : World) (hw : w = W) (hT : Tab W) (hE : ErrT W) :
    Calls Tryd.prog 7 #[.int .i64 u, .slice Ta T.length Tc, .slice Ka n Kc, .int .i64 t] w fun e w' => e = .returned (.bool true) ∧ Below W.heap.size W w' := by
  subst hw
  have H0 := Lib.hid (wallFact_true w hE hT)
  by_cases h12 : wCode u T = 0
  · obtain ⟨m, rfl, hm8, hlv⟩ := wCode_ok h12
    have HN := Lib.hid (fun V hU => WNew_ok m hm8 T Ta Tc V hU hlv)
    have hn8 := (levCode_ok hlv).1
    have hI0 := WInv.start hm8 hn8
    clear h12 hlv
    by_cases ht0 : t = 0
    · subst ht0
      go_enter Tryd.func7, Tryd.ntmps7
      go_wp2_with (with_reducible refine H0.out.mono ?_; rintro e w1 ⟨rfl, hb1⟩)
      refine (HN.out _ (hF.below hb1)).mono ?_
      rintro e w2 ⟨⟨p, At, As, Ah, ct, cs, ch, rfl, h1⟩, hb2⟩
      go_wp2_with fail
      go_ret
      exact ⟨rfl, hb1.trans (hb2.mono hb1.size)⟩
    have ht0' : (t == 0) = false := by simpa using ht0
    have Ht0 := Lib.hid ht0
    clear ht0
    go_enter Tryd.func7, Tryd.ntmps7
    go_wp2_with (with_reducible refine H0.out.mono ?_; rintro e w1 ⟨rfl, hb1⟩)
    refine (HN.out _ (hF.below hb1)).mono ?_
    rintro e w2 ⟨⟨p, At, As, Ah, ct, cs, ch, rfl, h1⟩, hb2⟩
    clear HN H0
    have hs1 := hb1.size
    have hs2 := hb2.size
    generalize w1.heap.size = base at *
    have hb02 := hb1.trans (hb2.mono hs1)
    have hgb : 2 < base := Nat.lt_of_lt_of_le hT.lt hs1
    clear hb1
    go_wp2_with fail
    go_loopw [12] (fun i wr => ∃ (k : Nat) (S : WS), k ≤ n ∧ i = .int .i64 k ∧ WallAt wr base p T S At As Ah ct cs ch ∧ WInv T S ∧ S.Saw.length = m ∧ Below w.heap.size w wr ∧ base ≤ wr.heap.size) (fun i _ => n - (intOf i).toNat)
    case atStart => exact ⟨0, _, Nat.zero_le _, rfl, h1, hI0, by simp [wStart], hb02, hs2⟩
    case round =>
      obtain ⟨k, S, hk, rfl, hB, hI, hSl, hbr, hsr⟩ := hrel
      clear hI0 h1
      by_cases hlt : k < n ∧ k < 100
      · obtain ⟨hkn, hk100⟩ := hlt
        obtain ⟨b, off, rfl, hc⟩ := hK (by intro e; simp [e] at hn; omega)
        have p0 := hc (k * 4) _ (get_gI (by omega))
        have hbw : b < w.heap.size := block_lt p0
        have q0 := (hbr.cell (p := ⟨b, _, none⟩) hbw).trans p0
        have q1 : wr.cell? ⟨b, off + k * 4 + 1, none⟩ = some (.int .i64 (gI K (k * 4 + 1))) := (hbr.cell (p := ⟨b, _, none⟩) hbw).trans (hc (k * 4 + 1) _ (get_gI (by omega)))
        have q2 : wr.cell? ⟨b, off + k * 4 + 2, none⟩ = some (.int .i64 (gI K (k * 4 + 2))) := (hbr.cell (p := ⟨b, _, none⟩) hbw).trans (hc (k * 4 + 2) _ (get_gI (by omega)))
        have q3 : wr.cell? ⟨b, off + k * 4 + 3, none⟩ = some (.int .i64 (gI K (k * 4 + 3))) := (hbr.cell (p := ⟨b, _, none⟩) hbw).trans (hc (k * 4 + 3) _ (get_gI (by omega)))
        clear p0
        have d100 : decide ((k : Int) < 100) = true := by simp; omega
        generalize gI K (k * 4) = ak at *
        generalize gI K (k * 4 + 1) = au at *
        generalize gI K (k * 4 + 2) = af at *
        generalize gI K (k * 4 + 3) = at_ at *
        have HA := Lib.hid (WAsk_any hB (hT.next hbr) hI hsr hgb ak au af at_)
        have HI := Lib.hid (hI.ask ak au af)
        have HL := Lib.hid ((wAsk_lens (T := T) (S := S) ak au af).trans hSl)
        clear hI hB
        generalize wAsk T S ak au af = r at *
        obtain ⟨S', code⟩ := r
        go_wp2_with (with_reducible refine HA.out.mono ?_; rintro e w3 ⟨rfl, hB3, hb3, _⟩)
        refine ⟨⟨k + 1, S', by omega, ?xb, hB3, HI.out, HL.out, hbr.trans (hb3.mono hs1), Nat.le_trans hsr hb3.size⟩, ?xd⟩
        case xb => go_num
        case xd => simp [intOf]; omega
      · go_wp2_with fail
        all_goals
          have Hcnt := Lib.hid (fun j => many_le hI Ht0.out j m)
          have Hs := Lib.hid (fun u => hI.saw_lt u)
          have hSm := Lib.hid hSl
          clear hI hSl
          go_loop [13, 14] (fun c i => ∃ f : Nat, f ≤ T.length ∧ i = .int .i64 f ∧ c = .int .i64 (cntP (fun f => sees S m f && decide (gI T f = t)) f : Nat)) (fun _ i => T.length - (intOf i).toNat)
          case atStart => exact ⟨0, Nat.zero_le _, rfl, rfl⟩
          case round =>
            obtain ⟨f, hf, rfl, rfl⟩ := hrel
            have hc9 := cntP_le (p := fun f => sees S m f && decide (gI T f = t)) f
            have Hstep := Lib.hid (show cntP (fun f => sees S m f && decide (gI T f = t)) (f + 1) = cntP (fun f => sees S m f && decide (gI T f = t)) f + if sees S m f && decide (gI T f = t) then 1 else 0 from rfl)
            have Hend := Lib.hid (Hcnt.out f)
            generalize cntP (fun f => sees S m f && decide (gI T f = t)) f = c at *
            by_cases hfn : f < T.length
            · obtain ⟨tb, tf, rfl, htc⟩ := hF (by intro e; simp [e] at hfn)
              have tc0 := htc f _ (get_gI hfn)
              have tc1 := (hbr.cell (p := ⟨tb, tf + f, none⟩) (block_lt tc0)).trans tc0
              clear htc tc0
              go_wp2_with fail
              go_loop [15, 16] (fun a i => ∃ j : Nat, j ≤ m ∧ i = .int .i64 j ∧ a = .bool (sees S j f)) (fun _ i => m - (intOf i).toNat)
              case atStart => exact ⟨0, Nat.zero_le _, rfl, rfl⟩
              case round =>
                obtain ⟨j, hj, rfl, rfl⟩ := hrel
                by_cases hjm : j < m
                · have hjl : j < S.Saw.length := by rw [hSm.out]; exact hjm
                  have HS := Saw_any hB (by rw [hSm.out]; omega) (j : Int)
                  rw [told_in hjl] at HS
                  have HS := Lib.hid HS
                  have hx := Hs.out j
                  have Hn := Lib.hid (sees_succ S j f)
                  have HBt := Lib.hid (fun (bb : Bool) (V : World) (hh : (row S.Saw j).testBit f = bb) => Bit_is (row S.Saw j) f bb V (by omega) (by omega) hh)
                  generalize row S.Saw j = x at *
                  have d1 : decide ((x : Int) ≥ 0) = true := by simp
                  have d8 : decide ((j : Int) < 8) = true := by simp; omega
                  cases hany : sees S j f with
                  | true =>
                    rw [hany] at Hn
                    go_wp2_with (go_at_call 25; with_reducible refine HS.out.mono ?_; rintro e w' ⟨rfl, rfl⟩)
                    refine ⟨⟨j + 1, by omega, by go_num, by rw [Hn.out]; rfl⟩, by simp [intOf]; omega⟩
                  | false =>
                    rw [hany] at Hn
                    cases hbt : x.testBit f with
                    | true =>
                      have Hb2 := Lib.hid (fun V => HBt.out true V hbt)
                      rw [hbt] at Hn
                      clear hbt
                      go_wp2_with (first | (go_at_call 25; with_reducible refine HS.out.mono ?_; rintro e w' ⟨rfl, rfl⟩) | (go_at_call 26; with_reducible refine (Hb2.out _).mono ?_; rintro e w' ⟨rfl, rfl⟩))
                      refine ⟨⟨j + 1, by omega, by go_num, by rw [Hn.out]; rfl⟩, by simp [intOf]; omega⟩
                    | false =>
                      have Hb2 := Lib.hid (fun V => HBt.out false V hbt)
                      rw [hbt] at Hn
                      clear hbt
                      go_wp2_with (first | (go_at_call 25; with_reducible refine HS.out.mono ?_; rintro e w' ⟨rfl, rfl⟩) | (go_at_call 26; with_reducible refine (Hb2.out _).mono ?_; rintro e w' ⟨rfl, rfl⟩))
                      refine ⟨⟨j + 1, by omega, by go_num, by rw [Hn.out]; rfl⟩, by simp [intOf]; omega⟩
                · obtain rfl : j = m := by omega
                  cases hany : sees S j f with
                  | false =>
                    rw [hany] at Hstep
                    simp only [Bool.false_and, Bool.false_eq_true, if_false, Nat.add_zero] at Hstep
                    go_wp2_with fail
                    refine ⟨⟨f + 1, by omega, by go_num, by rw [Hstep.out]⟩, by simp [intOf]; omega⟩
                  | true =>
                    rw [hany] at Hstep
                    by_cases he : gI T f = t
                    · have de : (gI T f == t) = true := by simpa using he
                      simp only [he, Bool.true_and, decide_true, if_true] at Hstep
                      rw [he] at tc1
                      have de2 : (t == t) = true := by simp
                      clear he de
                      go_wp2_with fail
                      refine ⟨⟨f + 1, by omega, by go_num, by rw [Hstep.out]; go_num⟩, by simp [intOf]; omega⟩
                    · have de : (gI T f == t) = false := by simpa using he
                      simp only [he, Bool.true_and, decide_false, Bool.false_eq_true, if_false, Nat.add_zero] at Hstep
                      generalize gI T f = y at *
                      go_wp2_with fail
                      refine ⟨⟨f + 1, by omega, by go_num, by rw [Hstep.out]⟩, by simp [intOf]; omega⟩
            · have hle := Hend.out
              go_wp2_with fail
              go_ret
              exact ⟨ret_bool (by simp), hbr⟩
  · obtain ⟨kk, hkk⟩ : ∃ kk, wCode u T = kk := ⟨_, rfl⟩
    have hne : kk ≠ 0 := by rw [← hkk]; exact h12
    have HN := Lib.hid (fun V hU => WNew_bad u T Ta Tc V hU (by omega) kk hkk hne)
    clear h12 hkk hne
    go_enter Tryd.func7, Tryd.ntmps7
    go_wp2_with (with_reducible refine H0.out.mono ?_; rintro e w1 ⟨rfl, hb1⟩)
    refine (HN.out _ (hF.below hb1)).mono ?_
    rintro e w2 ⟨rfl, rfl⟩
    go_wp2_with fail
    go_ret
    exact ⟨rfl, hb1⟩
end Go.Proofs.YtodikdmmmfeddaaDoor
