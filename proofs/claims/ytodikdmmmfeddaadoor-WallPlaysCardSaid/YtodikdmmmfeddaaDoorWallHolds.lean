/-
  The walk of WallHolds.
-/
import Derived.Test.YtodikdmmmfeddaaDoorWallF
import Derived.Test.YtodikdmmmfeddaaDoorStructs
namespace Go.Proofs.YtodikdmmmfeddaaDoor
open Go.RowKit
set_option maxRecDepth 100000
set_option linter.unusedVariables false

theorem told_in {l : List Nat} {f : Nat} (h : f < l.length) : told l (f : Int) = row l f := by unfold told; rw [if_pos (by omega)]; rfl
theorem wCode_ok {m : Int} {T : List Int} (h : wCode m T = 0) : ∃ k : Nat, m = k ∧ k ≤ 8 ∧ levCode T 8 = 0 := by
  unfold wCode at h
  split at h
  · rename_i hm; exact ⟨m.toNat, by omega, by omega, h⟩
  · cases h

set_option maxHeartbeats 2000000 in
theorem WallHolds_walk (u : Int) {W : World} (hu : I64 u) (T : List Int) (Ta : Option Addr) (Tc : Nat) (hF : IntsAt W Ta T) (sT : T.length < 2 ^ 47) (bT : ∀ x ∈ T, I64 x)
    (n : Nat) (K : List Int) (Ka : Option Addr) (Kc : Nat) (hn : K.length = n * 4) (hK : IntsAt W Ka K) (sK : n * 4 < 2 ^ 47) (bK : ∀ x ∈ K, I64 x) (w : World) (hw : w = W) (hT : Tab W) (hE : ErrT W) :
    Calls Tryd.prog 8 #[.int .i64 u, .slice Ta T.length Tc, .slice Ka n Kc] w fun e w' => e = .returned (.bool true) ∧ Below W.heap.size W w' := by
  subst hw
  have H0 := Lib.hid (wallFact_true w hE hT)
  by_cases h12 : wCode u T = 0
  · obtain ⟨m, rfl, hm8, hlv⟩ := wCode_ok h12
    have HN := Lib.hid (fun V hU => WNew_ok m hm8 T Ta Tc V hU hlv)
    have hn8 := (levCode_ok hlv).1
    have hI0 := WInv.start hm8 hn8
    clear h12 hlv
    go_enter Tryd.func8, Tryd.ntmps8
    go_wp2_with (with_reducible refine H0.out.mono ?_; rintro e w1 ⟨rfl, hb1⟩)
    refine (HN.out _ (hF.below hb1)).mono ?_
    rintro e w2 ⟨⟨p, At, As, Ah, ct, cs, ch, rfl, h1⟩, hb2⟩
    clear HN H0
    have hs1 := hb1.size
    have hs2 := hb2.size
    generalize w1.heap.size = base at *
    have hb02 := hb1.trans (hb2.mono hs1)
    have hgb : 2 < base := Nat.lt_of_lt_of_le hT.lt hs1
    clear hb1
    go_wp2_with fail
    go_loopw [10] (fun i wr => ∃ (k : Nat) (S : WS), k ≤ n ∧ i = .int .i64 k ∧ WallAt wr base p T S At As Ah ct cs ch ∧ WInv T S ∧ Below w.heap.size w wr ∧ base ≤ wr.heap.size) (fun i _ => n - (intOf i).toNat)
    case atStart => exact ⟨0, _, Nat.zero_le _, rfl, h1, hI0, hb02, hs2⟩
    case round =>
      obtain ⟨k, S, hk, rfl, hB, hI, hbr, hsr⟩ := hrel
      clear hI0 h1
      by_cases hlt : k < n ∧ k < 100
      · obtain ⟨hkn, hk100⟩ := hlt
        obtain ⟨b, off, rfl, hc⟩ := hK (by intro e; simp [e] at hn; omega)
        have p0 := hc (k * 4) _ (get_gI (by omega))
        have hbw : b < w.heap.size := block_lt p0
        have q0 := (hbr.cell (p := ⟨b, _, none⟩) hbw).trans p0
        have q1 : wr.cell? ⟨b, off + k * 4 + 1, none⟩ = some (.int .i64 (gI K (k * 4 + 1))) := (hbr.cell (p := ⟨b, _, none⟩) hbw).trans (hc (k * 4 + 1) _ (get_gI (by omega)))
        have q2 : wr.cell? ⟨b, off + k * 4 + 2, none⟩ = some (.int .i64 (gI K (k * 4 + 2))) := (hbr.cell (p := ⟨b, _, none⟩) hbw).trans (hc (k * 4 + 2) _ (get_gI (by omega)))
        have q3 : wr.cell? ⟨b, off + k * 4 + 3, none⟩ = some (.int .i64 (gI K (k * 4 + 3))) := (hbr.cell (p := ⟨b, _, none⟩) hbw).trans (hc (k * 4 + 3) _ (get_gI (by omega)))
        clear p0
        have d100 : decide ((k : Int) < 100) = true := by simp; omega
        generalize gI K (k * 4) = ak at *
        generalize gI K (k * 4 + 1) = au at *
        generalize gI K (k * 4 + 2) = af at *
        generalize gI K (k * 4 + 3) = at_ at *
        have HA := Lib.hid (WAsk_any hB (hT.next hbr) hI hsr hgb ak au af at_)
        have HI := Lib.hid (hI.ask ak au af)
        clear hI hB
        generalize wAsk T S ak au af = r at *
        obtain ⟨S', code⟩ := r
        go_wp2_with (with_reducible refine HA.out.mono ?_; rintro e w3 ⟨rfl, hB3, hb3, _⟩)
        refine ⟨⟨k + 1, S', by omega, ?xb, hB3, HI.out, hbr.trans (hb3.mono hs1), Nat.le_trans hsr hb3.size⟩, ?xd⟩
        case xb => go_num
        case xd => simp [intOf]; omega
      · go_wp2_with fail
        all_goals
          have hlen := hI.lh
          have Hho := Lib.hid (fun f => hI.ho_lt f)
          have Hself := Lib.hid hI.self
          have Hown := Lib.hid hI.own
          have n60 : T.length < 2 ^ 60 := by omega
          clear hI
          go_loop [11] (fun i => ∃ f : Nat, f ≤ T.length ∧ i = .int .i64 f) (fun i => T.length - (intOf i).toNat)
          case atStart => exact ⟨0, Nat.zero_le _, rfl⟩
          case round =>
            obtain ⟨f, hf, rfl⟩ := hrel
            by_cases hfn : f < T.length
            · have HH := Holds_any hB n60 hlen (f : Int)
              rw [told_in (by omega)] at HH
              have HH := Lib.hid HH
              have Hb1 := Lib.hid (fun V => Bit_is (row S.Ho f) f true V (by have := Hho.out f; omega) (by omega) (Hself.out f hfn))
              have Hx := Lib.hid (fun g => Hown.out f g)
              have hx := Hho.out f
              have HBt := Lib.hid (fun (g : Nat) (bb : Bool) (V : World) (hg : g < 2 ^ 62) (hh : (row S.Ho f).testBit g = bb) => Bit_is (row S.Ho f) g bb V (by omega) hg hh)
              generalize row S.Ho f = x at *
              have d1 : decide ((x : Int) < 0) = false := by simp
              have d2 : decide ((x : Int) > 255) = false := by simp; omega
              go_wp2_with (first | (go_at_call 27; with_reducible refine HH.out.mono ?_; rintro e w' ⟨rfl, rfl⟩) | (go_at_call 26; with_reducible refine (Hb1.out _).mono ?_; rintro e w' ⟨rfl, rfl⟩))
              go_loop [13] (fun i => ∃ g : Nat, g ≤ T.length ∧ i = .int .i64 g) (fun i => T.length - (intOf i).toNat)
              case atStart => exact ⟨0, Nat.zero_le _, rfl⟩
              case round =>
                obtain ⟨g, hg, rfl⟩ := hrel
                by_cases hgn : g < T.length
                · obtain ⟨tb, tf, rfl, htc⟩ := hF (by intro e; simp [e] at hgn)
                  have tc0 := htc g _ (get_gI hgn)
                  have tc1 := (hbr.cell (p := ⟨tb, tf + g, none⟩) (block_lt tc0)).trans tc0
                  clear htc tc0
                  by_cases hgf : g = f
                  · subst hgf
                    go_wp2_with fail
                    refine ⟨⟨g + 1, by omega, by go_num⟩, by simp [intOf]; omega⟩
                  · have dn : ((g : Int) != (f : Int)) = true := by simp; omega
                    cases hbt : x.testBit g with
                    | false =>
                      have Hb2 := Lib.hid (fun V => HBt.out g false V (by omega) hbt)
                      clear hbt
                      go_wp2_with (go_at_call 26; with_reducible refine (Hb2.out _).mono ?_; rintro e w' ⟨rfl, rfl⟩)
                      refine ⟨⟨g + 1, by omega, by go_num⟩, by simp [intOf]; omega⟩
                    | true =>
                      have Hb2 := Lib.hid (fun V => HBt.out g true V (by omega) hbt)
                      have h0 := Hx.out g hgf hbt
                      rw [h0] at tc1
                      clear hbt h0
                      go_wp2_with (go_at_call 26; with_reducible refine (Hb2.out _).mono ?_; rintro e w' ⟨rfl, rfl⟩)
                      refine ⟨⟨g + 1, by omega, by go_num⟩, by simp [intOf]; omega⟩
                · go_wp2_with fail
                  refine ⟨⟨f + 1, by omega, by go_num⟩, by simp [intOf]; omega⟩
            · go_wp2_with fail
              go_ret
              exact ⟨rfl, hbr⟩
  · obtain ⟨kk, hkk⟩ : ∃ kk, wCode u T = kk := ⟨_, rfl⟩
    have hne : kk ≠ 0 := by rw [← hkk]; exact h12
    have HN := Lib.hid (fun V hU => WNew_bad u T Ta Tc V hU (by omega) kk hkk hne)
    clear h12 hkk hne
    go_enter Tryd.func8, Tryd.ntmps8
    go_wp2_with (with_reducible refine H0.out.mono ?_; rintro e w1 ⟨rfl, hb1⟩)
    refine (HN.out _ (hF.below hb1)).mono ?_
    rintro e w2 ⟨rfl, rfl⟩
    go_wp2_with fail
    go_ret
    exact ⟨rfl, hb1⟩
end Go.Proofs.YtodikdmmmfeddaaDoor
