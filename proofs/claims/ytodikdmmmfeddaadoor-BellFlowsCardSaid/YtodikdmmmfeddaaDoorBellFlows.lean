/-
  The walk of BellFlows.
-/
import Derived.Test.YtodikdmmmfeddaaDoorBellF
import Derived.Test.YtodikdmmmfeddaaDoorStructs
import Derived.Lib.QuietBelow
namespace Go.Proofs.YtodikdmmmfeddaaDoor
open Go.RowKit
set_option maxRecDepth 100000
set_option linter.unusedVariables false

set_option maxHeartbeats 4000000 in
theorem BellFlows_walk (m : Nat) (U : List Int) (Ua : Option Addr) (Uc : Nat) {W : World} (hU : U.length = m * 2) (iU : IntsAt W Ua U) (sU : m * 2 < 2 ^ 47) (bU : ∀ x ∈ U, I64 x) (n : Nat) (F : List Int) (Fa : Option Addr) (Fc : Nat) (hF : F.length = n * 2) (iF : IntsAt W Fa F) (sF : n * 2 < 2 ^ 47) (bF : ∀ x ∈ F, I64 x)
    (q : Nat) (K : List Int) (Ka : Option Addr) (Kc : Nat) (hn : K.length = q * 4) (hK : IntsAt W Ka K) (sK : q * 4 < 2 ^ 47) (bK : ∀ x ∈ K, I64 x) (w : World) (hw : w = W) (hT : Tab W) (hE : ErrT W) :
    Calls Tryd.prog 10 #[.slice Ua m Uc, .slice Fa n Fc, .slice Ka q Kc] w fun e w' => e = .returned (.bool true) ∧ Below W.heap.size W w' := by
  subst hw
  have H0 := Lib.hid (bellFact_true w hE hT)
  by_cases h12 : labsCode U m 8 = 0 ∧ labsCode F n 8 = 0
  · obtain ⟨hc1, hc2⟩ := h12
    have HN := Lib.hid (fun V h1 h2 => LNew_ok U F m n hU hF Ua Fa Uc Fc V h1 h2 hc1 hc2)
    obtain ⟨hm8, hlU⟩ := labsCode_ok hc1
    obtain ⟨hn8, hlF⟩ := labsCode_ok hc2
    have hI0 : LInv U F (lStart m n) := LInv.start hm8 hn8
    have hl0 : (lStart m n).Re.length = m ∧ (lStart m n).Ho.length = n := ⟨by simp [lStart], by simp [lStart, length_pows]⟩
    have HlU := Lib.hid hlU
    have HlF := Lib.hid hlF
    clear hc1 hc2 hlU hlF
    go_enter Tryd.func10, Tryd.ntmps10
    go_wp2_with (with_reducible refine H0.out.mono ?_; rintro e w1 ⟨rfl, hb1⟩)
    refine (HN.out _ (iU.below hb1) (iF.below hb1)).mono ?_
    rintro e w2 ⟨⟨p, A, rfl, h1⟩, hb2⟩
    clear HN H0
    have hs1 := hb1.size
    have hs2 := hb2.size
    generalize w1.heap.size = base at *
    have hb02 := hb1.trans (hb2.mono hs1)
    clear hb1
    go_wp2_with fail
    go_loopw [10] (fun i wr => ∃ (k : Nat) (S : LS), k ≤ q ∧ i = .int .i64 k ∧ BellAt wr base p U F S A ∧ LInv U F S ∧ (S.Re.length = m ∧ S.Ho.length = n) ∧ Below w.heap.size w wr ∧ base ≤ wr.heap.size) (fun i _ => q - (intOf i).toNat)
    case atStart => exact ⟨0, _, Nat.zero_le _, rfl, h1, hI0, hl0, hb02, hs2⟩
    case round =>
      obtain ⟨k, S, hk, rfl, hB, hI, hSl, hbr, hsr⟩ := hrel
      clear hI0 h1 hl0
      by_cases hlt : k < q ∧ k < 100
      · obtain ⟨hkn, hk100⟩ := hlt
        obtain ⟨b, off, rfl, hc⟩ := hK (by intro e; simp [e] at hn; omega)
        have p0 := hc (k * 4) _ (get_gI (by omega))
        have hbw : b < w.heap.size := block_lt p0
        have q0 := (hbr.cell (p := ⟨b, _, none⟩) hbw).trans p0
        have q1 : wr.cell? ⟨b, off + k * 4 + 1, none⟩ = some (.int .i64 (gI K (k * 4 + 1))) := (hbr.cell (p := ⟨b, _, none⟩) hbw).trans (hc (k * 4 + 1) _ (get_gI (by omega)))
        have q2 : wr.cell? ⟨b, off + k * 4 + 2, none⟩ = some (.int .i64 (gI K (k * 4 + 2))) := (hbr.cell (p := ⟨b, _, none⟩) hbw).trans (hc (k * 4 + 2) _ (get_gI (by omega)))
        have q3 : wr.cell? ⟨b, off + k * 4 + 3, none⟩ = some (.int .i64 (gI K (k * 4 + 3))) := (hbr.cell (p := ⟨b, _, none⟩) hbw).trans (hc (k * 4 + 3) _ (get_gI (by omega)))
        clear p0
        have d100 : decide ((k : Int) < 100) = true := by simp; omega
        generalize gI K (k * 4) = ak at *
        generalize gI K (k * 4 + 1) = au at *
        generalize gI K (k * 4 + 2) = af at *
        generalize gI K (k * 4 + 3) = at_ at *
        have HA := Lib.hid (LAsk_any2 (ok := fun _ => False) hB (hT.next hbr) hI (fun i hi => HlU.out i (by omega)) (fun i hi => HlF.out i (by omega)) hsr (fun _ _ _ _ => id) ak au af at_)
        have HI := Lib.hid (hI.ask ak au af at_)
        have HL := Lib.hid (show (lAsk U F S ak au af at_).1.Re.length = m ∧ (lAsk U F S ak au af at_).1.Ho.length = n from ⟨(lAsk_len ak au af at_).1.trans hSl.1, (lAsk_len ak au af at_).2.trans hSl.2⟩)
        clear hI hB hSl
        generalize lAsk U F S ak au af at_ = r at *
        obtain ⟨S', code⟩ := r
        go_wp2_with (with_reducible refine HA.out.mono ?_; rintro e w3 ⟨rfl, hB3, hb3, _⟩)
        have hb03 := hbr.trans (hb3.mono hs1)
        have hs3 := Nat.le_trans hsr hb3.size
        clear q0 q1 q2 q3 hb3 HA
        go_loopw [11] (fun i wu => ∃ (f : Nat), f ≤ n ∧ i = .int .i64 f ∧ BellAt wu base p U F S' A ∧ Below w.heap.size w wu ∧ base ≤ wu.heap.size) (fun i _ => n - (intOf i).toNat)
        case atStart => exact ⟨0, Nat.zero_le _, rfl, hB3, hb03, hs3⟩
        case round =>
          clear hB3 hb03 hs3
          obtain ⟨wu, rfl⟩ : ∃ wu : World, wu = wr := ⟨_, rfl⟩
          obtain ⟨f, hf, rfl, hBu, hbu, hsu⟩ := hrel
          have hl2 := HL.out.2
          by_cases hfn : f < n
          · have HS := LHolds_any hBu (by omega) (f : Int)
            rw [told_at (by omega)] at HS
            have HS := Lib.hid HS
            have hx := HI.out.ho_lt f
            have HBt := Lib.hid (fun (g : Nat) (bb : Bool) (V : World) (hg : g < 2 ^ 62) (hh : (row S'.Ho f).testBit g = bb) => Bit_is (row S'.Ho f) g bb V (by omega) hg hh)
            have Hself := Lib.hid (HI.out.self f (by omega))
            have Hown := Lib.hid (fun g => HI.out.own f g)
            generalize row S'.Ho f = x at *
            have d1 : decide ((x : Int) < 0) = false := by simp
            have d2 : decide ((x : Int) > 255) = false := by simp; omega
            have Hb1 := Lib.hid (fun V => HBt.out f true V (by omega) Hself.out)
            go_wp2_with (first | (go_at_call 33; with_reducible refine HS.out.mono ?_; rintro e w' ⟨rfl, rfl⟩) | (go_at_call 26; with_reducible refine (Hb1.out _).mono ?_; rintro e w' ⟨rfl, rfl⟩))
            go_loopw [13] (fun i wg => ∃ (g : Nat), g ≤ n ∧ i = .int .i64 g ∧ BellAt wg base p U F S' A ∧ Below w.heap.size w wg ∧ base ≤ wg.heap.size) (fun i _ => n - (intOf i).toNat)
            case atStart => exact ⟨0, Nat.zero_le _, rfl, hBu, hbu, hsu⟩
            case round =>
              clear hBu hbu hsu HS
              obtain ⟨wg, rfl⟩ : ∃ wg : World, wg = wr := ⟨_, rfl⟩
              obtain ⟨g, hg, rfl, hBg, hbg, hsg⟩ := hrel
              by_cases hgn : g < n
              · obtain ⟨fb, fo, rfl, fc⟩ := iF (by intro e; simp [e] at hF; omega)
                have fp := fc (f * 2) _ (get_gI (by omega))
                have flt : fb < w.heap.size := block_lt fp
                have t0 := cell_regrown ((hbg.cell (p := ⟨fb, _, none⟩) flt).trans fp)
                have t1 := cell_regrown ((hbg.cell (p := ⟨fb, fo + f * 2 + 1, none⟩) flt).trans (fc (f * 2 + 1) _ (get_gI (by omega))))
                have t2 := cell_regrown ((hbg.cell (p := ⟨fb, fo + g * 2, none⟩) flt).trans (fc (g * 2) _ (get_gI (by omega))))
                have t3 := cell_regrown ((hbg.cell (p := ⟨fb, fo + g * 2 + 1, none⟩) flt).trans (fc (g * 2 + 1) _ (get_gI (by omega))))
                have lf := HlF.out f hfn
                have lg := HlF.out g hgn
                clear fp fc
                cases hbt : x.testBit g with
                | false =>
                  have Q1 := Lib.hid (fun (d : Nat) (os : Array Obj) => Calls.regrown_of ((HBt.out g false (Sort.grow (redrawn wg d) os) (by omega) hbt).mono fun e w' ⟨he, hw⟩ => (⟨he, hw ▸ Below.refl _ _⟩ : _ ∧ Below (Sort.grow (redrawn wg d) os).heap.size (Sort.grow (redrawn wg d) os) w')))
                  clear hbt
                  go_wp2_with fail
                  refine wp_region_quiet_below (by kernel_rfl) (by kernel_rfl) ?_
                  repeat (go_big_quiet_step (with_reducible exact Q1.out _ _))
                  refine wpQuiet_nil ?_
                  rintro _ ⟨pq, rfl⟩
                  have hbq := below_regrown wg pq.d pq.os
                  generalize Sort.grow (redrawn wg pq.d) pq.os = w4 at *
                  clear t0 t1 t2 t3 Q1
                  go_wp2_with fail
                  exact ⟨⟨g + 1, by omega, by go_num, hBg.all hbq, hbg.trans (hbq.mono (by omega)), Nat.le_trans hsg hbq.size⟩, by simp [intOf]; omega⟩
                | true =>
                  have hown := Hown.out g hbt
                  unfold belowL at hown
                  have Q1 := Lib.hid (fun (d : Nat) (os : Array Obj) => Calls.regrown_of ((HBt.out g true (Sort.grow (redrawn wg d) os) (by omega) hbt).mono fun e w' ⟨he, hw⟩ => (⟨he, hw ▸ Below.refl _ _⟩ : _ ∧ Below (Sort.grow (redrawn wg d) os).heap.size (Sort.grow (redrawn wg d) os) w')))
                  have Q2 := Lib.hid (fun (d : Nat) (os : Array Obj) => Calls.regrown_of (RBelow_any (gI F (g * 2)) (gI F (f * 2)) (gI F (g * 2 + 1)) (gI F (f * 2 + 1)) lg.2.2 lf.2.2 (Sort.grow (redrawn wg d) os) hown))
                  clear hbt hown lf lg
                  generalize gI F (g * 2) = v0 at *
                  generalize gI F (g * 2 + 1) = v1 at *
                  generalize gI F (f * 2) = v2 at *
                  generalize gI F (f * 2 + 1) = v3 at *
                  go_wp2_with fail
                  refine wp_region_quiet_below (by kernel_rfl) (by kernel_rfl) ?_
                  repeat (go_big_quiet_step (first | (with_reducible exact Q1.out _ _) | (with_reducible exact Q2.out _ _)))
                  refine wpQuiet_nil ?_
                  rintro _ ⟨pq, rfl⟩
                  have hbq := below_regrown wg pq.d pq.os
                  generalize Sort.grow (redrawn wg pq.d) pq.os = w4 at *
                  clear t0 t1 t2 t3 Q1 Q2
                  go_wp2_with fail
                  exact ⟨⟨g + 1, by omega, by go_num, hBg.all hbq, hbg.trans (hbq.mono (by omega)), Nat.le_trans hsg hbq.size⟩, by simp [intOf]; omega⟩
              · go_wp2_with fail
                exact ⟨⟨f + 1, by omega, by go_num, hBg, hbg, hsg⟩, by simp [intOf]; omega⟩
          · go_wp2_with fail
            exact ⟨⟨k + 1, S', by omega, by go_num, hBu, HI.out, HL.out, hbu, hsu⟩, by simp [intOf]; omega⟩
      · go_wp2_with fail
        all_goals
          go_ret
          exact ⟨rfl, hbr⟩
  · obtain ⟨kk, hkk, hne⟩ : ∃ kk, kk = (if labsCode U m 8 ≠ 0 then labsCode U m 8 else labsCode F n 8) ∧ kk ≠ 0 := ⟨_, rfl, by split <;> simp_all⟩
    have HN := Lib.hid (fun V h1 h2 => LNew_bad U F m n hU hF Ua Fa Uc Fc V h1 h2 (by omega) (by omega) kk hkk hne)
    clear h12 hkk hne
    go_enter Tryd.func10, Tryd.ntmps10
    go_wp2_with (with_reducible refine H0.out.mono ?_; rintro e w1 ⟨rfl, hb1⟩)
    refine (HN.out _ (iU.below hb1) (iF.below hb1)).mono ?_
    rintro e w2 ⟨rfl, hb2⟩
    go_wp2_with fail
    go_ret
    exact ⟨rfl, hb1.trans (hb2.mono hb1.size)⟩
end Go.Proofs.YtodikdmmmfeddaaDoor
