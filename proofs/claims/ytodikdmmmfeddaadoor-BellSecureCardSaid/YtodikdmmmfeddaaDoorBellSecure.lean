/-
  The walk of BellSecure.
-/
import Derived.Test.YtodikdmmmfeddaaDoorBellF
import Derived.Test.YtodikdmmmfeddaaDoorStructs
import Derived.Lib.QuietBelow
namespace Go.Proofs.YtodikdmmmfeddaaDoor
open Go.RowKit
set_option maxRecDepth 100000
set_option linter.unusedVariables false

set_option maxHeartbeats 4000000 in
theorem BellSecure_walk (m : Nat) (U : List Int) (Ua : Option Addr) (Uc : Nat) {W : World} (hU : U.length = m * 2) (iU : IntsAt W Ua U) (sU : m * 2 < 2 ^ 47) (bU : ∀ x ∈ U, I64 x) (n : Nat) (F : List Int) (Fa : Option Addr) (Fc : Nat) (hF : F.length = n * 2) (iF : IntsAt W Fa F) (sF : n * 2 < 2 ^ 47) (bF : ∀ x ∈ F, I64 x)
    (q : Nat) (K : List Int) (Ka : Option Addr) (Kc : Nat) (hn : K.length = q * 4) (hK : IntsAt W Ka K) (sK : q * 4 < 2 ^ 47) (bK : ∀ x ∈ K, I64 x) (w : World) (hw : w = W) (hT : Tab W) (hE : ErrT W) :
    Calls Tryd.prog 11 #[.slice Ua m Uc, .slice Fa n Fc, .slice Ka q Kc] w fun e w' => e = .returned (.bool true) ∧ Below W.heap.size W w' := by
  subst hw
  have H0 := Lib.hid (bellFact_true w hE hT)
  by_cases h12 : labsCode U m 8 = 0 ∧ labsCode F n 8 = 0
  · obtain ⟨hc1, hc2⟩ := h12
    have HN := Lib.hid (fun V h1 h2 => LNew_ok U F m n hU hF Ua Fa Uc Fc V h1 h2 hc1 hc2)
    obtain ⟨hm8, hlU⟩ := labsCode_ok hc1
    obtain ⟨hn8, hlF⟩ := labsCode_ok hc2
    have hI0 : LInv U F (lStart m n) := LInv.start hm8 hn8
    have hl0 : (lStart m n).Re.length = m ∧ (lStart m n).Ho.length = n := ⟨by simp [lStart], by simp [lStart, length_pows]⟩
    have HlU := Lib.hid hlU
    have HlF := Lib.hid hlF
    clear hc1 hc2 hlU hlF
    go_enter Tryd.func11, Tryd.ntmps11
    go_wp2_with (with_reducible refine H0.out.mono ?_; rintro e w1 ⟨rfl, hb1⟩)
    refine (HN.out _ (iU.below hb1) (iF.below hb1)).mono ?_
    rintro e w2 ⟨⟨p, A, rfl, h1⟩, hb2⟩
    clear HN H0
    have hs1 := hb1.size
    have hs2 := hb2.size
    generalize w1.heap.size = base at *
    have hb02 := hb1.trans (hb2.mono hs1)
    clear hb1
    go_wp2_with fail
    go_loopw [10] (fun i wr => ∃ (k : Nat) (S : LS), k ≤ q ∧ i = .int .i64 k ∧ BellAt wr base p U F S A ∧ LInv U F S ∧ (S.Re.length = m ∧ S.Ho.length = n) ∧ Below w.heap.size w wr ∧ base ≤ wr.heap.size) (fun i _ => q - (intOf i).toNat)
    case atStart => exact ⟨0, _, Nat.zero_le _, rfl, h1, hI0, hl0, hb02, hs2⟩
    case round =>
      obtain ⟨k, S, hk, rfl, hB, hI, hSl, hbr, hsr⟩ := hrel
      clear hI0 h1 hl0
      by_cases hlt : k < q ∧ k < 100
      · obtain ⟨hkn, hk100⟩ := hlt
        obtain ⟨b, off, rfl, hc⟩ := hK (by intro e; simp [e] at hn; omega)
        have p0 := hc (k * 4) _ (get_gI (by omega))
        have hbw : b < w.heap.size := block_lt p0
        have q0 := (hbr.cell (p := ⟨b, _, none⟩) hbw).trans p0
        have q1 : wr.cell? ⟨b, off + k * 4 + 1, none⟩ = some (.int .i64 (gI K (k * 4 + 1))) := (hbr.cell (p := ⟨b, _, none⟩) hbw).trans (hc (k * 4 + 1) _ (get_gI (by omega)))
        have q2 : wr.cell? ⟨b, off + k * 4 + 2, none⟩ = some (.int .i64 (gI K (k * 4 + 2))) := (hbr.cell (p := ⟨b, _, none⟩) hbw).trans (hc (k * 4 + 2) _ (get_gI (by omega)))
        have q3 : wr.cell? ⟨b, off + k * 4 + 3, none⟩ = some (.int .i64 (gI K (k * 4 + 3))) := (hbr.cell (p := ⟨b, _, none⟩) hbw).trans (hc (k * 4 + 3) _ (get_gI (by omega)))
        clear p0
        have d100 : decide ((k : Int) < 100) = true := by simp; omega
        generalize gI K (k * 4) = ak at *
        generalize gI K (k * 4 + 1) = au at *
        generalize gI K (k * 4 + 2) = af at *
        generalize gI K (k * 4 + 3) = at_ at *
        have HA := Lib.hid (LAsk_any2 (ok := fun _ => False) hB (hT.next hbr) hI (fun i hi => HlU.out i (by omega)) (fun i hi => HlF.out i (by omega)) hsr (fun _ _ _ _ => id) ak au af at_)
        have HI := Lib.hid (hI.ask ak au af at_)
        have HL := Lib.hid (show (lAsk U F S ak au af at_).1.Re.length = m ∧ (lAsk U F S ak au af at_).1.Ho.length = n from ⟨(lAsk_len ak au af at_).1.trans hSl.1, (lAsk_len ak au af at_).2.trans hSl.2⟩)
        clear hI hB hSl
        generalize lAsk U F S ak au af at_ = r at *
        obtain ⟨S', code⟩ := r
        go_wp2_with (with_reducible refine HA.out.mono ?_; rintro e w3 ⟨rfl, hB3, hb3, _⟩)
        have hb03 := hbr.trans (hb3.mono hs1)
        have hs3 := Nat.le_trans hsr hb3.size
        clear q0 q1 q2 q3 hb3 HA
        go_loopw [11] (fun i wu => ∃ (u : Nat), u ≤ m ∧ i = .int .i64 u ∧ BellAt wu base p U F S' A ∧ Below w.heap.size w wu ∧ base ≤ wu.heap.size) (fun i _ => m - (intOf i).toNat)
        case atStart => exact ⟨0, Nat.zero_le _, rfl, hB3, hb03, hs3⟩
        case round =>
          clear hB3 hb03 hs3
          obtain ⟨wu, rfl⟩ : ∃ wu : World, wu = wr := ⟨_, rfl⟩
          obtain ⟨u, hu, rfl, hBu, hbu, hsu⟩ := hrel
          have hl1 := HL.out.1
          have hl2 := HL.out.2
          have hl3 := HI.out.lw
          by_cases hun : u < m
          · have HR := LReads_any hBu (by omega) (u : Int)
            rw [told_at (by omega)] at HR
            have HR := Lib.hid HR
            have HW := LWrites_any hBu (by omega) (u : Int)
            rw [told_at (by omega)] at HW
            have HW := Lib.hid HW
            have hx := HI.out.re_lt u
            have hy := HI.out.wr_lt u
            have HBx := Lib.hid (fun (g : Nat) (bb : Bool) (V : World) (hg : g < 2 ^ 62) (hh : (row S'.Re u).testBit g = bb) => Bit_is (row S'.Re u) g bb V (by omega) hg hh)
            have HBy := Lib.hid (fun (g : Nat) (bb : Bool) (V : World) (hg : g < 2 ^ 62) (hh : (row S'.Wr u).testBit g = bb) => Bit_is (row S'.Wr u) g bb V (by omega) hg hh)
            have Hrd := Lib.hid (fun f => HI.out.rd u f)
            have Hsec := Lib.hid (fun f g => HI.out.sec u f g)
            generalize row S'.Re u = x at *
            generalize row S'.Wr u = y at *
            have d1 : decide ((x : Int) < 0) = false := by simp
            have d2 : decide ((x : Int) > 255) = false := by simp; omega
            have d3 : decide ((y : Int) < 0) = false := by simp
            have d4 : decide ((y : Int) > 255) = false := by simp; omega
            go_wp2_with (first | (go_at_call 35; with_reducible refine HR.out.mono ?_; rintro e w' ⟨rfl, rfl⟩) | (go_at_call 36; with_reducible refine HW.out.mono ?_; rintro e w' ⟨rfl, rfl⟩))
            go_loopw [14] (fun i wf => ∃ (f : Nat), f ≤ n ∧ i = .int .i64 f ∧ BellAt wf base p U F S' A ∧ Below w.heap.size w wf ∧ base ≤ wf.heap.size) (fun i _ => n - (intOf i).toNat)
            case atStart => exact ⟨0, Nat.zero_le _, rfl, hBu, hbu, hsu⟩
            case round =>
              clear hBu hbu hsu HR HW
              obtain ⟨wf, rfl⟩ : ∃ wf : World, wf = wr := ⟨_, rfl⟩
              obtain ⟨f, hf, rfl, hBf, hbf_, hsf⟩ := hrel
              by_cases hfn : f < n
              · obtain ⟨fb, fo, rfl, fc⟩ := iF (by intro e; simp [e] at hF; omega)
                obtain ⟨ub, uo, rfl, uc⟩ := iU (by intro e; simp [e] at hU; omega)
                have fp := fc (f * 2) _ (get_gI (by omega))
                have fp1 : w.cell? ⟨fb, fo + f * 2 + 1, none⟩ = some (.int .i64 (gI F (f * 2 + 1))) := fc (f * 2 + 1) _ (get_gI (by omega))
                have up := uc (u * 2) _ (get_gI (by omega))
                have flt : fb < w.heap.size := block_lt fp
                have ult : ub < w.heap.size := block_lt up
                cases hbf : x.testBit f with
                | false =>
                  have Q1 := Lib.hid (fun (d : Nat) (os : Array Obj) => Calls.regrown_of ((HBx.out f false (Sort.grow (redrawn wf d) os) (by omega) hbf).mono fun e w' ⟨he, hw⟩ => (⟨he, hw ▸ Below.refl _ _⟩ : _ ∧ Below (Sort.grow (redrawn wf d) os).heap.size (Sort.grow (redrawn wf d) os) w')))
                  go_wp2_with fail
                  refine wp_region_quiet_below (by kernel_rfl) (by kernel_rfl) ?_
                  repeat (go_big_quiet_step ((with_reducible exact Q1.out _ _)))
                  refine wpQuiet_nil ?_
                  rintro _ ⟨pq, rfl⟩
                  have hbq := below_regrown wf pq.d pq.os
                  generalize Sort.grow (redrawn wf pq.d) pq.os = w4 at *
                  clear Q1
                  have hB0 := hBf.all hbq
                  have hb0 := hbf_.trans (hbq.mono (by omega))
                  have hs0 := Nat.le_trans hsf hbq.size
                  clear hbq hBf hbf_ hsf
                  go_wp2_with fail
                  go_loopw [15] (fun i wg => ∃ (g : Nat), g ≤ n ∧ i = .int .i64 g ∧ BellAt wg base p U F S' A ∧ Below w.heap.size w wg ∧ base ≤ wg.heap.size) (fun i _ => n - (intOf i).toNat)
                  case atStart => exact ⟨0, Nat.zero_le _, rfl, hB0, hb0, hs0⟩
                  case round =>
                    clear hB0 hb0 hs0
                    obtain ⟨wg, rfl⟩ : ∃ wg : World, wg = wr := ⟨_, rfl⟩
                    obtain ⟨g, hg, rfl, hBg, hbg, hsg⟩ := hrel
                    by_cases hgn : g < n
                    · have Q1 := Lib.hid (fun (d : Nat) (os : Array Obj) => Calls.regrown_of ((HBx.out f false (Sort.grow (redrawn wg d) os) (by omega) hbf).mono fun e w' ⟨he, hw⟩ => (⟨he, hw ▸ Below.refl _ _⟩ : _ ∧ Below (Sort.grow (redrawn wg d) os).heap.size (Sort.grow (redrawn wg d) os) w')))
                      go_wp2_with fail
                      refine wp_region_quiet_below (by kernel_rfl) (by kernel_rfl) ?_
                      repeat (go_big_quiet_step ((with_reducible exact Q1.out _ _)))
                      refine wpQuiet_nil ?_
                      rintro _ ⟨pq, rfl⟩
                      have hbq := below_regrown wg pq.d pq.os
                      generalize Sort.grow (redrawn wg pq.d) pq.os = w4 at *
                      clear Q1
                      go_wp2_with fail
                      exact ⟨⟨g + 1, by omega, by go_num, hBg.all hbq, hbg.trans (hbq.mono (by omega)), Nat.le_trans hsg hbq.size⟩, by simp [intOf]; omega⟩
                    · go_wp2_with fail
                      exact ⟨⟨f + 1, by omega, by go_num, hBg, hbg, hsg⟩, by simp [intOf]; omega⟩
                | true =>
                  have t0 := cell_regrown ((hbf_.cell (p := ⟨fb, _, none⟩) flt).trans fp)
                  have t1 := cell_regrown ((hbf_.cell (p := ⟨fb, fo + f * 2 + 1, none⟩) flt).trans fp1)
                  have t2 := cell_regrown ((hbf_.cell (p := ⟨ub, uo + u * 2, none⟩) ult).trans up)
                  have t3 := cell_regrown ((hbf_.cell (p := ⟨ub, uo + u * 2 + 1, none⟩) ult).trans (uc (u * 2 + 1) _ (get_gI (by omega))))
                  have lf := HlF.out f hfn
                  have lu := HlU.out u hun
                  have hrd := Hrd.out f hbf
                  unfold belowL at hrd
                  have Q1 := Lib.hid (fun (d : Nat) (os : Array Obj) => Calls.regrown_of ((HBx.out f true (Sort.grow (redrawn wf d) os) (by omega) hbf).mono fun e w' ⟨he, hw⟩ => (⟨he, hw ▸ Below.refl _ _⟩ : _ ∧ Below (Sort.grow (redrawn wf d) os).heap.size (Sort.grow (redrawn wf d) os) w')))
                  have Q3 := Lib.hid (fun (d : Nat) (os : Array Obj) => Calls.regrown_of (RBelow_any (gI F (f * 2)) (gI U (u * 2)) (gI F (f * 2 + 1)) (gI U (u * 2 + 1)) lf.2.2 lu.2.2 (Sort.grow (redrawn wf d) os) hrd))
                  clear hrd lf lu
                  generalize gI U (u * 2) = v2 at *
                  generalize gI U (u * 2 + 1) = v3 at *
                  go_wp2_with fail
                  refine wp_region_quiet_below (by kernel_rfl) (by kernel_rfl) ?_
                  repeat (go_big_quiet_step (first | (with_reducible exact Q1.out _ _) | (with_reducible exact Q3.out _ _)))
                  refine wpQuiet_nil ?_
                  rintro _ ⟨pq, rfl⟩
                  have hbq := below_regrown wf pq.d pq.os
                  generalize Sort.grow (redrawn wf pq.d) pq.os = w4 at *
                  clear t0 t1 t2 t3 Q1 Q3
                  have hB0 := hBf.all hbq
                  have hb0 := hbf_.trans (hbq.mono (by omega))
                  have hs0 := Nat.le_trans hsf hbq.size
                  clear hbq hBf hbf_ hsf
                  go_wp2_with fail
                  go_loopw [15] (fun i wg => ∃ (g : Nat), g ≤ n ∧ i = .int .i64 g ∧ BellAt wg base p U F S' A ∧ Below w.heap.size w wg ∧ base ≤ wg.heap.size) (fun i _ => n - (intOf i).toNat)
                  case atStart => exact ⟨0, Nat.zero_le _, rfl, hB0, hb0, hs0⟩
                  case round =>
                    clear hB0 hb0 hs0
                    obtain ⟨wg, rfl⟩ : ∃ wg : World, wg = wr := ⟨_, rfl⟩
                    obtain ⟨g, hg, rfl, hBg, hbg, hsg⟩ := hrel
                    by_cases hgn : g < n
                    · have t0 := cell_regrown ((hbg.cell (p := ⟨fb, _, none⟩) flt).trans fp)
                      have t1 := cell_regrown ((hbg.cell (p := ⟨fb, fo + f * 2 + 1, none⟩) flt).trans fp1)
                      have t2 := cell_regrown ((hbg.cell (p := ⟨fb, fo + g * 2, none⟩) flt).trans (fc (g * 2) _ (get_gI (by omega))))
                      have t3 := cell_regrown ((hbg.cell (p := ⟨fb, fo + g * 2 + 1, none⟩) flt).trans (fc (g * 2 + 1) _ (get_gI (by omega))))
                      have lf := HlF.out f hfn
                      have lg := HlF.out g hgn
                      have Q1 := Lib.hid (fun (d : Nat) (os : Array Obj) => Calls.regrown_of ((HBx.out f true (Sort.grow (redrawn wg d) os) (by omega) hbf).mono fun e w' ⟨he, hw⟩ => (⟨he, hw ▸ Below.refl _ _⟩ : _ ∧ Below (Sort.grow (redrawn wg d) os).heap.size (Sort.grow (redrawn wg d) os) w')))
                      cases hbw : y.testBit g with
                      | false =>
                        have Q2 := Lib.hid (fun (d : Nat) (os : Array Obj) => Calls.regrown_of ((HBy.out g false (Sort.grow (redrawn wg d) os) (by omega) hbw).mono fun e w' ⟨he, hw⟩ => (⟨he, hw ▸ Below.refl _ _⟩ : _ ∧ Below (Sort.grow (redrawn wg d) os).heap.size (Sort.grow (redrawn wg d) os) w')))
                        go_wp2_with fail
                        refine wp_region_quiet_below (by kernel_rfl) (by kernel_rfl) ?_
                        repeat (go_big_quiet_step (first | (with_reducible exact Q1.out _ _) | (with_reducible exact Q2.out _ _)))
                        refine wpQuiet_nil ?_
                        rintro _ ⟨pq, rfl⟩
                        have hbq := below_regrown wg pq.d pq.os
                        generalize Sort.grow (redrawn wg pq.d) pq.os = w4 at *
                        clear t0 t1 t2 t3 Q1 Q2
                        go_wp2_with fail
                        exact ⟨⟨g + 1, by omega, by go_num, hBg.all hbq, hbg.trans (hbq.mono (by omega)), Nat.le_trans hsg hbq.size⟩, by simp [intOf]; omega⟩
                      | true =>
                        have Q2 := Lib.hid (fun (d : Nat) (os : Array Obj) => Calls.regrown_of ((HBy.out g true (Sort.grow (redrawn wg d) os) (by omega) hbw).mono fun e w' ⟨he, hw⟩ => (⟨he, hw ▸ Below.refl _ _⟩ : _ ∧ Below (Sort.grow (redrawn wg d) os).heap.size (Sort.grow (redrawn wg d) os) w')))
                        have hsec := Hsec.out f g hbf hbw
                        unfold belowL at hsec
                        have Q3 := Lib.hid (fun (d : Nat) (os : Array Obj) => Calls.regrown_of (RBelow_any (gI F (f * 2)) (gI F (g * 2)) (gI F (f * 2 + 1)) (gI F (g * 2 + 1)) lf.2.2 lg.2.2 (Sort.grow (redrawn wg d) os) hsec))
                        clear hsec lf lg hbw
                        generalize gI F (g * 2) = v0 at *
                        generalize gI F (g * 2 + 1) = v1 at *
                        go_wp2_with fail
                        refine wp_region_quiet_below (by kernel_rfl) (by kernel_rfl) ?_
                        repeat (go_big_quiet_step (first | (with_reducible exact Q1.out _ _) | (with_reducible exact Q2.out _ _) | (with_reducible exact Q3.out _ _)))
                        refine wpQuiet_nil ?_
                        rintro _ ⟨pq, rfl⟩
                        have hbq := below_regrown wg pq.d pq.os
                        generalize Sort.grow (redrawn wg pq.d) pq.os = w4 at *
                        clear t0 t1 t2 t3 Q1 Q2 Q3
                        go_wp2_with fail
                        exact ⟨⟨g + 1, by omega, by go_num, hBg.all hbq, hbg.trans (hbq.mono (by omega)), Nat.le_trans hsg hbq.size⟩, by simp [intOf]; omega⟩
                    · go_wp2_with fail
                      exact ⟨⟨f + 1, by omega, by go_num, hBg, hbg, hsg⟩, by simp [intOf]; omega⟩
              · go_wp2_with fail
                exact ⟨⟨u + 1, by omega, by go_num, hBf, hbf_, hsf⟩, by simp [intOf]; omega⟩
          · go_wp2_with fail
            exact ⟨⟨k + 1, S', by omega, by go_num, hBu, HI.out, HL.out, hbu, hsu⟩, by simp [intOf]; omega⟩
      · go_wp2_with fail
        all_goals
          go_ret
          exact ⟨rfl, hbr⟩
  · obtain ⟨kk, hkk, hne⟩ : ∃ kk, kk = (if labsCode U m 8 ≠ 0 then labsCode U m 8 else labsCode F n 8) ∧ kk ≠ 0 := ⟨_, rfl, by split <;> simp_all⟩
    have HN := Lib.hid (fun V h1 h2 => LNew_bad U F m n hU hF Ua Fa Uc Fc V h1 h2 (by omega) (by omega) kk hkk hne)
    clear h12 hkk hne
    go_enter Tryd.func11, Tryd.ntmps11
    go_wp2_with (with_reducible refine H0.out.mono ?_; rintro e w1 ⟨rfl, hb1⟩)
    refine (HN.out _ (iU.below hb1) (iF.below hb1)).mono ?_
    rintro e w2 ⟨rfl, hb2⟩
    go_wp2_with fail
    go_ret
    exact ⟨rfl, hb1.trans (hb2.mono hb1.size)⟩
end Go.Proofs.YtodikdmmmfeddaaDoor
