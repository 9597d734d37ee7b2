/-
  The walk of BellDrop.
-/
import Derived.Test.YtodikdmmmfeddaaDoorBellF
import Derived.Test.YtodikdmmmfeddaaDoorStructs
import Derived.Lib.QuietBelow
namespace Go.Proofs.YtodikdmmmfeddaaDoor
open Go.RowKit
set_option maxRecDepth 100000
set_option linter.unusedVariables false

set_option maxHeartbeats 4000000 in
theorem BellDrop_walk (m : Nat) (U : List Int) (Ua : Option Addr) (Uc : Nat) {W : World} (hU : U.length = m * 2) (iU : IntsAt W Ua U) (sU : m * 2 < 2 ^ 47) (bU : ∀ x ∈ U, I64 x) (n : Nat) (F : List Int) (Fa : Option Addr) (Fc : Nat) (hF : F.length = n * 2) (iF : IntsAt W Fa F) (sF : n * 2 < 2 ^ 47) (bF : ∀ x ∈ F, I64 x)
    (q : Nat) (K : List Int) (Ka : Option Addr) (Kc : Nat) (hn : K.length = q * 4) (hK : IntsAt W Ka K) (sK : q * 4 < 2 ^ 47) (bK : ∀ x ∈ K, I64 x) (u : Int) (hu64 : I64 u) (f : Int) (hf64 : I64 f) (w : World) (hw : w = W) (hT : Tab W) (hE : ErrT W) :
    Calls Tryd.prog 12 #[.slice Ua m Uc, .slice Fa n Fc, .slice Ka q Kc, .int .i64 u, .int .i64 f] w fun e w' => e = .returned (.bool true) ∧ Below W.heap.size W w' := by
  subst hw
  have H0 := Lib.hid (bellFact_true w hE hT)
  by_cases h12 : labsCode U m 8 = 0 ∧ labsCode F n 8 = 0
  · obtain ⟨hc1, hc2⟩ := h12
    have HN := Lib.hid (fun V h1 h2 => LNew_ok U F m n hU hF Ua Fa Uc Fc V h1 h2 hc1 hc2)
    obtain ⟨hm8, hlU⟩ := labsCode_ok hc1
    obtain ⟨hn8, hlF⟩ := labsCode_ok hc2
    have hI0 : LInv U F (lStart m n) := LInv.start hm8 hn8
    have hl0 : (lStart m n).Re.length = m ∧ (lStart m n).Ho.length = n := ⟨by simp [lStart], by simp [lStart, length_pows]⟩
    have HlU := Lib.hid hlU
    have HlF := Lib.hid hlF
    clear hc1 hc2 hlU hlF
    by_cases hu0 : u < 0
    · have d1 : decide (u < 0) = true := by simpa using hu0
      go_enter Tryd.func12, Tryd.ntmps12
      go_wp2_with (with_reducible refine H0.out.mono ?_; rintro e w1 ⟨rfl, hb1⟩)
      refine (HN.out _ (iU.below hb1) (iF.below hb1)).mono ?_
      rintro e w2 ⟨⟨p, A, rfl, h1⟩, hb2⟩
      go_wp2_with fail
      go_ret
      exact ⟨rfl, hb1.trans (hb2.mono hb1.size)⟩
    by_cases hu1 : (m : Int) ≤ u
    · have d1 : decide (u < 0) = false := by simp; omega
      have d2 : decide (u ≥ (m : Int)) = true := by simp; omega
      go_enter Tryd.func12, Tryd.ntmps12
      go_wp2_with (with_reducible refine H0.out.mono ?_; rintro e w1 ⟨rfl, hb1⟩)
      refine (HN.out _ (iU.below hb1) (iF.below hb1)).mono ?_
      rintro e w2 ⟨⟨p, A, rfl, h1⟩, hb2⟩
      go_wp2_with fail
      go_ret
      exact ⟨rfl, hb1.trans (hb2.mono hb1.size)⟩
    by_cases hf0 : f < 0
    · have d1 : decide (u < 0) = false := by simp; omega
      have d2 : decide (u ≥ (m : Int)) = false := by simp; omega
      have d3 : decide (f < 0) = true := by simp; omega
      go_enter Tryd.func12, Tryd.ntmps12
      go_wp2_with (with_reducible refine H0.out.mono ?_; rintro e w1 ⟨rfl, hb1⟩)
      refine (HN.out _ (iU.below hb1) (iF.below hb1)).mono ?_
      rintro e w2 ⟨⟨p, A, rfl, h1⟩, hb2⟩
      go_wp2_with fail
      go_ret
      exact ⟨rfl, hb1.trans (hb2.mono hb1.size)⟩
    by_cases hf1 : (n : Int) ≤ f
    · have d1 : decide (u < 0) = false := by simp; omega
      have d2 : decide (u ≥ (m : Int)) = false := by simp; omega
      have d3 : decide (f < 0) = false := by simp; omega
      have d4 : decide (f ≥ (n : Int)) = true := by simp; omega
      go_enter Tryd.func12, Tryd.ntmps12
      go_wp2_with (with_reducible refine H0.out.mono ?_; rintro e w1 ⟨rfl, hb1⟩)
      refine (HN.out _ (iU.below hb1) (iF.below hb1)).mono ?_
      rintro e w2 ⟨⟨p, A, rfl, h1⟩, hb2⟩
      go_wp2_with fail
      go_ret
      exact ⟨rfl, hb1.trans (hb2.mono hb1.size)⟩
    obtain ⟨un, rfl⟩ := Int.eq_ofNat_of_zero_le (by omega : 0 ≤ u)
    obtain ⟨fn, rfl⟩ := Int.eq_ofNat_of_zero_le (by omega : 0 ≤ f)
    have hun : un < m := by omega
    have hfn : fn < n := by omega
    have d1 : decide ((un : Int) < 0) = false := by simp
    have d2 : decide ((un : Int) ≥ (m : Int)) = false := by simp; omega
    have d3 : decide ((fn : Int) < 0) = false := by simp
    have d4 : decide ((fn : Int) ≥ (n : Int)) = false := by simp; omega
    have d2' : decide (m ≤ un) = false := by simp; omega
    have d4' : decide (n ≤ fn) = false := by simp; omega
    clear hu0 hu1 hf0 hf1 hu64 hf64
    go_enter Tryd.func12, Tryd.ntmps12
    go_wp2_with (with_reducible refine H0.out.mono ?_; rintro e w1 ⟨rfl, hb1⟩)
    refine (HN.out _ (iU.below hb1) (iF.below hb1)).mono ?_
    rintro e w2 ⟨⟨p, A, rfl, h1⟩, hb2⟩
    clear HN H0
    have hs1 := hb1.size
    have hs2 := hb2.size
    generalize w1.heap.size = base at *
    have hb02 := hb1.trans (hb2.mono hs1)
    clear hb1
    go_wp2_with fail
    go_loopw [14] (fun i wr => ∃ (k : Nat) (S : LS), k ≤ q ∧ i = .int .i64 k ∧ BellAt wr base p U F S A ∧ LInv U F S ∧ (S.Re.length = m ∧ S.Ho.length = n) ∧ Below w.heap.size w wr ∧ base ≤ wr.heap.size) (fun i _ => q - (intOf i).toNat)
    case atStart => exact ⟨0, _, Nat.zero_le _, rfl, h1, hI0, hl0, hb02, hs2⟩
    case round =>
      obtain ⟨k, S, hk, rfl, hB, hI, hSl, hbr, hsr⟩ := hrel
      clear hI0 h1 hl0
      by_cases hlt : k < q ∧ k < 100
      · obtain ⟨hkn, hk100⟩ := hlt
        obtain ⟨b, off, rfl, hc⟩ := hK (by intro e; simp [e] at hn; omega)
        have p0 := hc (k * 4) _ (get_gI (by omega))
        have hbw : b < w.heap.size := block_lt p0
        have q0 := (hbr.cell (p := ⟨b, _, none⟩) hbw).trans p0
        have q1 : wr.cell? ⟨b, off + k * 4 + 1, none⟩ = some (.int .i64 (gI K (k * 4 + 1))) := (hbr.cell (p := ⟨b, _, none⟩) hbw).trans (hc (k * 4 + 1) _ (get_gI (by omega)))
        have q2 : wr.cell? ⟨b, off + k * 4 + 2, none⟩ = some (.int .i64 (gI K (k * 4 + 2))) := (hbr.cell (p := ⟨b, _, none⟩) hbw).trans (hc (k * 4 + 2) _ (get_gI (by omega)))
        have q3 : wr.cell? ⟨b, off + k * 4 + 3, none⟩ = some (.int .i64 (gI K (k * 4 + 3))) := (hbr.cell (p := ⟨b, _, none⟩) hbw).trans (hc (k * 4 + 3) _ (get_gI (by omega)))
        clear p0
        have d100 : decide ((k : Int) < 100) = true := by simp; omega
        generalize gI K (k * 4) = ak at *
        generalize gI K (k * 4 + 1) = au at *
        generalize gI K (k * 4 + 2) = af at *
        generalize gI K (k * 4 + 3) = at_ at *
        have HA := Lib.hid (LAsk_any2 (ok := fun _ => False) hB (hT.next hbr) hI (fun i hi => HlU.out i (by omega)) (fun i hi => HlF.out i (by omega)) hsr (fun _ _ _ _ => id) ak au af at_)
        have HI := Lib.hid (hI.ask ak au af at_)
        have HL := Lib.hid (show (lAsk U F S ak au af at_).1.Re.length = m ∧ (lAsk U F S ak au af at_).1.Ho.length = n from ⟨(lAsk_len ak au af at_).1.trans hSl.1, (lAsk_len ak au af at_).2.trans hSl.2⟩)
        clear hI hB hSl
        generalize lAsk U F S ak au af at_ = r at *
        obtain ⟨S', code⟩ := r
        go_wp2_with (with_reducible refine HA.out.mono ?_; rintro e w3 ⟨rfl, hB3, hb3, _⟩)
        have hb03 := hbr.trans (hb3.mono hs1)
        have hs3 := Nat.le_trans hsr hb3.size
        clear q0 q1 q2 q3 hb3 HA
        exact ⟨⟨k + 1, S', by omega, by go_num, hB3, HI.out, HL.out, hb03, hs3⟩, by simp [intOf]; omega⟩
      · go_wp2_with fail
        all_goals
          go_loopw [15] (fun i wg => ∃ (g : Nat) (S : LS), g ≤ n ∧ i = .int .i64 g ∧ BellAt wg base p U F S A ∧ LInv U F S ∧ (S.Re.length = m ∧ S.Ho.length = n) ∧ Hid (∀ j, j < g → (row S.Re un).testBit j = false ∧ (row S.Wr un).testBit j = false) ∧ Below w.heap.size w wg ∧ base ≤ wg.heap.size) (fun i _ => n - (intOf i).toNat)
          case atStart => exact ⟨0, S, Nat.zero_le _, rfl, hB, hI, hSl, Lib.hid (fun j hj => by omega), hbr, hsr⟩
          case round =>
            clear hB hI hSl hbr hsr
            clear S
            obtain ⟨g, S, hg, rfl, hB, hI, hSl, hz, hbr, hsr⟩ := hrel
            have hl1 := hSl.1
            have hl2 := hSl.2
            by_cases hgn : g < n
            · have HA := LAsk_any2 (ok := fun _ => False) hB (hT.next hbr) hI (fun i hi => HlU.out i (by omega)) (fun i hi => HlF.out i (by omega)) hsr (fun _ _ _ _ => id) 2 (un : Int) (g : Int) 0
              have hdr := lAsk_dropped hI (u := un) (g := g) 0 (by omega) (by omega)
              rw [hdr.1] at HA
              have HA := Lib.hid HA
              have HI := Lib.hid (hI.ask 2 (un : Int) (g : Int) 0)
              have HL := Lib.hid (show (lAsk U F S 2 (un : Int) (g : Int) 0).1.Re.length = m ∧ (lAsk U F S 2 (un : Int) (g : Int) 0).1.Ho.length = n from ⟨(lAsk_len _ _ _ _).1.trans hl1, (lAsk_len _ _ _ _).2.trans hl2⟩)
              have Hz := Lib.hid (show ∀ j, j < g + 1 → (row (lAsk U F S 2 (un : Int) (g : Int) 0).1.Re un).testBit j = false ∧ (row (lAsk U F S 2 (un : Int) (g : Int) 0).1.Wr un).testBit j = false from fun j hj => by
                rw [hdr.2.1, hdr.2.2, diff_bit, diff_bit, tb_pow]
                rcases Nat.lt_or_ge j g with h1 | h1
                · have := hz.out j h1; simp [this.1, this.2]
                · obtain rfl : j = g := by omega
                  simp)
              clear hdr hI hB hz hSl hl1 hl2
              generalize lAsk U F S 2 (un : Int) (g : Int) 0 = r at *
              obtain ⟨S', code⟩ := r
              go_wp2_with (with_reducible refine HA.out.mono ?_; rintro e w3 ⟨rfl, hB3, hb3, _⟩; rw [errVal_zero])
              exact ⟨⟨g + 1, S', by omega, by go_num, hB3, HI.out, HL.out, Hz, hbr.trans (hb3.mono hs1), Nat.le_trans hsr hb3.size⟩, by simp [intOf]; omega⟩
            · obtain rfl : g = n := by omega
              have z1 : row S.Re un = 0 := zero_of_bits (n := g) (by have := hI.br un; rw [hl2] at this; exact this) (fun i hi => (hz.out i hi).1)
              have z2 : row S.Wr un = 0 := zero_of_bits (n := g) (by have := hI.bw un; rw [hl2] at this; exact this) (fun i hi => (hz.out i hi).2)
              have hlw := hI.lw
              have HR := LReads_any hB (by omega) (un : Int)
              rw [told_at (by omega), z1] at HR
              have HW := LWrites_any hB (by omega) (un : Int)
              rw [told_at (by omega), z2] at HW
              have HR := Lib.hid HR
              have HW := Lib.hid HW
              have c1 := lAsk_fresh hI (u := un) (f := fn) 0 (by omega) (by omega) z1 z2
              have c3 := lAsk_then hI (u := un) (f := fn) 0 (by omega) (by omega) z1 z2
              have HA1 := LAsk_any2 (ok := fun _ => False) hB (hT.next hbr) hI (fun i hi => HlU.out i (by omega)) (fun i hi => HlF.out i (by omega)) hsr (fun _ _ _ _ => id) 0 (un : Int) (fn : Int) 0
              have HI1 := Lib.hid (hI.ask 0 (un : Int) (fn : Int) 0)
              have hL1 : (lAsk U F S 0 (un : Int) (fn : Int) 0).1.Re.length = m ∧ (lAsk U F S 0 (un : Int) (fn : Int) 0).1.Ho.length = g := ⟨(lAsk_len _ _ _ _).1.trans hl1, (lAsk_len _ _ _ _).2.trans hl2⟩
              have hcode : (lAsk U F S 0 (un : Int) (fn : Int) 0).2 = if belowL F fn U un then 0 else 7 := by rw [c1]; split <;> rfl
              obtain ⟨cd, hcd⟩ : ∃ c : Nat, (if belowL F fn U un = true then 0 else 7) = c := ⟨_, rfl⟩
              rw [hcode, hcd] at HA1
              have Hcd := Lib.hid hcd
              clear hcd
              have HA1 := Lib.hid HA1
              have HC3 := Lib.hid c3
              have lf := HlF.out fn hfn
              have lu := HlU.out un hun
              obtain ⟨b1, hb1⟩ : ∃ b1, belowL F fn U un = b1 := ⟨_, rfl⟩
              rw [hb1] at Hcd
              have hb1' := hb1
              unfold belowL at hb1'
              have QQ := Lib.hid (fun V => RBelow_any (gI F (fn * 2)) (gI U (un * 2)) (gI F (fn * 2 + 1)) (gI U (un * 2 + 1)) lf.2.2 lu.2.2 V hb1')
              obtain ⟨fb, fo, rfl, fc⟩ := iF (by intro e; simp [e] at hF; omega)
              obtain ⟨ub, uo, rfl, uc⟩ := iU (by intro e; simp [e] at hU; omega)
              have fp := fc (fn * 2) _ (get_gI (by omega))
              have fp1 : w.cell? ⟨fb, fo + fn * 2 + 1, none⟩ = some (.int .i64 (gI F (fn * 2 + 1))) := fc (fn * 2 + 1) _ (get_gI (by omega))
              have up := uc (un * 2) _ (get_gI (by omega))
              have up1 : w.cell? ⟨ub, uo + un * 2 + 1, none⟩ = some (.int .i64 (gI U (un * 2 + 1))) := uc (un * 2 + 1) _ (get_gI (by omega))
              have flt : fb < w.heap.size := block_lt fp
              have ult : ub < w.heap.size := block_lt up
              clear c1 c3 z1 z2 hcode hb1 hb1' hI hB hz lf lu fc uc hlw
              generalize gI F (fn * 2) = v0 at *
              generalize gI F (fn * 2 + 1) = v1 at *
              generalize gI U (un * 2) = v2 at *
              generalize gI U (un * 2 + 1) = v3 at *
              generalize lAsk U F S 0 (un : Int) (fn : Int) 0 = r1 at *
              obtain ⟨S1, code1⟩ := r1
              have hunI : (un : Int) < m := by omega
              have hfnI : (fn : Int) < g := by omega
              go_wp2_with (first | (go_at_call 35; with_reducible refine HR.out.mono ?_; rintro e w' ⟨rfl, rfl⟩) | (go_at_call 36; with_reducible refine HW.out.mono ?_; rintro e w' ⟨rfl, rfl⟩) | (go_at_call 32; with_reducible refine HA1.out.mono ?_; rintro e w3 ⟨rfl, hB3, hb3, _⟩))
              have hbr3 := hbr.trans (hb3.mono hs1)
              have hsr3 := Nat.le_trans hsr hb3.size
              have HA2 := LAsk_any2 (ok := fun _ => False) hB3 (hT.next hbr3) HI1.out (fun i hi => HlU.out i (by have := hL1.1; omega)) (fun i hi => HlF.out i (by have := hL1.2; omega)) hsr3 (fun _ _ _ _ => id) 2 (un : Int) (fn : Int) 0
              have HI2 := Lib.hid (HI1.out.ask 2 (un : Int) (fn : Int) 0)
              have hL2 : (lAsk U F S1 2 (un : Int) (fn : Int) 0).1.Re.length = m ∧ (lAsk U F S1 2 (un : Int) (fn : Int) 0).1.Ho.length = g := ⟨(lAsk_len _ _ _ _).1.trans hL1.1, (lAsk_len _ _ _ _).2.trans hL1.2⟩
              have HA2 := Lib.hid HA2
              generalize lAsk U F S1 2 (un : Int) (fn : Int) 0 = r2 at *
              obtain ⟨S2, code2⟩ := r2
              clear HR HW HA1
              go_wp2_with (go_at_call 32; with_reducible refine HA2.out.mono ?_; rintro e w4 ⟨rfl, hB4, hb4, _⟩)
              have hbr4 := hbr3.trans (hb4.mono hs1)
              have hsr4 := Nat.le_trans hsr3 hb4.size
              have HA3 := LAsk_any2 (ok := fun _ => False) hB4 (hT.next hbr4) HI2.out (fun i hi => HlU.out i (by have := hL2.1; omega)) (fun i hi => HlF.out i (by have := hL2.2; omega)) hsr4 (fun _ _ _ _ => id) 1 (un : Int) (fn : Int) 0
              have hC3 := HC3.out
              rw [hC3] at HA3
              have HA3 := Lib.hid HA3
              clear HA2 HC3 hC3
              go_wp2_with (go_at_call 32; with_reducible refine HA3.out.mono ?_; rintro e w5 ⟨rfl, hB5, hb5, _⟩; rw [errVal_zero])
              have hbr5 := hbr4.trans (hb5.mono hs1)
              have t0 := cell_regrown ((hbr5.cell (p := ⟨fb, _, none⟩) flt).trans fp)
              have t1 := cell_regrown ((hbr5.cell (p := ⟨fb, fo + fn * 2 + 1, none⟩) flt).trans fp1)
              have t2 := cell_regrown ((hbr5.cell (p := ⟨ub, uo + un * 2, none⟩) ult).trans up)
              have t3 := cell_regrown ((hbr5.cell (p := ⟨ub, uo + un * 2 + 1, none⟩) ult).trans up1)
              have Q1 := Lib.hid (fun (d : Nat) (os : Array Obj) => Calls.regrown_of (QQ.out (Sort.grow (redrawn w5 d) os)))
              have hev := Hcd.out
              clear QQ HA3 hB3 hB4 hB5 Hcd
              cases b1 with
              | true =>
                rw [if_pos rfl] at hev
                subst hev
                rw [errVal_zero]
                go_wp2_with fail
                refine wp_region_quiet_below (by kernel_rfl) (by kernel_rfl) ?_
                repeat (go_big_quiet_step (with_reducible exact Q1.out _ _))
                refine wpQuiet_nil ?_
                rintro _ ⟨pq, rfl⟩
                have hbq := below_regrown w5 pq.d pq.os
                generalize Sort.grow (redrawn w5 pq.d) pq.os = w6 at *
                clear t0 t1 t2 t3 Q1
                go_wp2_with fail
                go_ret
                exact ⟨by first | rfl | exact ret_bool (by decide), hbr5.trans (hbq.mono hbr5.size)⟩
              | false =>
                rw [if_neg (by decide)] at hev
                subst hev
                rw [errVal_pos (by decide)]
                go_wp2_with fail
                refine wp_region_quiet_below (by kernel_rfl) (by kernel_rfl) ?_
                repeat (go_big_quiet_step (with_reducible exact Q1.out _ _))
                refine wpQuiet_nil ?_
                rintro _ ⟨pq, rfl⟩
                have hbq := below_regrown w5 pq.d pq.os
                generalize Sort.grow (redrawn w5 pq.d) pq.os = w6 at *
                clear t0 t1 t2 t3 Q1
                go_wp2_with fail
                go_ret
                exact ⟨by first | rfl | exact ret_bool (by decide), hbr5.trans (hbq.mono hbr5.size)⟩
  · obtain ⟨kk, hkk, hne⟩ : ∃ kk, kk = (if labsCode U m 8 ≠ 0 then labsCode U m 8 else labsCode F n 8) ∧ kk ≠ 0 := ⟨_, rfl, by split <;> simp_all⟩
    have HN := Lib.hid (fun V h1 h2 => LNew_bad U F m n hU hF Ua Fa Uc Fc V h1 h2 (by omega) (by omega) kk hkk hne)
    clear h12 hkk hne
    go_enter Tryd.func12, Tryd.ntmps12
    go_wp2_with (with_reducible refine H0.out.mono ?_; rintro e w1 ⟨rfl, hb1⟩)
    refine (HN.out _ (iU.below hb1) (iF.below hb1)).mono ?_
    rintro e w2 ⟨rfl, hb2⟩
    go_wp2_with fail
    go_ret
    exact ⟨rfl, hb1.trans (hb2.mono hb1.size)⟩
end Go.Proofs.YtodikdmmmfeddaaDoor
