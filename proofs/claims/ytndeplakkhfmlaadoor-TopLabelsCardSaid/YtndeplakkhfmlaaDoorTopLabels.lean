/-
  The walk of quietwingtop.TopLabels.
-/
import Derived.Test.YtndeplakkhfmlaaDoorTopLaw
import Derived.Test.YtndeplakkhfmlaaDoorOrder
import Derived.Test.YtndeplakkhfmlaaDoorInts
import Derived.Test.YtndeplakkhfmlaaDoorStillD
import Derived.Test.YtndeplakkhfmlaaDoorOver
import Derived.Test.YtndeplakkhfmlaaDoorBibaLaw
import Derived.Test.YtndeplakkhfmlaaDoorPush
import Derived.Test.YtndeplakkhfmlaaDoorLabelC
import Derived.Test.YtndeplakkhfmlaaDoorLabelB
import Derived.Test.YtndeplakkhfmlaaDoorFrame
import Derived.BigQuiet
import Derived.Lib.QuietBelow
import Derived.Deep.RegionHeld3
import Derived.Deep.CutRange
namespace Go.Proofs.YtndeplakkhfmlaaDoor
open Go.RowKit
set_option maxRecDepth 100000
set_option linter.unusedVariables false

def lvN (L : List Int) (i : Nat) : Nat := (gI L (i * 2)).toNat
def lsN (L : List Int) (i : Nat) : Nat := (gI L (i * 2 + 1)).toNat
/-- Two labels, and no two the same. -/
def okL (L : List Int) (i j : Nat) : Prop := labOk (gI L (i * 2)) (gI L (i * 2 + 1)) ∧ labOk (gI L (j * 2)) (gI L (j * 2 + 1)) ∧ (i ≠ j → ¬ (lvN L i = lvN L j ∧ lsN L i = lsN L j))
theorem lab_cells {w : World} {A : Option Addr} {L : List Int} {n i : Nat} (h : IntsAt w A L) (hn : L.length = n * 2) (hi : i < n) : ∃ b off, A = some ⟨b, off, none⟩ ∧ w.cell? ⟨b, off + i * 2, none⟩ = some (.int .i64 (gI L (i * 2))) ∧ w.cell? ⟨b, off + i * 2 + 1, none⟩ = some (.int .i64 (gI L (i * 2 + 1))) := by
  obtain ⟨b, off, x, e, hx, hc⟩ := h.at_ (k := i * 2) (by omega)
  obtain ⟨b', off', x', e', hx', hc'⟩ := h.at_ (k := i * 2 + 1) (by omega)
  rw [e] at e'
  injection e' with e'
  injection e' with e1 e2
  subst e1; subst e2
  refine ⟨b, off, e, ?_, ?_⟩
  · rw [hc]; unfold gI; rw [List.getD_eq_getElem?_getD, hx.out]; rfl
  · rw [Nat.add_assoc, hc']; unfold gI; rw [List.getD_eq_getElem?_getD, hx'.out]; rfl
theorem lab_cells2 {w : World} {b off : Nat} {L : List Int} {n i : Nat} (h : IntsAt w (some ⟨b, off, none⟩) L) (hn : L.length = n * 2) (hi : i < n) : w.cell? ⟨b, off + i * 2, none⟩ = some (.int .i64 (gI L (i * 2))) ∧ w.cell? ⟨b, off + i * 2 + 1, none⟩ = some (.int .i64 (gI L (i * 2 + 1))) := by
  obtain ⟨b', off', e, h1, h2⟩ := lab_cells h hn hi
  injection e with e
  injection e with e1 e2
  subst e1; subst e2
  exact ⟨h1, h2⟩
theorem maskN_add' (p : Nat → Bool) (n : Nat) (h : p n = true) : maskN p (n + 1) = maskN p n + 2 ^ n := by
  have := Nat.two_pow_add_eq_or_of_lt (maskN_bd p n) 1
  rw [Nat.mul_one] at this
  rw [maskN, if_pos h, Nat.or_comm, ← this, Nat.add_comm]
theorem top_fact (V : World) : Calls Tryd.prog 7 #[.agg #[.int .i64 1, .int .i64 1], .agg #[.int .i64 2, .int .i64 3]] V fun e w' => e = .returned (.tuple #[.bool true, .nilIface]) ∧ Below V.heap.size V w' :=
  Below_ok 1 2 1 3 V (by decide) (by decide)

set_option maxHeartbeats 4000000 in
theorem TopLabels_out {L : List Int} {A : Option Addr} {c n : Nat} {i j : Int} (hout : ¬ (0 < n ∧ n ≤ 12 ∧ (0 ≤ i ∧ i < n) ∧ (0 ≤ j ∧ j < n))) (w : World) :
    Calls Tryd.prog 3 #[.slice A n c, .int .i64 i, .int .i64 j] w fun e w' => e = .returned (.bool true) ∧ Below w.heap.size w w' := by
  have hq : ((n : Int) == 0) = true ∨ ((n : Int) == 0) = false ∧ (decide ((n : Int) > 12) = true ∨ decide ((n : Int) > 12) = false ∧ (decide (i < 0) = true ∨ decide (i < 0) = false ∧ (decide (i ≥ n) = true ∨ decide (i ≥ n) = false ∧ (decide (j < 0) = true ∨ decide (j < 0) = false ∧ decide (j ≥ n) = true)))) := by
    simp only [decide_eq_true_eq, decide_eq_false_iff_not, beq_iff_eq, beq_eq_false_iff_ne, ne_eq]; omega
  clear hout
  rcases hq with g0 | ⟨g0, g1 | ⟨g1, g2 | ⟨g2, g3 | ⟨g3, g4 | ⟨g4, g5⟩⟩⟩⟩⟩
  all_goals
    go_enter Tryd.func3, Tryd.ntmps3
    go_wp2_with fail
    refine (top_fact w).mono ?_
    rintro e w1 ⟨rfl, hb1⟩
    go_wp2_with fail
    go_ret
    exact ⟨rfl, hb1⟩

set_option maxHeartbeats 16000000 in
theorem TopLabels_in {L : List Int} {A : Option Addr} {c n i j : Nat} (hn : L.length = n * 2) (h0 : 0 < n) (h12 : n ≤ 12) (hi : i < n) (hj : j < n) (w : World) (h : IntsAt w A L) (hT : Tab w) :
    Calls Tryd.prog 3 #[.slice A n c, .int .i64 i, .int .i64 j] w fun e w' => e = .returned (.bool true) ∧ Below w.heap.size w w' := by
  obtain ⟨b, off, rfl, _, _⟩ := lab_cells h hn h0
  have HI := Lib.hid (fun (V : World) (hV : Below w.heap.size w V) (k : Nat) (hk : k < n) => lab_cells2 (h.below hV) hn hk)
  have g0 : ((n : Int) == 0) = false := by simp; omega
  have g1 : decide ((n : Int) > 12) = false := by simp; omega
  have g2 : decide ((i : Int) < 0) = false := by simp
  have g3 : decide ((i : Int) ≥ (n : Int)) = false := by simp; omega
  have g4 : decide ((j : Int) < 0) = false := by simp
  have g5 : decide ((j : Int) ≥ (n : Int)) = false := by simp; omega
  have g6 : decide (12 < n) = false := by simp; omega
  have g7 : decide (n ≤ i) = false := by simp; omega
  have g8 : decide (n ≤ j) = false := by simp; omega
  clear h
  go_enter Tryd.func3, Tryd.ntmps3
  go_wp2_with fail
  refine (top_fact w).mono ?_
  rintro e w1 ⟨rfl, hb1⟩
  go_wp2_with fail
  go_loopw [9, 10] (fun o a wr => ∃ k : Nat, k ≤ n ∧ a = .int .i64 k ∧ OwnI wr w1.heap.size o (castL ((List.range k).map fun x => maskN (belL (lvN L) (lsN L) x) n)) ∧ Hid (∀ x, x < k → ∀ y, y < n → okL L x y) ∧ Below w1.heap.size w1 wr) (fun _ a _ => n - (intOf a).toNat)
  case atStart => exact ⟨0, Nat.zero_le _, rfl, OwnI.nil _ _, Lib.hid (fun x hx => by omega), Below.refl _ _⟩
  case round =>
    obtain ⟨k, hk, rfl, hown, hall, hbw⟩ := hrel
    have hbr := hb1.trans (hbw.mono hb1.size)
    by_cases hlt : k < n
    · have dlt : decide ((k : Int) < (n : Int)) = true := decide_eq_true (by omega)
      have dln : decide (k < n) = true := decide_eq_true hlt
      have HO := Lib.hid hown
      clear hown
      go_wp2_with fail
      obtain ⟨wz, hwz⟩ : ∃ wz, wz = wr := ⟨wr, rfl⟩
      subst hwz
      go_loopw [11, 12] (fun o a wi => ∃ u : Nat, u ≤ n ∧ a = .int .i64 u ∧ o = .int .i64 (maskN (belL (lvN L) (lsN L) k) u : Nat) ∧ Hid (∀ y, y < u → okL L k y) ∧ Below wz.heap.size wz wi) (fun _ a _ => n - (intOf a).toNat)
      case atStart => exact ⟨0, Nat.zero_le _, rfl, rfl, Lib.hid (fun y hy => by omega), Below.refl _ _⟩
      case round =>
        obtain ⟨u, hu, rfl, rfl, hok, hbi⟩ := hrel
        have hbri := hbr.trans (hbi.mono hbr.size)
        by_cases hltu : u < n
        · have dlt : decide ((u : Int) < (n : Int)) = true := decide_eq_true (by omega)
          have dln : decide (u < n) = true := decide_eq_true hltu
          obtain ⟨ck0, ck1⟩ := HI.out wr hbri k hlt
          obtain ⟨cu0, cu1⟩ := HI.out wr hbri u hltu
          by_cases hpair : labOk (gI L (k * 2)) (gI L (k * 2 + 1)) ∧ labOk (gI L (u * 2)) (gI L (u * 2 + 1))
          · have Ek0 := Lib.hid (show gI L (k * 2) = ((lvN L k : Nat) : Int) by have := hpair.1.1; simp only [lvN]; omega)
            have Ek1 := Lib.hid (show gI L (k * 2 + 1) = ((lsN L k : Nat) : Int) by have := hpair.1.2.2.1; simp only [lsN]; omega)
            have Eu0 := Lib.hid (show gI L (u * 2) = ((lvN L u : Nat) : Int) by have := hpair.2.1; simp only [lvN]; omega)
            have Eu1 := Lib.hid (show gI L (u * 2 + 1) = ((lsN L u : Nat) : Int) by have := hpair.2.2.2.1; simp only [lsN]; omega)
            have hB := fun V => Below_ok (gI L (k * 2)) (gI L (u * 2)) (lsN L k) (lsN L u) V (by rw [← Ek1.out]; exact hpair.1) (by rw [← Eu1.out]; exact hpair.2)
            rw [Ek0.out, Eu0.out] at hB
            obtain ⟨is, his⟩ : ∃ is, belL (lvN L) (lsN L) k u = is := ⟨_, rfl⟩
            have hie : (decide (((lvN L k : Nat) : Int) ≤ ((lvN L u : Nat) : Int)) && within (lsN L k) (lsN L u)) = is := by
              rw [← his]; unfold belL; congr 1; rw [Bool.eq_iff_iff, decide_eq_true_eq, decide_eq_true_eq]; omega
            rw [hie] at hB
            have HB := Lib.hid hB
            have His := Lib.hid his
            have Hyes := Lib.hid (fun (hy : belL (lvN L) (lsN L) k u = true) => maskN_add' (belL (lvN L) (lsN L) k) u hy)
            have Hno := Lib.hid (fun (hy : belL (lvN L) (lsN L) k u = false) => show maskN (belL (lvN L) (lsN L) k) (u + 1) = maskN (belL (lvN L) (lsN L) k) u by rw [maskN, if_neg (by rw [hy]; simp)])
            have HokN := Lib.hid (show (k ≠ u → ¬ (lvN L k = lvN L u ∧ lsN L k = lsN L u)) → ∀ y, y < u + 1 → okL L k y from fun hd y hy => by
              rcases Nat.lt_or_ge y u with h1 | h1
              · exact hok.out y h1
              · obtain rfl : y = u := by omega
                exact ⟨hpair.1, hpair.2, hd⟩)
            rw [Ek0.out] at ck0
            rw [Ek1.out] at ck1
            rw [Eu0.out] at cu0
            rw [Eu1.out] at cu1
            clear hB hpair his hie hok
            have HQ := Lib.hid (fun (d : Nat) (os : Array Obj) => Calls.regrown_of (HB.out (Sort.grow (redrawn wr d) os)))
            have e0 := cell_regrown ck0
            have e1 := cell_regrown ck1
            have e2 := cell_regrown cu0
            have e3 := cell_regrown cu1
            go_wp2_with fail
            refine wp_region_quiet_below (by kernel_rfl) (by kernel_rfl) ?_
            repeat (go_big_quiet_step (with_reducible exact HQ.out _ _))
            refine wpQuiet_nil ?_
            rintro _ ⟨pq, rfl⟩
            have hb6 := below_regrown wr pq.d pq.os
            generalize Sort.grow (redrawn wr pq.d) pq.os = w5 at *
            clear e0 e1 e2 e3 HQ

            have hbr5 := hbri.trans (hb6.mono hbri.size)
            obtain ⟨ek0, ek1⟩ := HI.out w5 hbr5 k hlt
            obtain ⟨eu0, eu1⟩ := HI.out w5 hbr5 u hltu
            rw [Ek0.out] at ek0
            rw [Ek1.out] at ek1
            rw [Eu0.out] at eu0
            rw [Eu1.out] at eu1
            have hbi2 := belowD (hbi.trans (hb6.mono hbi.size))
            clear ck0 ck1 cu0 cu1 hb6
            go_wp2_with fail

            by_cases hku : k = u
            · have dku : ((k : Int) != (u : Int)) = false := by simp; omega
              have Hok2 := Lib.hid (HokN.out fun h => absurd hku h)
              clear HokN hku Ek0 Ek1 Eu0 Eu1
              generalize lvN L k = vk at *
              generalize lvN L u = vu at *
              generalize lsN L k = sk at *
              generalize lsN L u = su at *
              have hm12 := maskN_bd (belL (lvN L) (lsN L) k) u
              have hm13 : maskN (belL (lvN L) (lsN L) k) u < 2 ^ 12 := Nat.lt_of_lt_of_le hm12 (Nat.pow_le_pow_right (by decide) (by omega))
              clear hm12
              cases is with
              | true =>
                have Hs := Lib.hid (Hyes.out His.out)
                have Hp := Lib.hid (fun V => Pow2_any u V (by omega))
                have hp12 : 2 ^ u < 2 ^ 12 := Nat.pow_lt_pow_right (by decide) (by omega)
                clear Hyes Hno
                generalize maskN (belL (lvN L) (lsN L) k) u = mm at *
                generalize 2 ^ u = p2 at *
                go_quiet (fail)
                go_wp2_with (go_at_call 8; with_reducible refine (Hp.out _).mono ?_; rintro e w' ⟨rfl, rfl⟩)
                refine ⟨⟨u + 1, ?pa, ?pb, ?pc, Hok2, hbi2 _⟩, ?pd⟩
                case pa => omega
                case pb => go_num
                case pc => rw [Hs.out]; go_num
                case pd => simp [intOf]; omega
              | false =>
                have Hs := Lib.hid (Hno.out His.out)
                clear Hyes Hno
                generalize maskN (belL (lvN L) (lsN L) k) u = mm at *
                go_quiet (fail)
                go_wp2_with fail
                refine ⟨⟨u + 1, ?pe, ?pf, ?pg, Hok2, hbi2 _⟩, ?ph⟩
                case pe => omega
                case pf => go_num
                case pg => rw [Hs.out]
                case ph => simp [intOf]; omega
            · have dku : ((k : Int) != (u : Int)) = true := by simp; omega
              by_cases hv : lvN L k = lvN L u
              · by_cases hs : lsN L k = lsN L u
                · have d1 : (((lvN L k : Nat) : Int) == ((lvN L u : Nat) : Int)) = true := by rw [hv]; simp
                  have d2 : (((lsN L k : Nat) : Int) == ((lsN L u : Nat) : Int)) = true := by rw [hs]; simp
                  clear HokN hku hv hs Hyes Hno
                  generalize lvN L k = vk at *
                  generalize lvN L u = vu at *
                  generalize lsN L k = sk at *
                  generalize lsN L u = su at *
                  go_quiet (fail)
                  go_wp2_with fail
                  go_ret
                  exact ⟨rfl, belowD hbr5 _⟩
                · have d1 : (((lvN L k : Nat) : Int) == ((lvN L u : Nat) : Int)) = true := by rw [hv]; simp
                  have d2 : (((lsN L k : Nat) : Int) == ((lsN L u : Nat) : Int)) = false := beq_eq_false_iff_ne.2 (fun e => hs (Int.ofNat.inj e))
                  have Hok2 := Lib.hid (HokN.out fun _ h => hs h.2)
                  clear HokN hku hv hs
                  have hm12 := maskN_bd (belL (lvN L) (lsN L) k) u
                  have hm13 : maskN (belL (lvN L) (lsN L) k) u < 2 ^ 12 := Nat.lt_of_lt_of_le hm12 (Nat.pow_le_pow_right (by decide) (by omega))
                  clear hm12
                  cases is with
                  | true =>
                    have Hs := Lib.hid (Hyes.out His.out)
                    have Hp := Lib.hid (fun V => Pow2_any u V (by omega))
                    have hp12 : 2 ^ u < 2 ^ 12 := Nat.pow_lt_pow_right (by decide) (by omega)
                    clear Hyes Hno
                    generalize maskN (belL (lvN L) (lsN L) k) u = mm at *
                    generalize 2 ^ u = p2 at *
                    go_quiet (fail)
                    go_wp2_with (go_at_call 8; with_reducible refine (Hp.out _).mono ?_; rintro e w' ⟨rfl, rfl⟩)
                    refine ⟨⟨u + 1, ?qa, ?qb, ?qc, Hok2, hbi2 _⟩, ?qd⟩
                    case qa => omega
                    case qb => go_num
                    case qc => rw [Hs.out]; go_num
                    case qd => simp [intOf]; omega
                  | false =>
                    have Hs := Lib.hid (Hno.out His.out)
                    clear Hyes Hno
                    generalize maskN (belL (lvN L) (lsN L) k) u = mm at *
                    go_quiet (fail)
                    go_wp2_with fail
                    refine ⟨⟨u + 1, ?qe, ?qf, ?qg, Hok2, hbi2 _⟩, ?qh⟩
                    case qe => omega
                    case qf => go_num
                    case qg => rw [Hs.out]
                    case qh => simp [intOf]; omega
              · have d1 : (((lvN L k : Nat) : Int) == ((lvN L u : Nat) : Int)) = false := beq_eq_false_iff_ne.2 (fun e => hv (Int.ofNat.inj e))
                have Hok2 := Lib.hid (HokN.out fun _ h => hv h.1)
                clear HokN hku hv
                have hm12 := maskN_bd (belL (lvN L) (lsN L) k) u
                have hm13 : maskN (belL (lvN L) (lsN L) k) u < 2 ^ 12 := Nat.lt_of_lt_of_le hm12 (Nat.pow_le_pow_right (by decide) (by omega))
                clear hm12
                cases is with
                | true =>
                  have Hs := Lib.hid (Hyes.out His.out)
                  have Hp := Lib.hid (fun V => Pow2_any u V (by omega))
                  have hp12 : 2 ^ u < 2 ^ 12 := Nat.pow_lt_pow_right (by decide) (by omega)
                  clear Hyes Hno
                  generalize maskN (belL (lvN L) (lsN L) k) u = mm at *
                  generalize 2 ^ u = p2 at *
                  go_quiet (fail)
                  go_wp2_with (go_at_call 8; with_reducible refine (Hp.out _).mono ?_; rintro e w' ⟨rfl, rfl⟩)
                  refine ⟨⟨u + 1, ?ra, ?rb, ?rc, Hok2, hbi2 _⟩, ?rd⟩
                  case ra => omega
                  case rb => go_num
                  case rc => rw [Hs.out]; go_num
                  case rd => simp [intOf]; omega
                | false =>
                  have Hs := Lib.hid (Hno.out His.out)
                  clear Hyes Hno
                  generalize maskN (belL (lvN L) (lsN L) k) u = mm at *
                  go_quiet (fail)
                  go_wp2_with fail
                  refine ⟨⟨u + 1, ?re, ?rf, ?rg, Hok2, hbi2 _⟩, ?rh⟩
                  case re => omega
                  case rf => go_num
                  case rg => rw [Hs.out]
                  case rh => simp [intOf]; omega
          · have HB := Lib.hid (fun V => Below_bad (gI L (k * 2)) (gI L (k * 2 + 1)) (gI L (u * 2)) (gI L (u * 2 + 1)) V hpair)
            clear hpair hok
            generalize gI L (k * 2) = q1 at *
            generalize gI L (k * 2 + 1) = q2 at *
            generalize gI L (u * 2) = q3 at *
            generalize gI L (u * 2 + 1) = q4 at *
            have HQ := Lib.hid (fun (d : Nat) (os : Array Obj) => Calls.regrown_of (HB.out (Sort.grow (redrawn wr d) os)))
            have e0 := cell_regrown ck0
            have e1 := cell_regrown ck1
            have e2 := cell_regrown cu0
            have e3 := cell_regrown cu1
            go_wp2_with fail
            refine wp_region_quiet_below (by kernel_rfl) (by kernel_rfl) ?_
            repeat (go_big_quiet_step (with_reducible exact HQ.out _ _))
            refine wpQuiet_nil ?_
            rintro _ ⟨pq, rfl⟩
            have hb6 := below_regrown wr pq.d pq.os
            generalize Sort.grow (redrawn wr pq.d) pq.os = w5 at *
            clear e0 e1 e2 e3 HQ

            have hbr5 := hbri.trans (hb6.mono hbri.size)
            clear ck0 ck1 cu0 cu1 hb6
            go_wp2_with fail
            go_quiet (fail)
            go_wp2_with fail
            go_ret
            exact ⟨rfl, belowD hbr5 _⟩
        · obtain rfl : u = n := by omega
          have dlt : decide ((u : Int) < (u : Int)) = false := by simp
          have hO2 := HO.out.next hbi
          have hbw2 := hbw.trans (hbi.mono hbw.size)
          have hbws := hbw2.size
          have Hall2 := Lib.hid (show ∀ x, x < k + 1 → ∀ y, y < u → okL L x y from fun x hx y hy => by
            rcases Nat.lt_or_ge x k with h1 | h1
            · exact hall.out x h1 y hy
            · obtain rfl : x = k := by omega
              exact hok.out y hy)
          have hlen2 : (castL ((List.range k).map fun x => maskN (belL (lvN L) (lsN L) x) u)).length = k := by rw [length_castL]; simp
          have hl40 : (castL ((List.range k).map fun x => maskN (belL (lvN L) (lsN L) x) u)).length < 2 ^ 40 := by omega
          have Hnx := Lib.hid (show castL ((List.range (k + 1)).map fun x => maskN (belL (lvN L) (lsN L) x) u) = castL ((List.range k).map fun x => maskN (belL (lvN L) (lsN L) x) u) ++ [((maskN (belL (lvN L) (lsN L) k) u : Nat) : Int)] by
            rw [List.range_succ, List.map_append]; unfold castL; rw [List.map_append]; rfl)
          clear hlen2 hall hok HO
          generalize maskN (belL (lvN L) (lsN L) k) u = mm at *
          go_wp2_with (at_builtin; refine wpList_push_int rfl _ _ rfl (v := u9) rfl (hO2.next ((Below.refl _ wr).alloc (Nat.le_refl _) _)) wr.heap.size (mm : Int) rfl (cell_of_row _ _ 0 _ _ _ (heap_alloc_new wr _)) hl40 (by simp; omega) ?_; intro v' w' hown' _ _ hbl; have hb' := hbl _ (hbw2.alloc hbws _))
          refine ⟨⟨k + 1, ?wa, ?wb, ?wc, Hall2, hb'⟩, ?wd⟩
          case wa => omega
          case wb => go_num
          case wc => rw [Hnx.out]; exact hown'
          case wd => simp [intOf]; omega
    · obtain rfl : k = n := by omega
      have dlt : decide ((k : Int) < (k : Int)) = false := by simp
      obtain ⟨B, cc, hv, hri⟩ := hown.form
      have hlen : (castL ((List.range k).map fun x => maskN (belL (lvN L) (lsN L) x) k)).length = k := by rw [length_castL]; simp
      rw [hlen] at hv
      have HR := Lib.hid (show IntsAt wr B (castL (topR (lvN L) (lsN L) k)) from hri)
      have Hd := Lib.hid (show ∀ x y, x < k → y < k → x ≠ y → ¬ (lvN L x = lvN L y ∧ lsN L x = lsN L y) from fun x y hx hy => (hall.out x hx y hy).2.2)
      have Hok := Lib.hid (show ∀ x, x < k → labOk (gI L (x * 2)) (gI L (x * 2 + 1)) from fun x hx => (hall.out x hx x hx).1)
      have hTr := hT.next hbr
      have CC := Lib.hid (Closure_ok (topR (lvN L) (lsN L) k) (by rw [topR_len]; exact h12) topR_bd B cc wr HR.out)
      rw [topR_len, closed_top] at CC
      clear hown hri hlen hall
      subst hv
      go_wp2_with fail
      refine CC.out.mono ?_
      rintro e w3 ⟨B3, c3, rfl, hi3, hb3⟩
      have hbr3 := hbr.trans (hb3.mono hbr.size)
      have HR3 := Lib.hid (HR.out.below hb3)
      have CO := Lib.hid (Order_ok (topR (lvN L) (lsN L) k) (by rw [topR_len]; exact h12) topR_bd B cc w3 HR3.out (hT.next hbr3))
      rw [topR_len, order_top h12 Hd.out] at CO
      clear CC HR hb3 hTr hbr
      go_wp2_with fail
      refine CO.out.mono ?_
      rintro e w4 ⟨rfl, hb4⟩
      have hbr4 := hbr3.trans (hb4.mono hbr3.size)
      have HR4 := Lib.hid (HR3.out.below hb4)
      have hi4 := hi3.below hb4
      have CI := Ints_any _ _ B3 B c3 cc w4 hi4 HR4.out (by rw [length_castL, topR_len]; omega)
      rw [length_castL, topR_len, decide_eq_true rfl] at CI
      have CI := Lib.hid CI
      clear CO HR3 hi3 hb4 hbr3 hi4
      go_wp2_with (go_at_call 11; with_reducible refine CI.out.mono ?_; rintro e w5 ⟨rfl, nq, rfl⟩)
      have hbr_wa : Below w.heap.size w (w4.drewN nq) := belowD hbr4 nq
      have HRa := Lib.hid (HR4.out.below (belowD (Below.refl _ _) nq))
      clear CI HR4 hbr4
      go_wp2_with fail
      generalize w4.drewN nq = wa at *
      have Ei0 := Lib.hid (show gI L (i * 2) = ((lvN L i : Nat) : Int) by have := (Hok.out i hi).1; simp only [lvN]; omega)
      have Ei1 := Lib.hid (show gI L (i * 2 + 1) = ((lsN L i : Nat) : Int) by have := (Hok.out i hi).2.2.1; simp only [lsN]; omega)
      have Ej0 := Lib.hid (show gI L (j * 2) = ((lvN L j : Nat) : Int) by have := (Hok.out j hj).1; simp only [lvN]; omega)
      have Ej1 := Lib.hid (show gI L (j * 2 + 1) = ((lsN L j : Nat) : Int) by have := (Hok.out j hj).2.2.1; simp only [lsN]; omega)
      obtain ⟨mx, hmx⟩ : ∃ mx, max (lvN L i) (lvN L j) = mx := ⟨_, rfl⟩
      obtain ⟨mn, hmn⟩ : ∃ mn, min (lvN L i) (lvN L j) = mn := ⟨_, rfl⟩
      obtain ⟨su, hsu⟩ : ∃ su, lsN L i ||| lsN L j = su := ⟨_, rfl⟩
      obtain ⟨sn, hsn⟩ : ∃ sn, lsN L i &&& lsN L j = sn := ⟨_, rfl⟩
      have hJ := fun V => Join_ok (gI L (i * 2)) (gI L (j * 2)) (lsN L i) (lsN L j) V (by rw [← Ei1.out]; exact Hok.out i hi) (by rw [← Ej1.out]; exact Hok.out j hj)
      have hM := fun V => Meet_ok (gI L (i * 2)) (gI L (j * 2)) (lsN L i) (lsN L j) V (by rw [← Ei1.out]; exact Hok.out i hi) (by rw [← Ej1.out]; exact Hok.out j hj)
      rw [Ei0.out, Ej0.out, hsu, show max ((lvN L i : Nat) : Int) ((lvN L j : Nat) : Int) = ((mx : Nat) : Int) by omega] at hJ
      rw [Ei0.out, Ej0.out, hsn, show min ((lvN L i : Nat) : Int) ((lvN L j : Nat) : Int) = ((mn : Nat) : Int) by omega] at hM
      have CJ := Lib.hid hJ
      have CM := Lib.hid hM
      have Hjoin := Lib.hid (show ∀ a, a < k → lvN L a = mx → lsN L a = su → boundV (castL (topR (lvN L) (lsN L) k)) false i j = ((a : Int), 0) from fun a ha h1 h2 => join_top h12 Hd.out hi hj ha (by rw [h1, hmx]) (by rw [h2, hsu]))
      have Hmeet := Lib.hid (show ∀ a, a < k → lvN L a = mn → lsN L a = sn → boundV (castL (topR (lvN L) (lsN L) k)) true i j = ((a : Int), 0) from fun a ha h1 h2 => meet_top h12 Hd.out hi hj ha (by rw [h1, hmn]) (by rw [h2, hsn]))
      clear hJ hM hmx hmn hsu hsn
      obtain ⟨ci0, ci1⟩ := HI.out wa hbr_wa i hi
      obtain ⟨cj0, cj1⟩ := HI.out wa hbr_wa j hj
      rw [Ei0.out] at ci0
      rw [Ei1.out] at ci1
      rw [Ej0.out] at cj0
      rw [Ej1.out] at cj1
      have l0 := block_lt ci0
      have hKeep := Lib.hid (fun V (hV : Below wa.heap.size wa V) => (⟨(hV.cell (p := ⟨b, off + i * 2, none⟩) l0).trans ci0, (hV.cell (p := ⟨b, off + i * 2 + 1, none⟩) l0).trans ci1, (hV.cell (p := ⟨b, off + j * 2, none⟩) l0).trans cj0, (hV.cell (p := ⟨b, off + j * 2 + 1, none⟩) l0).trans cj1⟩ :
        V.cell? ⟨b, off + i * 2, none⟩ = some (.int .i64 (lvN L i : Nat)) ∧ V.cell? ⟨b, off + i * 2 + 1, none⟩ = some (.int .i64 (lsN L i : Nat)) ∧ V.cell? ⟨b, off + j * 2, none⟩ = some (.int .i64 (lvN L j : Nat)) ∧ V.cell? ⟨b, off + j * 2 + 1, none⟩ = some (.int .i64 (lsN L j : Nat))))
      have CQ := Lib.hid (fun V (hV : Below wa.heap.size wa V) => (CJ.out V).mono fun e w' ⟨he, hb⟩ => (⟨he, hV.trans (hb.mono hV.size), hb⟩ : _ ∧ Below wa.heap.size wa w' ∧ Below V.heap.size V w'))
      have hbA : Below wa.heap.size wa wa.drew := (Below.refl _ _).drew
      have hbB : Below wa.heap.size wa ((wa.alloc (.cells #[.int .i64 0, .int .i64 0] 28)).drew) := ((Below.refl _ _).alloc (Nat.le_refl _) _).drew
      have hZ : BoxN ((wa.alloc (.cells #[.int .i64 0, .int .i64 0] 28)).drew) wa.heap.size 28 #[.int .i64 0, .int .i64 0] := (BoxN.new wa _ _).drew
      clear ci0 ci1 cj0 cj1
      go_cut [19, 20] from 146 to 156 (fun xp xe wx => ∃ xc : Nat, xp = .pointer (some ⟨xc, 0, none⟩) ∧ xe = .nilIface ∧ BoxN wx xc 28 #[.int .i64 mx, .int .i64 su] ∧ Below wa.heap.size wa wx)
      case first =>
        go_region_held3 (fun V => V.cell? ⟨b, off + i * 2, none⟩ = some (.int .i64 (lvN L i : Nat)) ∧ V.cell? ⟨b, off + i * 2 + 1, none⟩ = some (.int .i64 (lsN L i : Nat)) ∧ V.cell? ⟨b, off + j * 2, none⟩ = some (.int .i64 (lvN L j : Nat)) ∧ V.cell? ⟨b, off + j * 2 + 1, none⟩ = some (.int .i64 (lsN L j : Nat)))
          ((refine hKeep.out _ ?_; repeat (first | assumption | exact hbA | exact hbB | refine Below.setCell ?_ (by simp) _ | refine Below.alloc ?_ (by first | exact Nat.le_refl _ | exact Below.size (by assumption)) _ | refine Below.drew ?_)))
          ((go_at_call 12; with_reducible refine (CQ.out _ (by first | exact hbA | exact hbB)).mono ?_; rintro e w5 ⟨rfl, hb5, hbv⟩; try (have hz5 := BoxN.all hZ hbv; have z0 := hz5.cell (k := 0) rfl; have z1 := hz5.cell (k := 1) rfl; have fz0 := hz5.free 0; have fz1 := hz5.free 1)))
        all_goals (go_wp2_with fail; go_meet)
        · exact ⟨_, rfl, rfl, BoxN.new _ _ _, hb5.alloc hb5.size _⟩
        · exact ⟨_, rfl, rfl, (hz5.set 0 _).set 1 _, (hb5.setCell (p := ⟨_, 0, none⟩) (Nat.le_refl _) _).setCell (p := ⟨_, 1, none⟩) (Nat.le_refl _) _⟩
      case rest =>
      obtain ⟨xj, rfl, rfl, hXxj, hbxxj⟩ := hcut
      clear CQ hbA hbB hZ hKeep
      have hbr_wb : Below w.heap.size w wc := hbr_wa.trans (hbxxj.mono hbr_wa.size)
      have HRb := Lib.hid (HRa.out.below hbxxj)
      clear HRa hbxxj l0 hbr_wa
      obtain ⟨wb, hwb⟩ : ∃ wb, wb = wc := ⟨_, rfl⟩
      subst hwb
      go_wp2_with fail
      obtain ⟨ci0, ci1⟩ := HI.out wb hbr_wb i hi
      obtain ⟨cj0, cj1⟩ := HI.out wb hbr_wb j hj
      rw [Ei0.out] at ci0
      rw [Ei1.out] at ci1
      rw [Ej0.out] at cj0
      rw [Ej1.out] at cj1
      have l0 := block_lt ci0
      have hKeep := Lib.hid (fun V (hV : Below wb.heap.size wb V) => (⟨(hV.cell (p := ⟨b, off + i * 2, none⟩) l0).trans ci0, (hV.cell (p := ⟨b, off + i * 2 + 1, none⟩) l0).trans ci1, (hV.cell (p := ⟨b, off + j * 2, none⟩) l0).trans cj0, (hV.cell (p := ⟨b, off + j * 2 + 1, none⟩) l0).trans cj1⟩ :
        V.cell? ⟨b, off + i * 2, none⟩ = some (.int .i64 (lvN L i : Nat)) ∧ V.cell? ⟨b, off + i * 2 + 1, none⟩ = some (.int .i64 (lsN L i : Nat)) ∧ V.cell? ⟨b, off + j * 2, none⟩ = some (.int .i64 (lvN L j : Nat)) ∧ V.cell? ⟨b, off + j * 2 + 1, none⟩ = some (.int .i64 (lsN L j : Nat))))
      have CQ := Lib.hid (fun V (hV : Below wb.heap.size wb V) => (CM.out V).mono fun e w' ⟨he, hb⟩ => (⟨he, hV.trans (hb.mono hV.size), hb⟩ : _ ∧ Below wb.heap.size wb w' ∧ Below V.heap.size V w'))
      have hbA : Below wb.heap.size wb wb.drew := (Below.refl _ _).drew
      have hbB : Below wb.heap.size wb ((wb.alloc (.cells #[.int .i64 0, .int .i64 0] 28)).drew) := ((Below.refl _ _).alloc (Nat.le_refl _) _).drew
      have hZ : BoxN ((wb.alloc (.cells #[.int .i64 0, .int .i64 0] 28)).drew) wb.heap.size 28 #[.int .i64 0, .int .i64 0] := (BoxN.new wb _ _).drew
      clear ci0 ci1 cj0 cj1
      go_cut [21, 22] from 158 to 168 (fun xp xe wx => ∃ xc : Nat, xp = .pointer (some ⟨xc, 0, none⟩) ∧ xe = .nilIface ∧ BoxN wx xc 28 #[.int .i64 mn, .int .i64 sn] ∧ Below wb.heap.size wb wx)
      case first =>
        go_region_held3 (fun V => V.cell? ⟨b, off + i * 2, none⟩ = some (.int .i64 (lvN L i : Nat)) ∧ V.cell? ⟨b, off + i * 2 + 1, none⟩ = some (.int .i64 (lsN L i : Nat)) ∧ V.cell? ⟨b, off + j * 2, none⟩ = some (.int .i64 (lvN L j : Nat)) ∧ V.cell? ⟨b, off + j * 2 + 1, none⟩ = some (.int .i64 (lsN L j : Nat)))
          ((refine hKeep.out _ ?_; repeat (first | assumption | exact hbA | exact hbB | refine Below.setCell ?_ (by simp) _ | refine Below.alloc ?_ (by first | exact Nat.le_refl _ | exact Below.size (by assumption)) _ | refine Below.drew ?_)))
          ((go_at_call 13; with_reducible refine (CQ.out _ (by first | exact hbA | exact hbB)).mono ?_; rintro e w5 ⟨rfl, hb5, hbv⟩; try (have hz5 := BoxN.all hZ hbv; have z0 := hz5.cell (k := 0) rfl; have z1 := hz5.cell (k := 1) rfl; have fz0 := hz5.free 0; have fz1 := hz5.free 1)))
        all_goals (go_wp2_with fail; go_meet)
        · exact ⟨_, rfl, rfl, BoxN.new _ _ _, hb5.alloc hb5.size _⟩
        · exact ⟨_, rfl, rfl, (hz5.set 0 _).set 1 _, (hb5.setCell (p := ⟨_, 0, none⟩) (Nat.le_refl _) _).setCell (p := ⟨_, 1, none⟩) (Nat.le_refl _) _⟩
      case rest =>
      obtain ⟨xm, rfl, rfl, hXxm, hbxxm⟩ := hcut
      clear CQ hbA hbB hZ hKeep
      obtain ⟨wd, hwd⟩ : ∃ wd, wd = wc := ⟨_, rfl⟩
      subst hwd
      have hbr_wd : Below w.heap.size w wd := hbr_wb.trans (hbxxm.mono hbr_wb.size)
      have HRd := Lib.hid (HRb.out.below hbxxm)
      have hXj := hXxj.all hbxxm
      clear HRb hbxxm l0 hXxj hbr_wb CJ CM Ei0 Ei1 Ej0 Ej1
      have JA := fun (V : World) (hV : Below wd.heap.size wd V) => Join_any (castL (topR (lvN L) (lsN L) k)) (by rw [length_castL, topR_len]; omega) B cc i j V (HRd.out.below hV) (hT.next (hbr_wd.trans (hV.mono hbr_wd.size)))
      have MA := fun (V : World) (hV : Below wd.heap.size wd V) => Meet_any (castL (topR (lvN L) (lsN L) k)) (by rw [length_castL, topR_len]; omega) B cc i j V (HRd.out.below hV) (hT.next (hbr_wd.trans (hV.mono hbr_wd.size)))
      simp only [length_castL, topR_len] at JA MA
      generalize boundV (castL (topR (lvN L) (lsN L) k)) false i j = bj at *
      generalize boundV (castL (topR (lvN L) (lsN L) k)) true i j = bm at *
      obtain ⟨nj, ej⟩ := bj
      obtain ⟨nm, em⟩ := bm
      have JA := Lib.hid JA
      have MA := Lib.hid MA
      go_wp2_with fail
      refine (JA.out wd (Below.refl _ _)).mono ?_
      rintro e w6 ⟨rfl, hb6⟩
      have hXj6 := hXj.all hb6
      have hXm6 := hXxm.all hb6
      have hbr6 := hbr_wd.trans (hb6.mono hbr_wd.size)
      have MA6 := Lib.hid (MA.out w6 hb6)
      clear JA MA hXj hXxm hb6 hbr_wd HRd
      go_wp2_with fail
      refine MA6.out.mono ?_
      rintro e w7 ⟨rfl, hb7⟩
      have hXj7 := hXj6.all hb7
      have hXm7 := hXm6.all hb7
      have hbr7 := hbr6.trans (hb7.mono hbr6.size)
      clear MA6 hXj6 hXm6 hb7 hbr6
      go_wp2_with fail
      go_loopw [27] (fun a wr => ∃ x : Nat, x ≤ k ∧ a = .int .i64 x ∧ Hid (∃ d, wr = w7.drewN d)) (fun a _ => k - (intOf a).toNat)
      case atStart => exact ⟨0, Nat.zero_le _, rfl, Lib.hid ⟨0, rfl⟩⟩
      case round =>
        obtain ⟨x, hx, rfl, hdr⟩ := hrel
        have hbr8 : Below w.heap.size w wr := by obtain ⟨d, rfl⟩ := hdr.out; exact belowD hbr7 d
        by_cases hxk : x < k
        · have dlt2 : decide ((x : Int) < (k : Int)) = true := decide_eq_true (by omega)
          have HdN := Lib.hid (show ∀ q, ∃ d, wr.drewN q = w7.drewN d from fun q => by obtain ⟨d, rfl⟩ := hdr.out; exact ⟨d + q, by simp only [World.drewN, Nat.add_assoc]⟩)
          obtain ⟨ca0, ca1⟩ := HI.out wr hbr8 x hxk
          rw [show gI L (x * 2) = ((lvN L x : Nat) : Int) by have := (Hok.out x hxk).1; simp only [lvN]; omega] at ca0
          rw [show gI L (x * 2 + 1) = ((lsN L x : Nat) : Int) by have := (Hok.out x hxk).2.2.1; simp only [lsN]; omega] at ca1
          have xj0 : wr.cell? ⟨xj, 0, none⟩ = some (.int .i64 (mx : Nat)) := by obtain ⟨d, rfl⟩ := hdr.out; exact hXj7.cell rfl
          have xj1 : wr.cell? ⟨xj, 1, none⟩ = some (.int .i64 (su : Nat)) := by obtain ⟨d, rfl⟩ := hdr.out; exact hXj7.cell rfl
          have xm0 : wr.cell? ⟨xm, 0, none⟩ = some (.int .i64 (mn : Nat)) := by obtain ⟨d, rfl⟩ := hdr.out; exact hXm7.cell rfl
          have xm1 : wr.cell? ⟨xm, 1, none⟩ = some (.int .i64 (sn : Nat)) := by obtain ⟨d, rfl⟩ := hdr.out; exact hXm7.cell rfl
          have HJx := Lib.hid (Hjoin.out x hxk)
          have HMx := Lib.hid (Hmeet.out x hxk)
          clear HI Hok Hd
          generalize lvN L x = vx at *
          generalize lsN L x = sx at *
          by_cases hvX : vx = mx
          · have dvX : ((vx : Int) == (mx : Int)) = true := by rw [hvX]; simp
            by_cases hsX : sx = su
            · have dsX : ((sx : Int) == (su : Int)) = true := by rw [hsX]; simp
              by_cases hvY : vx = mn
              · have dvY : ((vx : Int) == (mn : Int)) = true := by rw [hvY]; simp
                by_cases hsY : sx = sn
                · have dsY : ((sx : Int) == (sn : Int)) = true := by rw [hsY]; simp
                  have hJ0 := HJx.out hvX hsX
                  have hnj : errVal ej = .nilIface := by injection hJ0 with _ h2; subst h2; rfl
                  have dnj : (nj != (x : Int)) = false := by injection hJ0 with h1 _; subst h1; simp
                  have hM0 := HMx.out hvY hsY
                  have hnm : errVal em = .nilIface := by injection hM0 with _ h2; subst h2; rfl
                  have dnm : (nm != (x : Int)) = false := by injection hM0 with h1 _; subst h1; simp
                  clear HJx HMx hJ0 hvX hsX hM0 hvY hsY
                  go_wp2_with fail
                  go_quiet (fail)
                  go_wp2_with fail
                  refine ⟨⟨x + 1, ?kaa, ?kab, Lib.hid (HdN.out _)⟩, ?kad⟩
                  case kaa => omega
                  case kab => go_num
                  case kad => simp [intOf]; omega
                · have dsY : ((sx : Int) == (sn : Int)) = false := beq_eq_false_iff_ne.2 (fun e => hsY (Int.ofNat.inj e))
                  have hJ0 := HJx.out hvX hsX
                  have hnj : errVal ej = .nilIface := by injection hJ0 with _ h2; subst h2; rfl
                  have dnj : (nj != (x : Int)) = false := by injection hJ0 with h1 _; subst h1; simp
                  clear HJx HMx hJ0 hvX hsX hvY hsY
                  go_wp2_with fail
                  go_quiet (fail)
                  go_wp2_with fail
                  refine ⟨⟨x + 1, ?kba, ?kbb, Lib.hid (HdN.out _)⟩, ?kbd⟩
                  case kba => omega
                  case kbb => go_num
                  case kbd => simp [intOf]; omega
              · have dvY : ((vx : Int) == (mn : Int)) = false := beq_eq_false_iff_ne.2 (fun e => hvY (Int.ofNat.inj e))
                have hJ0 := HJx.out hvX hsX
                have hnj : errVal ej = .nilIface := by injection hJ0 with _ h2; subst h2; rfl
                have dnj : (nj != (x : Int)) = false := by injection hJ0 with h1 _; subst h1; simp
                clear HJx HMx hJ0 hvX hsX hvY
                go_wp2_with fail
                go_quiet (fail)
                go_wp2_with fail
                refine ⟨⟨x + 1, ?kca, ?kcb, Lib.hid (HdN.out _)⟩, ?kcd⟩
                case kca => omega
                case kcb => go_num
                case kcd => simp [intOf]; omega
            · have dsX : ((sx : Int) == (su : Int)) = false := beq_eq_false_iff_ne.2 (fun e => hsX (Int.ofNat.inj e))
              by_cases hvY : vx = mn
              · have dvY : ((vx : Int) == (mn : Int)) = true := by rw [hvY]; simp
                by_cases hsY : sx = sn
                · have dsY : ((sx : Int) == (sn : Int)) = true := by rw [hsY]; simp
                  have hM0 := HMx.out hvY hsY
                  have hnm : errVal em = .nilIface := by injection hM0 with _ h2; subst h2; rfl
                  have dnm : (nm != (x : Int)) = false := by injection hM0 with h1 _; subst h1; simp
                  clear HJx HMx hvX hsX hM0 hvY hsY
                  go_wp2_with fail
                  go_quiet (fail)
                  go_wp2_with fail
                  refine ⟨⟨x + 1, ?kda, ?kdb, Lib.hid (HdN.out _)⟩, ?kdd⟩
                  case kda => omega
                  case kdb => go_num
                  case kdd => simp [intOf]; omega
                · have dsY : ((sx : Int) == (sn : Int)) = false := beq_eq_false_iff_ne.2 (fun e => hsY (Int.ofNat.inj e))
                  clear HJx HMx hvX hsX hvY hsY
                  go_wp2_with fail
                  go_quiet (fail)
                  go_wp2_with fail
                  refine ⟨⟨x + 1, ?kea, ?keb, Lib.hid (HdN.out _)⟩, ?ked⟩
                  case kea => omega
                  case keb => go_num
                  case ked => simp [intOf]; omega
              · have dvY : ((vx : Int) == (mn : Int)) = false := beq_eq_false_iff_ne.2 (fun e => hvY (Int.ofNat.inj e))
                clear HJx HMx hvX hsX hvY
                go_wp2_with fail
                go_quiet (fail)
                go_wp2_with fail
                refine ⟨⟨x + 1, ?kfa, ?kfb, Lib.hid (HdN.out _)⟩, ?kfd⟩
                case kfa => omega
                case kfb => go_num
                case kfd => simp [intOf]; omega
          · have dvX : ((vx : Int) == (mx : Int)) = false := beq_eq_false_iff_ne.2 (fun e => hvX (Int.ofNat.inj e))
            by_cases hvY : vx = mn
            · have dvY : ((vx : Int) == (mn : Int)) = true := by rw [hvY]; simp
              by_cases hsY : sx = sn
              · have dsY : ((sx : Int) == (sn : Int)) = true := by rw [hsY]; simp
                have hM0 := HMx.out hvY hsY
                have hnm : errVal em = .nilIface := by injection hM0 with _ h2; subst h2; rfl
                have dnm : (nm != (x : Int)) = false := by injection hM0 with h1 _; subst h1; simp
                clear HJx HMx hvX hM0 hvY hsY
                go_wp2_with fail
                go_quiet (fail)
                go_wp2_with fail
                refine ⟨⟨x + 1, ?kga, ?kgb, Lib.hid (HdN.out _)⟩, ?kgd⟩
                case kga => omega
                case kgb => go_num
                case kgd => simp [intOf]; omega
              · have dsY : ((sx : Int) == (sn : Int)) = false := beq_eq_false_iff_ne.2 (fun e => hsY (Int.ofNat.inj e))
                clear HJx HMx hvX hvY hsY
                go_wp2_with fail
                go_quiet (fail)
                go_wp2_with fail
                refine ⟨⟨x + 1, ?kha, ?khb, Lib.hid (HdN.out _)⟩, ?khd⟩
                case kha => omega
                case khb => go_num
                case khd => simp [intOf]; omega
            · have dvY : ((vx : Int) == (mn : Int)) = false := beq_eq_false_iff_ne.2 (fun e => hvY (Int.ofNat.inj e))
              clear HJx HMx hvX hvY
              go_wp2_with fail
              go_quiet (fail)
              go_wp2_with fail
              refine ⟨⟨x + 1, ?kia, ?kib, Lib.hid (HdN.out _)⟩, ?kid⟩
              case kia => omega
              case kib => go_num
              case kid => simp [intOf]; omega
        · obtain rfl : x = k := by omega
          have dlt2 : decide ((x : Int) < (x : Int)) = false := by simp
          go_wp2_with fail
          go_ret
          exact ⟨rfl, hbr8⟩

theorem TopLabels_walk (n : Nat) (L : List Int) (A : Option Addr) (c : Nat) {W : World} (hn : L.length = n * 2) (h : IntsAt W A L) (hs : n * 2 < 2 ^ 47) (hI : ∀ x ∈ L, I64 x) (i : Int) (wi : I64 i) (j : Int) (wj : I64 j) (w : World) (hw : w = W) (hT : Tab W) :
    Calls Tryd.prog 3 #[.slice A n c, .int .i64 i, .int .i64 j] w fun e w' => e = .returned (.bool true) ∧ Below w.heap.size w w' := by
  subst hw
  by_cases hg : 0 < n ∧ n ≤ 12 ∧ (0 ≤ i ∧ i < n) ∧ (0 ≤ j ∧ j < n)
  · obtain ⟨h0, h12, hi, hj⟩ := hg
    obtain ⟨a, rfl⟩ := Int.eq_ofNat_of_zero_le hi.1
    obtain ⟨b, rfl⟩ := Int.eq_ofNat_of_zero_le hj.1
    exact TopLabels_in hn h0 h12 (by have := hi.2; omega) (by have := hj.2; omega) w h hT
  · exact TopLabels_out (L := L) hg w
end Go.Proofs.YtndeplakkhfmlaaDoor
