/-
  The walk of quietwinglaw1.RelWay.
-/
import Derived.Test.YtndeplakkhfmlaaDoorWayR
import Derived.Test.YtndeplakkhfmlaaDoorWayB
import Derived.Test.YtndeplakkhfmlaaDoorRelF
import Derived.Test.YtndeplakkhfmlaaDoorAs
import Derived.Test.YtndeplakkhfmlaaDoorFrame
namespace Go.Proofs.YtndeplakkhfmlaaDoor
open Go.RowKit
set_option maxRecDepth 100000
set_option linter.unusedVariables false

theorem RelWay_bad {l : List Int} {A : Option Addr} {c n m : Nat} {a b k : Int} (hn : l.length = n) (hl : n < 2 ^ 60) (hm : relCode l = m) (h0 : m ≠ 0) (w : World) (h : IntsAt w A l) :
    Calls Tryd.prog 5 #[.slice A n c, .int .i64 a, .int .i64 b, .int .i64 k] w fun e w' => e = .returned (.bool true) ∧ Below w.heap.size w w' := by
  have hc0 : relCode l ≠ 0 := by rw [hm]; exact h0
  have hw0 : wayCode l a b = m := by unfold wayCode; rw [if_pos hc0, hm]
  have C1 := Lib.hid (fun (V : World) (hV : Below w.heap.size w V) => show Calls Tryd.prog 9 #[.slice A n c] V fun e w' => e = .returned (.tuple #[.slice none 0 0, .iface 69 (.int .i64 m)]) ∧ V = w' by
    have := Closure_bad l A c V (h.below hV) (by omega) hc0
    rwa [hn, hm] at this)
  have C2 := Lib.hid (fun (V : World) (hV : Below w.heap.size w V) => show Calls Tryd.prog 27 #[.slice A n c, .int .i64 a, .int .i64 b] V fun e w' => e = .returned (.tuple #[.slice none 0 0, .iface 69 (.int .i64 m)]) ∧ V = w' by
    have := Way_bad l A c n a b hn V (h.below hV) hl (by rw [hw0]; exact h0)
    rwa [hw0] at this)
  clear h hm hc0 hw0 hn
  go_enter Tryd.func5, Tryd.ntmps5
  go_wp2_with fail
  refine (relFact_any w).mono ?_
  rintro e w1 ⟨rfl, hb1⟩
  go_wp2_with (first | (go_at_call 9; with_reducible refine (C1.out _ hb1).mono ?_; rintro e w' ⟨rfl, rfl⟩) | (go_at_call 27; with_reducible refine (C2.out _ hb1).mono ?_; rintro e w' ⟨rfl, rfl⟩))
  go_ret
  exact ⟨rfl, hb1⟩

set_option maxHeartbeats 2000000 in
theorem RelWay_out {r : List Nat} (h1 : r.length ≤ 12) (h2 : Bd r.length r) {A : Option Addr} {c n : Nat} {a b k : Int} (hn : r.length = n) (hout : ¬ ((0 ≤ a ∧ a < n) ∧ (0 ≤ b ∧ b < n))) (w : World) (h : IntsAt w A (castL r)) :
    Calls Tryd.prog 5 #[.slice A n c, .int .i64 a, .int .i64 b, .int .i64 k] w fun e w' => e = .returned (.bool true) ∧ Below w.heap.size w w' := by
  have hcn : (castL r).length = n := by rw [length_castL, hn]
  have hw0 : wayCode (castL r) a b = 1 := by unfold wayCode; rw [if_neg (by simpa using relCode_cast h1 h2), if_neg (by rw [hcn]; exact hout)]
  have C1 := Lib.hid (fun (V : World) (hV : Below w.heap.size w V) => show Calls Tryd.prog 9 #[.slice A n c] V fun e w' => ∃ B c', e = .returned (.tuple #[.slice B n c', .nilIface]) ∧ IntsAt w' B (castL (closed r)) ∧ Below V.heap.size V w' by
    have := Closure_ok r h1 h2 A c V (h.below hV)
    rwa [hn] at this)
  have C2 := Lib.hid (fun (V : World) (hV : Below w.heap.size w V) => show Calls Tryd.prog 27 #[.slice A n c, .int .i64 a, .int .i64 b] V fun e w' => e = .returned (.tuple #[.slice none 0 0, .iface 69 (.int .i64 1)]) ∧ V = w' by
    have := Way_bad (castL r) A c n a b hcn V (h.below hV) (by omega) (by rw [hw0]; decide)
    rwa [hw0] at this)
  have hq : (decide (a < 0) = true ∨ (decide (a < 0) = false ∧ decide (a ≥ n) = true) ∨ (decide (a < 0) = false ∧ decide (a ≥ n) = false ∧ decide (b < 0) = true) ∨ (decide (a < 0) = false ∧ decide (a ≥ n) = false ∧ decide (b < 0) = false ∧ decide (b ≥ n) = true)) := by
    simp only [decide_eq_true_eq, decide_eq_false_iff_not]; omega
  clear h hcn hw0 hout hn h1 h2
  rcases hq with g1 | ⟨g1, g2⟩ | ⟨g1, g2, g3⟩ | ⟨g1, g2, g3, g4⟩
  all_goals
    go_enter Tryd.func5, Tryd.ntmps5
    go_wp2_with fail
    refine (relFact_any w).mono ?_
    rintro e w1 ⟨rfl, hb1⟩
    go_wp2_with fail
    refine (C1.out _ hb1).mono ?_
    rintro e w2 ⟨B, c', rfl, hi, hb2⟩
    have hb3 := hb1.trans (hb2.mono hb1.size)
    go_wp2_with fail
    refine (C2.out _ hb3).mono ?_
    rintro e w' ⟨rfl, rfl⟩
    go_wp2_with fail
    go_ret
    exact ⟨rfl, hb3⟩

set_option maxHeartbeats 4000000 in
theorem RelWay_none {r : List Nat} (h1 : r.length ≤ 12) (h2 : Bd r.length r) {A : Option Addr} {c n a b : Nat} {k : Int} (hn : r.length = n) (ha : a < n) (hb : b < n) (hno : ∀ p', ¬ WayTo (rE r) a p' b) (w : World) (h : IntsAt w A (castL r)) (hT : Tab w) (hE : ErrT w) :
    Calls Tryd.prog 5 #[.slice A n c, .int .i64 a, .int .i64 b, .int .i64 k] w fun e w' => e = .returned (.bool true) ∧ Below w.heap.size w w' := by
  have C1 := Lib.hid (fun (V : World) (hV : Below w.heap.size w V) => show Calls Tryd.prog 9 #[.slice A n c] V fun e w' => ∃ B c', e = .returned (.tuple #[.slice B n c', .nilIface]) ∧ IntsAt w' B (castL (closed r)) ∧ Below V.heap.size V w' by
    have := Closure_ok r h1 h2 A c V (h.below hV)
    rwa [hn] at this)
  have C2 := Lib.hid (fun (V : World) (hV : Below w.heap.size w V) => show Calls Tryd.prog 27 #[.slice A n c, .int .i64 a, .int .i64 b] V fun e w' => e = .returned (.tuple #[.slice none 0 0, .iface 69 (.int .i64 5)]) ∧ Below V.heap.size V w' from
    (Way_ok r h1 h2 A c n a b hn ha hb V (h.below hV) (hT.next hV)).mono fun e w' ⟨hp, hbl⟩ => ⟨by
      rcases hp with ⟨p, _, _, _, _, _, _, hw, _⟩ | ⟨he, _⟩
      · exact absurd hw (hno p)
      · exact he, hbl⟩)
  have hbit : (row (closed r) a).testBit b = false := Bool.eq_false_iff.2 fun e => by
    obtain ⟨p, hp⟩ := bit_way h2 (by omega) e
    exact hno p hp
  have hra := Nat.lt_of_lt_of_le (closed_lt r h2 a) (Nat.pow_le_pow_right (by decide) h1)
  have HL := Lib.hid (show a < (closed r).length by rw [length_closed]; omega)
  have B1 := Lib.hid (fun V => Bit_is (row (closed r) a) b false V (by omega) (by omega) hbit)
  have g1 : decide ((a : Int) < 0) = false := by simp
  have g2 : decide ((b : Int) < 0) = false := by simp
  have g3 : decide ((a : Int) ≥ (n : Int)) = false := by simp; omega
  have g4 : decide ((b : Int) ≥ (n : Int)) = false := by simp; omega
  generalize closed r = cl at *
  clear h hno hbit hn h1 h2
  go_enter Tryd.func5, Tryd.ntmps5
  go_wp2_with fail
  refine (relFact_any w).mono ?_
  rintro e w1 ⟨rfl, hb1⟩
  go_wp2_with fail
  refine (C1.out _ hb1).mono ?_
  rintro e w2 ⟨B, c', rfl, hi, hb2⟩
  have hb3 := hb1.trans (hb2.mono hb1.size)
  go_wp2_with fail
  refine (C2.out _ hb3).mono ?_
  rintro e w4 ⟨rfl, hb4⟩
  have hb5 := hb3.trans (hb4.mono hb3.size)
  obtain ⟨b1, off, rfl, hc⟩ := (hi.below hb4).row (k := a) HL.out
  have hE5 := hE.next hb5
  have E5 := Lib.hid (fun q => Error_is 5 5 true (w4.drewN q) (hE.next (belowD hb5 q)) (by decide))
  rw [errVal_pos (by decide)] at E5
  clear hi hb1 hb2 hb3 hb4 C1 C2
  go_wp2_with fail
  go_quiet (first | (with_reducible exact quiet1 (B1.out _)))
  go_wp2_with fail
  refine (E5.out _).mono ?_
  rintro e w6 ⟨rfl, hb6⟩
  have hb7 := (belowD hb5 nq).trans (hb6.mono hb5.size)
  go_wp2_with fail
  go_ret
  exact ⟨rfl, hb7⟩

theorem row_getD (l : List Nat) (i : Nat) : row l i = l.getD i 0 := by unfold row; rw [List.getD_eq_getElem?_getD]
theorem ints_cell {w : World} {b off : Nat} {l : List Nat} (h : IntsAt w (some ⟨b, off, none⟩) (castL l)) {i : Nat} (hi : i < l.length) : w.cell? ⟨b, off + i, none⟩ = some (.int .i64 (row l i : Nat)) := by
  obtain ⟨b', off', e, hc⟩ := h.row hi
  injection e with e
  injection e with e1 e2
  subst e1; subst e2
  exact hc
/-- What holds of a way: its ends, its steps, no thing twice. -/
structure WayIs (r p : List Nat) (a b n : Nat) : Prop where
  pos : 0 < p.length
  few : p.length ≤ n
  head : row p 0 = a
  last : row p (p.length - 1) = b
  lt : ∀ i, i < p.length → row p i < n
  step : ∀ i, i + 1 < p.length → (row r (row p i)).testBit (row p (i + 1)) = true
  apart : ∀ i j, i < p.length → j < p.length → row p i = row p j → i = j
theorem way_is {r p : List Nat} {a b n : Nat} (hn : r.length = n) (ha : a < n) (hw : WayTo (rE r) a p b) (hl : ∀ p', WayTo (rE r) a p' b → SLe p p') : WayIs r p a b n := by
  have hd := least_nodup (good := fun y => y = b) hw rfl (fun p' x' h' e => by subst e; exact hl p' h')
  have hlt := way_lt (n := n) ha (fun x y e => by have := e.2.1; omega) hw
  refine ⟨hw.pos, nodup_le hd hlt, by rw [row_getD]; exact hw.head, by rw [row_getD]; exact hw.last, fun i hi => by rw [row_getD]; exact hlt _ (getD_mem hi), fun i hi => ?_, fun i j hi hj e => ?_⟩
  · rw [row_getD p i, row_getD p (i + 1)]; exact (hw.step i hi).2.2
  · rw [row_getD, row_getD] at e; exact nodup_getD hd hi hj e

set_option maxHeartbeats 8000000 in
theorem RelWay_found {r : List Nat} (h1 : r.length ≤ 12) (h2 : Bd r.length r) {A : Option Addr} {c n a b : Nat} {k : Int} (hn : r.length = n) (ha : a < n) (hb : b < n) {p : List Nat} (hw : WayTo (rE r) a p b) (hle : ∀ p', WayTo (rE r) a p' b → SLe p p') (w : World) (h : IntsAt w A (castL r)) (hT : Tab w) (hE : ErrT w) :
    Calls Tryd.prog 5 #[.slice A n c, .int .i64 a, .int .i64 b, .int .i64 k] w fun e w' => e = .returned (.bool true) ∧ Below w.heap.size w w' := by
  obtain ⟨m, hm⟩ : ∃ m, p.length = m := ⟨_, rfl⟩
  have C1 := Lib.hid (fun (V : World) (hV : Below w.heap.size w V) => show Calls Tryd.prog 9 #[.slice A n c] V fun e w' => ∃ B c', e = .returned (.tuple #[.slice B n c', .nilIface]) ∧ IntsAt w' B (castL (closed r)) ∧ Below V.heap.size V w' by
    have := Closure_ok r h1 h2 A c V (h.below hV)
    rwa [hn] at this)
  have C2 := Lib.hid (fun (V : World) (hV : Below w.heap.size w V) => show Calls Tryd.prog 27 #[.slice A n c, .int .i64 a, .int .i64 b] V fun e w' => (∃ B c', e = .returned (.tuple #[.slice B m c', .nilIface]) ∧ IntsAt w' B (castL p)) ∧ Below V.heap.size V w' from
    (Way_ok r h1 h2 A c n a b hn ha hb V (h.below hV) (hT.next hV)).mono fun e w' ⟨hp, hbl⟩ => ⟨by
      rcases hp with ⟨p', m', B, c', hm', he, hi, hw', hl'⟩ | ⟨_, hno⟩
      · obtain rfl : p = p' := (hle _ hw').antisymm (hl' _ hw)
        obtain rfl : m = m' := by rw [hm', hm]
        exact ⟨B, c', he, hi⟩
      · exact absurd hw (hno p), hbl⟩)
  have C3 := Lib.hid (fun (z : Nat) (hz : z < n) (hbz : (row r b).testBit z = true) (V : World) (hV : Below w.heap.size w V) => show Calls Tryd.prog 27 #[.slice A n c, .int .i64 a, .int .i64 z] V fun e w' => (∃ B c' q, q ≤ m + 1 ∧ e = .returned (.tuple #[.slice B q c', .nilIface])) ∧ Below V.heap.size V w' from
    (Way_ok r h1 h2 A c n a z hn ha hz V (h.below hV) (hT.next hV)).mono fun e w' ⟨hp, hbl⟩ => ⟨by
      have hmore : WayTo (rE r) a (p ++ [z]) z := .more hw ⟨by omega, by omega, hbz⟩
      rcases hp with ⟨p', m', B, c', hm', he, hi, hw', hl'⟩ | ⟨_, hno⟩
      · have := (hl' _ hmore).length
        rw [List.length_append, List.length_singleton] at this
        exact ⟨B, c', m', by omega, he⟩
      · exact absurd hmore (hno _), hbl⟩)
  have hbit : (row (closed r) a).testBit b = true := way_bit hw (by omega)
  have hra := Nat.lt_of_lt_of_le (closed_lt r h2 a) (Nat.pow_le_pow_right (by decide) h1)
  have HL := Lib.hid (show a < (closed r).length by rw [length_closed]; omega)
  have B1 := Lib.hid (fun V => Bit_is (row (closed r) a) b true V (by omega) (by omega) hbit)
  have HW := Lib.hid (way_is hn ha hw hle)
  have g1 : decide ((a : Int) < 0) = false := by simp
  have g2 : decide ((b : Int) < 0) = false := by simp
  have g3 : decide ((a : Int) ≥ (n : Int)) = false := by simp; omega
  have g4 : decide ((b : Int) ≥ (n : Int)) = false := by simp; omega
  have HR := Lib.hid (show ∀ i, row r i < 2 ^ 12 from fun i => Nat.lt_of_lt_of_le (h2 i) (Nat.pow_le_pow_right (by decide) h1))
  have HI := Lib.hid h
  have Hn := Lib.hid hn
  have Hm := Lib.hid hm
  have hn12 : n ≤ 12 := by omega
  have hmn : m ≤ n := by have := HW.out.few; omega
  have hm0 : 0 < m := by have := HW.out.pos; omega
  have dm0 : ((m : Int) == 0) = false := by simp; omega
  generalize closed r = cl at *
  clear h hbit hn h1 h2 hw hle hm
  go_enter Tryd.func5, Tryd.ntmps5
  go_wp2_with fail
  refine (relFact_any w).mono ?_
  rintro e w1 ⟨rfl, hb1⟩
  go_wp2_with fail
  refine (C1.out _ hb1).mono ?_
  rintro e w2 ⟨B, c', rfl, hi, hb2⟩
  have hb3 := hb1.trans (hb2.mono hb1.size)
  go_wp2_with fail
  refine (C2.out _ hb3).mono ?_
  rintro e w4 ⟨⟨P, c2, rfl, hp4⟩, hb4⟩
  have hb5 := hb3.trans (hb4.mono hb3.size)
  obtain ⟨b1, off, rfl, hc⟩ := (hi.below hb4).row (k := a) HL.out
  have HP := Lib.hid hp4
  obtain ⟨b2, off2, rfl, hc0⟩ := hp4.row (k := 0) (by have := Hm.out; omega)
  obtain ⟨b3, off3, hA3, hcl⟩ := HP.out.row (k := m - 1) (by have := Hm.out; omega)
  injection hA3 with hA3
  injection hA3 with e1 e2
  subst e1; subst e2
  rw [HW.out.head, Nat.add_zero] at hc0
  have hlast := HW.out.last
  rw [Hm.out] at hlast
  rw [hlast] at hcl
  have hw63 : IntKind.i64.wrap ((m : Int) - 1) = ((m - 1 : Nat) : Int) := by rw [IntKind.wrap_i64]; omega
  have hidx : ((m : Int) - 1).toNat = m - 1 := by omega
  have daa : ((a : Int) != (a : Int)) = false := by simp
  have dbb : ((b : Int) != (b : Int)) = false := by simp
  clear hi hb1 hb2 hb3 hb4 C1 C2 hlast hp4
  go_wp2_with fail
  go_quiet (first | (with_reducible exact quiet1 (B1.out _)))
  go_wp2_with fail
  clear hc hc0 hcl B1
  generalize hw5 : w4.drewN nq = w5
  have hb6 : Below w.heap.size w w5 := hw5 ▸ belowD hb5 nq
  have HP5 := Lib.hid (show IntsAt w5 (some ⟨b2, off2, none⟩) (castL p) from hw5 ▸ HP.out.below (belowD (Below.refl _ _) nq))
  clear HP hb5 hw5
  obtain ⟨wz, hwz⟩ : ∃ wz, wz = w5 := ⟨w5, rfl⟩
  subst hwz
  have hd0 := Lib.hid (show ∃ d, wz = wz.drewN d from ⟨0, rfl⟩)
  go_loopw [14, 15] (fun i _ wr => ∃ x : Nat, x ≤ m ∧ i = .int .i64 x ∧ Hid (∃ d, wr = wz.drewN d)) (fun i _ _ => m - (intOf i).toNat)
  case atStart => exact ⟨0, Nat.zero_le _, rfl, hd0⟩
  case round =>
    obtain ⟨x, hx, rfl, hdr⟩ := hrel
    have hbr : Below w.heap.size w wr := by obtain ⟨d, rfl⟩ := hdr.out; exact belowD hb6 d
    by_cases hlt : x < m
    · have hbA : IntsAt wr A (castL r) := HI.out.below hbr
      have hPr : IntsAt wr (some ⟨b2, off2, none⟩) (castL p) := by obtain ⟨d, rfl⟩ := hdr.out; exact HP5.out.below (belowD (Below.refl _ _) d)
      have hpl : p.length = m := Hm.out
      have cx := ints_cell hPr (i := x) (by omega)
      have hyn := HW.out.lt x (by omega)
      have dy1 : decide (((row p x : Nat) : Int) < 0) = false := by simp
      have dy2 : decide (((row p x : Nat) : Int) ≥ (n : Int)) = false := by simp; omega
      have dy3 : decide (n ≤ row p x) = false := by simp; omega
      have HdN := Lib.hid (show ∀ q, ∃ d, wr.drewN q = wz.drewN d from fun q => by obtain ⟨d, rfl⟩ := hdr.out; exact ⟨d + q, by simp only [World.drewN, Nat.add_assoc]⟩)
      rcases Nat.eq_zero_or_pos x with hx0 | hx0
      · have dg : decide ((x : Int) > 0) = false := by subst hx0; rfl
        have dg2 : decide (0 < x) = false := by subst hx0; rfl
        clear hpl hPr hbA hx0
        generalize hz : row p x = y0 at *
        clear hz
        go_wp2_with fail
        go_quiet (fail)
        go_wp2_with fail
        go_loopw [15] (fun j wi => ∃ y : Nat, y ≤ x ∧ j = .int .i64 y ∧ Hid (∃ d, wi = wz.drewN d)) (fun j _ => x - (intOf j).toNat)
        case atStart => exact ⟨0, Nat.zero_le _, rfl, HdN.out _⟩
        case round =>
          obtain ⟨y, hy, rfl, hdi⟩ := hrel
          have hPi : IntsAt wr (some ⟨b2, off2, none⟩) (castL p) := by obtain ⟨d, rfl⟩ := hdi.out; exact HP5.out.below (belowD (Below.refl _ _) d)
          by_cases hyx : y < x
          · have dyx : decide ((y : Int) < (x : Int)) = true := decide_eq_true (by omega)
            have ex := ints_cell hPi (i := x) (by rw [Hm.out]; exact hlt)
            have ey := ints_cell hPi (i := y) (by rw [Hm.out]; omega)
            have dne : (((row p y : Nat) : Int) == ((row p x : Nat) : Int)) = false := beq_eq_false_iff_ne.2 fun e => by
              have := HW.out.apart y x (by rw [Hm.out]; omega) (by rw [Hm.out]; exact hlt) (Int.ofNat.inj e)
              omega
            have HdM := Lib.hid (show ∀ q, ∃ d, wr.drewN q = wz.drewN d from fun q => by obtain ⟨d, rfl⟩ := hdi.out; exact ⟨d + q, by simp only [World.drewN, Nat.add_assoc]⟩)
            clear hPi
            generalize row p x = vx at *
            generalize row p y = vy at *
            go_wp2_with fail
            go_quiet (fail)
            go_wp2_with fail
            refine ⟨⟨y + 1, ?ya, ?yb, Lib.hid (HdM.out _)⟩, ?yd⟩
            case ya => omega
            case yb => go_num
            case yd => simp [intOf]; omega
          · obtain rfl : y = x := by omega
            have dyx : decide ((y : Int) < (y : Int)) = false := by simp
            clear hPi
            go_wp2_with fail
            refine ⟨⟨y + 1, ?za, ?zb, hdi⟩, ?zd⟩
            case za => omega
            case zb => go_num
            case zd => simp [intOf]; omega
      · have dg : decide ((x : Int) > 0) = true := by simp; omega
        have dg2 : decide (0 < x) = true := by simp; omega
        obtain ⟨x', hx'⟩ : ∃ x', x = x' + 1 := ⟨x - 1, by omega⟩
        have cx' := ints_cell hPr (i := x') (by omega)
        have hyn' := HW.out.lt x' (by omega)
        obtain ⟨b4, off4, rfl, cr⟩ := hbA.row (k := row p x') (by have := Hn.out; omega)
        have hrr := HR.out (row p x')
        have B2 := Lib.hid (fun V => Bit_is (row r (row p x')) (row p x) true V (by omega) (by omega) (by have := HW.out.step x' (by omega); rw [← hx'] at this; exact this))
        have hix : ((x : Int) - 1) = (x' : Int) := by omega
        have hwx : IntKind.i64.wrap ((x : Int) - 1) = (x' : Int) := by rw [IntKind.wrap_i64]; omega
        have hx'm : x' < m := by omega
        have Hx' := Lib.hid hx'
        clear hpl hPr hbA hx0 hx'
        generalize hz1 : row p x = y0 at *
        generalize hz2 : row p x' = y' at *
        generalize row r y' = rr at *
        clear hz2 hz1
        go_wp2_with fail
        go_quiet (first | (with_reducible exact quiet1 (B2.out _)))
        go_wp2_with fail
        go_loopw [15] (fun j wi => ∃ y : Nat, y ≤ x ∧ j = .int .i64 y ∧ Hid (∃ d, wi = wz.drewN d)) (fun j _ => x - (intOf j).toNat)
        case atStart => exact ⟨0, Nat.zero_le _, rfl, HdN.out _⟩
        case round =>
          obtain ⟨y, hy, rfl, hdi⟩ := hrel
          have hPi : IntsAt wr (some ⟨b2, off2, none⟩) (castL p) := by obtain ⟨d, rfl⟩ := hdi.out; exact HP5.out.below (belowD (Below.refl _ _) d)
          by_cases hyx : y < x
          · have dyx : decide ((y : Int) < (x : Int)) = true := decide_eq_true (by omega)
            have ex := ints_cell hPi (i := x) (by rw [Hm.out]; exact hlt)
            have ey := ints_cell hPi (i := y) (by rw [Hm.out]; omega)
            have dne : (((row p y : Nat) : Int) == ((row p x : Nat) : Int)) = false := beq_eq_false_iff_ne.2 fun e => by
              have := HW.out.apart y x (by rw [Hm.out]; omega) (by rw [Hm.out]; exact hlt) (Int.ofNat.inj e)
              omega
            have HdM := Lib.hid (show ∀ q, ∃ d, wr.drewN q = wz.drewN d from fun q => by obtain ⟨d, rfl⟩ := hdi.out; exact ⟨d + q, by simp only [World.drewN, Nat.add_assoc]⟩)
            clear hPi
            generalize row p x = vx at *
            generalize row p y = vy at *
            go_wp2_with fail
            go_quiet (fail)
            go_wp2_with fail
            refine ⟨⟨y + 1, ?ya, ?yb, Lib.hid (HdM.out _)⟩, ?yd⟩
            case ya => omega
            case yb => go_num
            case yd => simp [intOf]; omega
          · obtain rfl : y = x := by omega
            have dyx : decide ((y : Int) < (y : Int)) = false := by simp
            clear hPi
            go_wp2_with fail
            refine ⟨⟨y + 1, ?za, ?zb, hdi⟩, ?zd⟩
            case za => omega
            case zb => go_num
            case zd => simp [intOf]; omega
    · obtain rfl : x = m := by omega
      have dlt : decide ((x : Int) < (x : Int)) = false := by simp
      by_cases hk : 0 ≤ k ∧ k < n
      · obtain ⟨z, rfl⟩ := Int.eq_ofNat_of_zero_le hk.1
        have hzn : z < n := by omega
        have dk1 : decide ((z : Int) < 0) = false := by simp
        have dk2 : decide ((z : Int) ≥ (n : Int)) = false := by simp; omega
        have dk3 : decide (n ≤ z) = false := by simp; omega
        obtain ⟨b4, off4, rfl, cb⟩ := (HI.out.below hbr).row (k := b) (by have := Hn.out; omega)
        have hrb := HR.out b
        cases hbz : (row r b).testBit z with
        | false =>
          have B2 := Lib.hid (fun V => Bit_is (row r b) z false V (by omega) (by omega) hbz)
          clear hbz hk C3
          generalize row r b = rb at *
          go_wp2_with (go_at_call 28; with_reducible refine (B2.out _).mono ?_; rintro e w' ⟨rfl, rfl⟩)
          go_ret
          exact ⟨rfl, hbr⟩
        | true =>
          have B2 := Lib.hid (fun V => Bit_is (row r b) z true V (by omega) (by omega) hbz)
          have C4 := Lib.hid (C3.out z hzn hbz wr hbr)
          clear hbz hk C3
          generalize row r b = rb at *
          go_wp2_with (go_at_call 28; with_reducible refine (B2.out _).mono ?_; rintro e w' ⟨rfl, rfl⟩)
          refine C4.out.mono ?_
          rintro e w9 ⟨⟨P9, c9, q, hq, rfl⟩, hb9⟩
          have dq : decide ((q : Int) ≤ (x : Int) + 1) = true := decide_eq_true (by omega)
          have dq2 : decide (q ≤ x + 1) = true := decide_eq_true hq
          clear hq
          go_wp2_with fail
          go_ret
          exact ⟨ret_bool (by first | rfl | simpa using dq | simpa using dq2), hbr.trans (hb9.mono hbr.size)⟩
      · have hq : decide (k < 0) = true ∨ (decide (k < 0) = false ∧ decide (k ≥ n) = true) := by
          simp only [decide_eq_true_eq, decide_eq_false_iff_not]; omega
        clear hk C3
        rcases hq with dk | ⟨dk, dk2⟩
        · go_wp2_with fail
          go_ret
          exact ⟨rfl, hbr⟩
        · go_wp2_with fail
          go_ret
          exact ⟨rfl, hbr⟩

theorem RelWay_walk (l : List Int) (A : Option Addr) (c : Nat) {W : World} (h : IntsAt W A l) (hl : l.length < 2 ^ 47) (hI : ∀ x ∈ l, I64 x) (a : Int) (wa : I64 a) (b : Int) (wb : I64 b) (k : Int) (wk : I64 k) (w : World) (hw : w = W) (hT : Tab W) (hE : ErrT W) :
    Calls Tryd.prog 5 #[.slice A l.length c, .int .i64 a, .int .i64 b, .int .i64 k] w fun e w' => e = .returned (.bool true) ∧ Below w.heap.size w w' := by
  subst hw
  by_cases hc : relCode l = 0
  · obtain ⟨r, rfl, h1, h2⟩ := relCode_ok hc
    rw [length_castL]
    by_cases hab : (0 ≤ a ∧ a < r.length) ∧ (0 ≤ b ∧ b < r.length)
    · obtain ⟨an, rfl⟩ := Int.eq_ofNat_of_zero_le hab.1.1
      obtain ⟨bn, rfl⟩ := Int.eq_ofNat_of_zero_le hab.2.1
      have ha : an < r.length := by have := hab.1.2; omega
      have hb : bn < r.length := by have := hab.2.2; omega
      obtain ⟨e, w', fr, ⟨hp, _⟩, _⟩ := Way_ok r h1 h2 A c r.length an bn rfl ha hb w h hT []
      rcases hp with ⟨p, _, _, _, _, _, _, hw, hle⟩ | ⟨_, hno⟩
      · exact RelWay_found h1 h2 rfl ha hb hw hle w h hT hE
      · exact RelWay_none h1 h2 rfl ha hb hno w h hT hE
    · exact RelWay_out h1 h2 rfl hab w h
  · exact RelWay_bad rfl (by omega) rfl hc w h
end Go.Proofs.YtndeplakkhfmlaaDoor
