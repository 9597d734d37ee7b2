/-
  Contracts: quietwingsame.Steps of two alike, quietwingref1.news, quietwingref1.Asked.
  Contract: quietwingref1.passed.
  How many vertices steps make; steps put behind steps.
  Contract: quietwingref1.PlanSteps.
-/
import Derived.Test.YtpfmllpodjcldaaDoorTakeR
import Derived.Test.YtpfmllpodjcldaaDoorTakeB
import Derived.Test.YtpfmllpodjcldaaDoorTakeQ
import Derived.BigQuiet
import Derived.Test.YtpfmllpodjcldaaDoorTakeW
import Derived.Test.YtpfmllpodjcldaaDoorLeafN
import Derived.Test.YtpfmllpodjcldaaDoorPlanLaw3
import Derived.Test.YtpfmllpodjcldaaDoorStillD
import Derived.Test.YtpfmllpodjcldaaDoorTakePlanM
import Derived.Deep.RegionHeld3
namespace Go.Proofs.YtpfmllpodjcldaaDoor
open Go.RowKit
set_option maxRecDepth 100000
set_option linter.unusedVariables false

set_option maxHeartbeats 4000000 in
theorem Steps_any {w : World} {A B : Option Addr} {c d m : Nat} {S : List Int} (hA : IntsAt w A S) (hB : IntsAt w B S) (hm : m * 5 ≤ S.length) (hs : m < 2 ^ 40) :
    Calls Tryd.prog 18 #[.slice A m c, .slice B m d] w fun e w' => e = .returned (.bool true) ∧ Below w.heap.size w w' := by
  have HA := Lib.hid hA
  have HB := Lib.hid hB
  have Hm := Lib.hid hm
  clear hA hB hm
  go_enter Tryd.func18, Tryd.ntmps18
  go_wp2_with fail
  go_loopw [5] (fun i wr => ∃ k : Nat, k ≤ m ∧ i = .int .i64 k ∧ Below w.heap.size w wr) (fun i _ => m - (intOf i).toNat)
  case atStart => exact ⟨0, Nat.zero_le _, rfl, Below.refl _ _⟩
  case round =>
    obtain ⟨k, hk, rfl, hbr⟩ := hrel
    by_cases hlt : k < m
    · obtain ⟨b, off, rfl, hbl, hcs⟩ := steps_cells (HA.out.below hbr) Hm.out hlt
      obtain ⟨b', off', rfl, hbl', hcs'⟩ := steps_cells (HB.out.below hbr) Hm.out hlt
      have y0 := hcs 0 (by decide)
      have y1 : wr.cell? ⟨b, off + k * 5 + 1, none⟩ = _ := hcs 1 (by decide)
      have y2 : wr.cell? ⟨b, off + k * 5 + 2, none⟩ = _ := hcs 2 (by decide)
      have y3 : wr.cell? ⟨b, off + k * 5 + 3, none⟩ = _ := hcs 3 (by decide)
      have y4 : wr.cell? ⟨b, off + k * 5 + 4, none⟩ = _ := hcs 4 (by decide)
      have z0 := hcs' 0 (by decide)
      have z1 : wr.cell? ⟨b', off' + k * 5 + 1, none⟩ = _ := hcs' 1 (by decide)
      have z2 : wr.cell? ⟨b', off' + k * 5 + 2, none⟩ = _ := hcs' 2 (by decide)
      have z3 : wr.cell? ⟨b', off' + k * 5 + 3, none⟩ = _ := hcs' 3 (by decide)
      have z4 : wr.cell? ⟨b', off' + k * 5 + 4, none⟩ = _ := hcs' 4 (by decide)
      simp only [Nat.add_zero] at y0 z0
      clear hcs hcs'
      generalize nI S (k * 5) = s0 at *
      generalize nI S (k * 5 + 1) = s1 at *
      generalize nI S (k * 5 + 2) = s2 at *
      generalize nI S (k * 5 + 3) = s3 at *
      generalize nI S (k * 5 + 4) = s4 at *
      go_wp2_with fail
      go_quiet (fail)
      go_wp2_with fail
      refine ⟨⟨k + 1, ?ya, ?yb, belowD hbr _⟩, ?yd⟩
      case ya => omega
      case yb => go_num
      case yd => simp [intOf]; omega
    · obtain rfl : k = m := by omega
      go_wp2_with fail
      go_ret
      exact ⟨rfl, hbr⟩

/-- How many of the first k steps make a vertex. -/
def newsN (S : List Int) : Nat → Nat
  | 0 => 0
  | k + 1 => newsN S k + if nI S (k * 5) = 2 then 1 else 0
theorem newsN_le (S : List Int) : ∀ k, newsN S k ≤ k
  | 0 => Nat.le_refl _
  | k + 1 => by
    rw [newsN]
    have := newsN_le S k
    split <;> omega
set_option maxHeartbeats 4000000 in
theorem News_any {w : World} {A : Option Addr} {c m : Nat} {S : List Int} (hA : IntsAt w A S) (hm : m * 5 ≤ S.length) (hs : m < 2 ^ 40) :
    Calls Tryd.prog 42 #[.slice A m c] w fun e w' => e = .returned (.int .i64 (newsN S m : Nat)) ∧ w = w' := by
  have HA := Lib.hid hA
  have Hm := Lib.hid hm
  clear hA hm
  go_enter Tryd.func42, Tryd.ntmps42
  go_wp2_with fail
  go_loopw [3, 4] (fun x i wr => ∃ k : Nat, k ≤ m ∧ i = .int .i64 k ∧ x = .int .i64 (newsN S k : Nat) ∧ w = wr) (fun _ i _ => m - (intOf i).toNat)
  case atStart => exact ⟨0, Nat.zero_le _, rfl, rfl, rfl⟩
  case round =>
    obtain ⟨k, hk, rfl, rfl, rfl⟩ := hrel
    by_cases hlt : k < m
    · obtain ⟨b, off, rfl, hbl, hcs⟩ := steps_cells HA.out Hm.out hlt
      have y0 := hcs 0 (by decide)
      simp only [Nat.add_zero] at y0
      clear hcs
      have hle := newsN_le S k
      have Hn := Lib.hid (show newsN S (k + 1) = newsN S k + if nI S (k * 5) = 2 then 1 else 0 from rfl)
      generalize newsN S k = q at *
      generalize nI S (k * 5) = s0 at *
      by_cases h2 : s0 = 2
      · subst h2
        have Hn2 := Lib.hid (show newsN S (k + 1) = q + 1 from by rw [Hn.out, if_pos rfl])
        clear Hn
        go_wp2_with fail
        refine ⟨⟨k + 1, ?ya, ?yb, ?yc, trivial⟩, ?yd⟩
        case ya => omega
        case yb => go_num
        case yc => rw [Hn2.out]; go_num
        case yd => simp [intOf]; omega
      · have d2 : (s0 == 2) = false := beq_eq_false_iff_ne.2 h2
        have Hn2 := Lib.hid (show newsN S (k + 1) = q from by rw [Hn.out, if_neg h2, Nat.add_zero])
        clear Hn h2
        go_wp2_with fail
        refine ⟨⟨k + 1, ?ya, ?yb, ?yc, trivial⟩, ?yd⟩
        case ya => omega
        case yb => go_num
        case yc => rw [Hn2.out]
        case yd => simp [intOf]; omega
    · obtain rfl : k = m := by omega
      go_wp2_with fail
      go_ret
      exact ⟨rfl, rfl⟩

set_option maxHeartbeats 4000000 in
theorem Asked_any {w : World} {A : Option Addr} {c n : Nat} {L : List (List Int)} (hL : RowsIn anyB 1 w A L) (hn : L.length = n) (nm : n ≤ maxLen) {right who over : Int} (hb : I64 right ∧ I64 who ∧ I64 over) :
    Calls Tryd.prog 13 #[.slice A n c, .int .i64 right, .int .i64 who, .int .i64 over] w fun e w' => e = .returned (.int .i64 (askCode L right who over : Nat)) ∧ w = w' := by
  have nm2 : n ≤ 9223372036854775807 := by unfold maxLen at nm; omega
  have HC := RGraph_any (c := c) hL hn nm
  clear hL
  by_cases hg : gCode L = 0
  · rw [hg] at HC
    have HC := Lib.hid HC
    have HW := Lib.hid (fun V b (h : decide (0 ≤ who ∧ who ≤ (n : Int) - 1) = b) => RinD_is who 0 ((n : Int) - 1) b V h)
    have HO := Lib.hid (fun V b (h : decide (0 ≤ over ∧ over ≤ (n : Int) - 1) = b) => RinD_is over 0 ((n : Int) - 1) b V h)
    have Hask : askCode L right who over = if ¬ (0 ≤ who ∧ who < (n : Int)) ∨ ¬ (0 ≤ over ∧ over < (n : Int)) ∨ ¬ (right = 1 ∨ right = 2 ∨ right = 4) then 1 else if who = over then 3 else 0 := by unfold askCode; rw [if_neg (fun h => h hg), hn]
    clear hn
    by_cases hw : 0 ≤ who ∧ who < (n : Int)
    · have W1 := Lib.hid (fun V => HW.out V true (decide_eq_true ⟨hw.1, by omega⟩))
      by_cases ho : 0 ≤ over ∧ over < (n : Int)
      · have O1 := Lib.hid (fun V => HO.out V true (decide_eq_true ⟨ho.1, by omega⟩))
        by_cases hr : right = 1 ∨ right = 2 ∨ right = 4
        · rw [if_neg (fun h => h.elim (fun h => h hw) (fun h => h.elim (fun h => h ho) (fun h => h hr)))] at Hask
          by_cases e : who = over
          · subst e
            rw [if_pos rfl] at Hask
            have Hask := Lib.hid Hask
            have dd : (who == who) = true := by simp
            clear HW HO ho
            rcases hr with rfl | rfl | rfl
            all_goals
              go_enter Tryd.func13, Tryd.ntmps13
              go_wp2_with (first | (go_at_call 9; with_reducible refine HC.out.mono ?_; rintro e w' ⟨rfl, rfl⟩) | (go_at_call 32; first | (with_reducible refine (W1.out _).mono ?_; rintro e w' ⟨rfl, rfl⟩) | (with_reducible refine (O1.out _).mono ?_; rintro e w' ⟨rfl, rfl⟩)))
              go_ret
              exact ⟨ret_int (by rw [Hask.out]; rfl), rfl⟩
          · rw [if_neg e] at Hask
            have Hask := Lib.hid Hask
            have dd : (who == over) = false := beq_eq_false_iff_ne.2 e
            clear HW HO e
            rcases hr with rfl | rfl | rfl
            all_goals
              go_enter Tryd.func13, Tryd.ntmps13
              go_wp2_with (first | (go_at_call 9; with_reducible refine HC.out.mono ?_; rintro e w' ⟨rfl, rfl⟩) | (go_at_call 32; first | (with_reducible refine (W1.out _).mono ?_; rintro e w' ⟨rfl, rfl⟩) | (with_reducible refine (O1.out _).mono ?_; rintro e w' ⟨rfl, rfl⟩)))
              go_ret
              exact ⟨ret_int (by rw [Hask.out]; rfl), rfl⟩
        · rw [if_pos (.inr (.inr hr))] at Hask
          have Hask := Lib.hid Hask
          have d1 : (right != 1) = true := bne_iff_ne.2 (fun e => hr (.inl e))
          have d2 : (right != 2) = true := bne_iff_ne.2 (fun e => hr (.inr (.inl e)))
          have d4 : (right != 4) = true := bne_iff_ne.2 (fun e => hr (.inr (.inr e)))
          clear HW HO hr
          go_enter Tryd.func13, Tryd.ntmps13
          go_wp2_with (first | (go_at_call 9; with_reducible refine HC.out.mono ?_; rintro e w' ⟨rfl, rfl⟩) | (go_at_call 32; first | (with_reducible refine (W1.out _).mono ?_; rintro e w' ⟨rfl, rfl⟩) | (with_reducible refine (O1.out _).mono ?_; rintro e w' ⟨rfl, rfl⟩)))
          go_ret
          exact ⟨ret_int (by rw [Hask.out]; rfl), rfl⟩
      · rw [if_pos (.inr (.inl ho))] at Hask
        have Hask := Lib.hid Hask
        have O1 := Lib.hid (fun V => HO.out V false (decide_eq_false (fun h => ho ⟨h.1, by have := h.2; omega⟩)))
        clear HW HO ho
        go_enter Tryd.func13, Tryd.ntmps13
        go_wp2_with (first | (go_at_call 9; with_reducible refine HC.out.mono ?_; rintro e w' ⟨rfl, rfl⟩) | (go_at_call 32; first | (with_reducible refine (W1.out _).mono ?_; rintro e w' ⟨rfl, rfl⟩) | (with_reducible refine (O1.out _).mono ?_; rintro e w' ⟨rfl, rfl⟩)))
        go_ret
        exact ⟨ret_int (by rw [Hask.out]; rfl), rfl⟩
    · rw [if_pos (.inl hw)] at Hask
      have Hask := Lib.hid Hask
      have W1 := Lib.hid (fun V => HW.out V false (decide_eq_false (fun h => hw ⟨h.1, by have := h.2; omega⟩)))
      clear HW HO hw
      go_enter Tryd.func13, Tryd.ntmps13
      go_wp2_with (first | (go_at_call 9; with_reducible refine HC.out.mono ?_; rintro e w' ⟨rfl, rfl⟩) | (go_at_call 32; with_reducible refine (W1.out _).mono ?_; rintro e w' ⟨rfl, rfl⟩))
      go_ret
      exact ⟨ret_int (by rw [Hask.out]; rfl), rfl⟩
  · have Hask : askCode L right who over = gCode L := by unfold askCode; rw [if_pos hg]
    rw [Hask]
    have d0 : (((gCode L : Nat) : Int) == 0) = false := beq_eq_false_iff_ne.2 (by omega)
    have HC := Lib.hid HC
    clear hg hn Hask
    generalize gCode L = code at *
    go_enter Tryd.func13, Tryd.ntmps13
    go_wp2_with (go_at_call 9; with_reducible refine HC.out.mono ?_; rintro e w' ⟨rfl, rfl⟩)
    go_ret
    exact ⟨rfl, rfl⟩
end Go.Proofs.YtpfmllpodjcldaaDoor

namespace Go.Proofs.YtpfmllpodjcldaaDoor
open Go.RowKit
set_option maxRecDepth 100000
set_option linter.unusedVariables false

theorem bit_and1 : ∀ a, a < 8 → (a &&& 1 = 0 ↔ a.testBit 0 = false) := by decide
theorem bit_and2 : ∀ a, a < 8 → (a &&& 2 = 0 ↔ a.testBit 1 = false) := by decide
theorem boxNewS (w : World) (t : TypeId) (vs : Array Value) (p : Nat) (hp : p = w.heap.size) : BoxN (w.alloc (.cells vs t)) p t vs := by subst hp; exact BoxN.new w t vs
theorem OwnS.below {w w' : World} {base B : Nat} {v : Value} {S : List GStep} (h : OwnS w base v S) (hb : Below B w w') (hB : w.heap.size ≤ B) : OwnS w' base v S := ownsRow_below h hb hB
theorem OwnS.next {w w' : World} {base : Nat} {v : Value} {S : List GStep} (h : OwnS w base v S) (hb : Below w.heap.size w w') : OwnS w' base v S := ownsRow_below h hb (Nat.le_refl _)
theorem OwnS.drewN {w : World} {base : Nat} {v : Value} {S : List GStep} (h : OwnS w base v S) (n : Nat) : OwnS (w.drewN n) base v S := h
theorem OwnS.one (w : World) (s : GStep) : OwnS (w.alloc (.cells #[.int .i64 s.k, .int .i64 s.w, .int .i64 s.o, .int .i64 s.t, .int .i64 s.r] 65)) w.heap.size (.slice (some ⟨w.heap.size, 0, none⟩) 1 1) [s] :=
  ⟨by simp [flatS], .inr ⟨w.heap.size, 1, #[.int .i64 s.k, .int .i64 s.w, .int .i64 s.o, .int .i64 s.t, .int .i64 s.r], rfl, Nat.le_refl _, heap_alloc_new w _, by simp, by decide, rfl, by simp [flatS]⟩⟩

set_option maxHeartbeats 8000000 in
theorem RPassed_any {w : World} {A : Option Addr} {c n : Nat} {L : List (List Int)} (hL : RowsIn anyB 1 w A L) (hn : L.length = n) (hg : GOk L) {a b : Nat} (ha : a < n) (hb : b < n) (to r : Int) (m : Nat) :
    Calls Tryd.prog 41 #[.slice A n c, .int .i64 a, .int .i64 b, .int .i64 to, .int .i64 r, .int .i64 m] w fun e w' => (∃ v, e = .returned v ∧ OwnS w' w.heap.size v (passL L a b to r m)) ∧ Below w.heap.size w w' := by
  obtain ⟨b0, off, b1, off1, c1, rfl, r0, r1'⟩ := row_int hg hL hn ha
  obtain ⟨b2, off2, c2, s0, s1'⟩ := row_int2 hg hL hn hb
  have r1 := r1' b hb
  have s1 := s1' a ha
  have l1 := hg.lt (x := a) (y := b) (by omega) (by omega)
  have l2 := hg.lt (x := b) (y := a) (by omega) (by omega)
  clear r1' s1' hL hn hg
  cases h1 : (gN L a b).testBit 0 with
  | true =>
    have B1 := Lib.hid (show ∀ V, Calls Tryd.prog 55 #[.int .i64 (gN L a b : Nat), .int .i64 0] V (fun e w' => e = .returned (.bool true) ∧ V = w') from fun V => Bit_is (gN L a b) 0 true V (by omega) (by omega) h1)
    have Hp := Lib.hid (show passL L a b to r m = [⟨0, a, b, to, r⟩] by unfold passL; rw [if_pos (fun e => by rw [(bit_and1 _ l1).1 e] at h1; cases h1)])
    rw [Hp.out]
    clear h1 Hp
    generalize gN L a b = x at *
    have ho := Lib.hid (OwnS.one w ⟨0, a, b, to, r⟩)
    go_enter Tryd.func41, Tryd.ntmps41
    go_wp2_with (go_at_call 55; with_reducible refine (B1.out _).mono ?_; rintro e w' ⟨rfl, rfl⟩)
    go_ret
    exact ⟨⟨_, rfl, ho.out⟩, (Below.refl _ _).alloc (Nat.le_refl _) _⟩
  | false =>
    have B1 := Lib.hid (show ∀ V, Calls Tryd.prog 55 #[.int .i64 (gN L a b : Nat), .int .i64 0] V (fun e w' => e = .returned (.bool false) ∧ V = w') from fun V => Bit_is (gN L a b) 0 false V (by omega) (by omega) h1)
    cases h2 : (gN L b a).testBit 1 with
    | true =>
      have B2 := Lib.hid (show ∀ V, Calls Tryd.prog 55 #[.int .i64 (gN L b a : Nat), .int .i64 1] V (fun e w' => e = .returned (.bool true) ∧ V = w') from fun V => Bit_is (gN L b a) 1 true V (by omega) (by omega) h2)
      have Hp := Lib.hid (show passL L a b to r m = [⟨1, b, a, to, r⟩] by unfold passL; rw [if_neg (fun e => e ((bit_and1 _ l1).2 h1)), if_pos (fun e => by rw [(bit_and2 _ l2).1 e] at h2; cases h2)])
      rw [Hp.out]
      clear h1 h2 Hp
      generalize gN L a b = x at *
      generalize gN L b a = y at *
      have ho := Lib.hid (OwnS.one w ⟨1, b, a, to, r⟩)
      go_enter Tryd.func41, Tryd.ntmps41
      go_wp2_with (go_at_call 55; first | (with_reducible refine (B1.out _).mono ?_; rintro e w' ⟨rfl, rfl⟩) | (with_reducible refine (B2.out _).mono ?_; rintro e w' ⟨rfl, rfl⟩))
      go_ret
      exact ⟨⟨_, rfl, ho.out⟩, (Below.refl _ _).alloc (Nat.le_refl _) _⟩
    | false =>
      have B2 := Lib.hid (show ∀ V, Calls Tryd.prog 55 #[.int .i64 (gN L b a : Nat), .int .i64 1] V (fun e w' => e = .returned (.bool false) ∧ V = w') from fun V => Bit_is (gN L b a) 1 false V (by omega) (by omega) h2)
      have ho1 := OwnS.one w ⟨2, a, 0, 0, 0⟩
      have hb1 := (Below.refl w.heap.size w).alloc (Nat.le_refl _) (.cells #[.int .i64 2, .int .i64 a, .int .i64 0, .int .i64 0, .int .i64 0] 65)
      have Hc : ∀ {p : Addr} {v : Value}, w.cell? p = some v → ∀ V, Below w.heap.size w V → V.cell? p = some v := fun {p v} hc V hV => (hV.cell (p := p) (block_lt hc)).trans hc
      have s0' := Hc s0 _ hb1
      have s1' := Hc s1 _ hb1
      cases h3 : (gN L b a).testBit 0 with
      | true =>
        have B3 := Lib.hid (show ∀ V, Calls Tryd.prog 55 #[.int .i64 (gN L b a : Nat), .int .i64 0] V (fun e w' => e = .returned (.bool true) ∧ V = w') from fun V => Bit_is (gN L b a) 0 true V (by omega) (by omega) h3)
        have Hp := Lib.hid (show passL L a b to r m = ((([⟨2, a, 0, 0, 0⟩] ++ [⟨0, b, a, m, 2⟩]) ++ [⟨1, b, m, to, r⟩]) ++ [⟨0, a, m, to, r⟩]) by unfold passL; rw [if_neg (fun e => e ((bit_and1 _ l1).2 h1)), if_neg (fun e => e ((bit_and2 _ l2).2 h2)), if_pos (fun e => by rw [(bit_and1 _ l2).1 e] at h3; cases h3)]; rfl)
        rw [Hp.out]
        clear h1 h2 h3 Hp
        generalize gN L a b = x at *
        generalize gN L b a = y at *
        go_enter Tryd.func41, Tryd.ntmps41
        go_wp2_with (first | (go_at_call 55; first | (with_reducible refine (B1.out _).mono ?_; rintro e w' ⟨rfl, rfl⟩) | (with_reducible refine (B2.out _).mono ?_; rintro e w' ⟨rfl, rfl⟩) | (with_reducible refine (B3.out _).mono ?_; rintro e w' ⟨rfl, rfl⟩)) | (at_builtin; refine wpList_push_step rfl _ _ rfl rfl (ho1.next ((Below.refl _ _).alloc (Nat.le_refl _) _)) _ ⟨0, b, a, m, 2⟩ rfl (boxNewS _ _ _ _ (by simp)) (by simp) (by have := hb1.size; simp at this ⊢; omega) ?_; intro v2 w2 ho2 hg2 hv2 hbl2; have hb2 := hbl2 _ (hb1.alloc hb1.size _)) | (at_builtin; refine wpList_push_step rfl _ _ rfl rfl (ho2.next ((Below.refl _ _).alloc (Nat.le_refl _) _)) _ ⟨1, b, m, to, r⟩ rfl (boxNewS _ _ _ _ (by simp)) (by simp) (by have := hb2.size; simp at this ⊢; omega) ?_; intro v3 w3 ho3 hg3 hv3 hbl3; have hb3 := hbl3 _ (hb2.alloc hb2.size _)) | (at_builtin; refine wpList_push_step rfl _ _ rfl rfl (ho3.next ((Below.refl _ _).alloc (Nat.le_refl _) _)) _ ⟨0, a, m, to, r⟩ rfl (boxNewS _ _ _ _ (by simp)) (by simp) (by have := hb3.size; simp at this ⊢; omega) ?_; intro v4 w4 ho4 hg4 hv4 hbl4; have hb4 := hbl4 _ (hb3.alloc hb3.size _)))
        go_ret
        exact ⟨⟨v4, rfl, ho4⟩, hb4⟩
      | false =>
        have B3 := Lib.hid (show ∀ V, Calls Tryd.prog 55 #[.int .i64 (gN L b a : Nat), .int .i64 0] V (fun e w' => e = .returned (.bool false) ∧ V = w') from fun V => Bit_is (gN L b a) 0 false V (by omega) (by omega) h3)
        have Hp := Lib.hid (show passL L a b to r m = ((([⟨2, a, 0, 0, 0⟩] ++ [⟨1, a, b, m, 2⟩]) ++ [⟨1, b, m, to, r⟩]) ++ [⟨0, a, m, to, r⟩]) by unfold passL; rw [if_neg (fun e => e ((bit_and1 _ l1).2 h1)), if_neg (fun e => e ((bit_and2 _ l2).2 h2)), if_neg (fun e => e ((bit_and1 _ l2).2 h3))]; rfl)
        rw [Hp.out]
        clear h1 h2 h3 Hp
        generalize gN L a b = x at *
        generalize gN L b a = y at *
        go_enter Tryd.func41, Tryd.ntmps41
        go_wp2_with (first | (go_at_call 55; first | (with_reducible refine (B1.out _).mono ?_; rintro e w' ⟨rfl, rfl⟩) | (with_reducible refine (B2.out _).mono ?_; rintro e w' ⟨rfl, rfl⟩) | (with_reducible refine (B3.out _).mono ?_; rintro e w' ⟨rfl, rfl⟩)) | (at_builtin; refine wpList_push_step rfl _ _ rfl rfl (ho1.next ((Below.refl _ _).alloc (Nat.le_refl _) _)) _ ⟨1, a, b, m, 2⟩ rfl (boxNewS _ _ _ _ (by simp)) (by simp) (by have := hb1.size; simp at this ⊢; omega) ?_; intro v2 w2 ho2 hg2 hv2 hbl2; have hb2 := hbl2 _ (hb1.alloc hb1.size _)) | (at_builtin; refine wpList_push_step rfl _ _ rfl rfl (ho2.next ((Below.refl _ _).alloc (Nat.le_refl _) _)) _ ⟨1, b, m, to, r⟩ rfl (boxNewS _ _ _ _ (by simp)) (by simp) (by have := hb2.size; simp at this ⊢; omega) ?_; intro v3 w3 ho3 hg3 hv3 hbl3; have hb3 := hbl3 _ (hb2.alloc hb2.size _)) | (at_builtin; refine wpList_push_step rfl _ _ rfl rfl (ho3.next ((Below.refl _ _).alloc (Nat.le_refl _) _)) _ ⟨0, a, m, to, r⟩ rfl (boxNewS _ _ _ _ (by simp)) (by simp) (by have := hb3.size; simp at this ⊢; omega) ?_; intro v4 w4 ho4 hg4 hv4 hbl4; have hb4 := hbl4 _ (hb3.alloc hb3.size _)))
        go_ret
        exact ⟨⟨v4, rfl, ho4⟩, hb4⟩
end Go.Proofs.YtpfmllpodjcldaaDoor

namespace Go.Proofs.YtpfmllpodjcldaaDoor
open Go.RowKit
set_option maxRecDepth 100000
set_option linter.unusedVariables false

def nws : List GStep → Nat
  | [] => 0
  | s :: r => (if s.k = 2 then 1 else 0) + nws r
theorem nws_append : ∀ S T : List GStep, nws (S ++ T) = nws S + nws T
  | [], T => by simp [nws]
  | s :: S, T => by
    show _ + nws (S ++ T) = _ + nws S + nws T
    rw [nws_append S T]; omega
theorem nws_le : ∀ S : List GStep, nws S ≤ S.length
  | [] => Nat.le_refl _
  | s :: S => by
    have := nws_le S
    rw [nws, List.length_cons]
    split <;> omega
theorem newsN_flat (S : List GStep) : ∀ k, k ≤ S.length → newsN (flatS S) k = nws (S.take k)
  | 0, _ => by simp [newsN, nws]
  | k + 1, h => by
    have h1 : nI (flatS S) (k * 5) = (S.getD k ⟨0, 0, 0, 0, 0⟩).k := congrArg GStep.k (flat_at S k (by omega))
    have e : S.take (k + 1) = S.take k ++ [S.getD k ⟨0, 0, 0, 0, 0⟩] := by
      rw [List.take_add_one, List.getD_eq_getElem?_getD, List.getElem?_eq_getElem (by omega)]; rfl
    rw [newsN, newsN_flat S k (by omega), e, nws_append, h1]
    rfl
theorem News_flat {w : World} {A : Option Addr} {c : Nat} {S : List GStep} (iS : IntsAt w A (flatS S)) (hS : S.length < 2 ^ 40) :
    Calls Tryd.prog 42 #[.slice A S.length c] w fun e w' => e = .returned (.int .i64 (nws S : Nat)) ∧ w' = w := by
  have := News_any (c := c) iS (m := S.length) (by rw [length_flatS]; exact Nat.le_refl _) hS
  rw [newsN_flat S S.length (Nat.le_refl _), List.take_length] at this
  exact this.mono fun e w' h => ⟨h.1, h.2.symm⟩
theorem nws_pass (L : List (List Int)) (a b : Nat) (t r : Int) (m : Nat) : m + nws (passL L a b t r m) = passN L a b m := by
  unfold passL passN
  split
  · simp [nws]
  · split
    · simp [nws]
    · split <;> simp [nws]
theorem nws_passSt {L : List (List Int)} {a b : Nat} {t r : Int} {n : Nat} {st : List GStep × Nat} (h : st.2 = n + nws st.1) : (passSt L a b t r st).2 = n + nws (passSt L a b t r st).1 := by
  have := nws_pass L a b t r st.2
  show passN L a b st.2 = n + nws (st.1 ++ passL L a b t r st.2)
  rw [nws_append]; omega
theorem nws_roundSt {L : List (List Int)} {over a b : Nat} {r : Int} {n : Nat} {st : List GStep × Nat} (h : st.2 = n + nws st.1) : (roundSt L over r a b st).2 = n + nws (roundSt L over r a b st).1 := by
  have h1 : st.2 + 1 = n + nws (st.1 ++ [⟨2, over, 0, 0, 0⟩]) := by rw [nws_append]; simp [nws]; omega
  have h2 := nws_passSt (L := L) (a := a) (b := over) (t := st.2) (r := 3) (n := n) (st := (st.1 ++ [⟨2, over, 0, 0, 0⟩], st.2 + 1)) h1
  have h3 := nws_passSt (L := L) (a := b) (b := over) (t := st.2) (r := 3) (n := n) h2
  show (passSt L b over st.2 3 (passSt L a over st.2 3 (st.1 ++ [⟨2, over, 0, 0, 0⟩], st.2 + 1))).2 = n + nws (((passSt L b over st.2 3 (passSt L a over st.2 3 (st.1 ++ [⟨2, over, 0, 0, 0⟩], st.2 + 1))).1 ++ [⟨1, b, st.2, over, r⟩]) ++ [⟨0, a, st.2, over, r⟩])
  rw [nws_append, nws_append, h3]
  simp [nws]
theorem wpList_join_step {w : World} {ops : Array Oper} {rest : List Oper} {o : Oper} {a : Act} {Q : Exit → Act → World → Prop} (hgd : o.guard = none) (s x : Operand)
    (ho : o.op = .call { callee := .builtin .append, args := #[s, x], argTypes := #[23, 23] })
    {base : Nat} {v : Value} {S T : List GStep} (hs : a.eval s = v) (hown : OwnS w base v S) (A : Option Addr) (m c : Nat) (hx : a.eval x = .slice A m c) (hm : m = T.length) (hT : IntsAt w A (flatS T))
    (hn : S.length + T.length < 2 ^ 40) (hbase : base ≤ w.heap.size)
    (h : ∀ v' w', OwnS w' base v' (S ++ T) → (∀ w0, Below base w0 w → Below base w0 w') → wpList Tryd.prog ops Q rest (a.put o.dst v') w') : wpList Tryd.prog ops Q (o :: rest) a w := by
  subst hm
  have hown' : w.ownsRow base 65 5 v S.length ((flatS S).map (.int .i64)) := hown
  refine wpList_append_cells hgd s x ho eSteps hs hown' A T.length c ((flatS T).map (.int .i64)) hx hT.cells (by rw [List.length_map, length_flatS]) (fun u hu => ?_) (by omega) (by omega) hbase (fun v' w' hp => ?_)
  · obtain ⟨k, _, rfl⟩ := List.mem_map.1 hu; rfl
  · refine h v' w' ?_ fun w0 hb => hp.below hown' hb hbase
    have := hp.own
    unfold OwnS
    rw [show flatS (S ++ T) = flatS S ++ flatS T by simp [flatS], List.map_append, List.length_append]
    exact this
/-- The same, at a step of a region that draws. -/
theorem step_join_step {w : World} {ops : Array Oper} {o : Oper} {a : Act} {K : Act → World → Prop} {Q : Exit → Act → World → Prop} {E : Prop} (hgd : o.guard = none) (s x : Operand)
    (ho : o.op = .call { callee := .builtin .append, args := #[s, x], argTypes := #[23, 23] })
    {base : Nat} {v : Value} {S T : List GStep} (hs : a.eval s = v) (hown : OwnS w base v S) (A : Option Addr) (m c : Nat) (hx : a.eval x = .slice A m c) (hm : m = T.length) (hT : IntsAt w A (flatS T))
    (hn : S.length + T.length < 2 ^ 40) (hbase : base ≤ w.heap.size)
    (h : ∀ B q c w', Hid (q = (S ++ T).length) → OwnS w' base (.slice B q c) (S ++ T) → (∀ w0, Below base w0 w → Below base w0 w') → K (a.put o.dst (.slice B q c)) w') : if Region.wanted o (yielded ops a.tmps) = true then Oper.wp Tryd.prog o a w K Q else E := by
  have hw : Region.wanted o (yielded ops a.tmps) = true := by simp [Region.wanted, hgd]
  rw [if_pos hw]
  subst hm
  have hown' : w.ownsRow base 65 5 v S.length ((flatS S).map (.int .i64)) := hown
  obtain ⟨v', w', hrun, hp⟩ := run_append_cells w o.type eSteps hown' A T.length c ((flatS T).map (.int .i64)) hT.cells (by rw [List.length_map, length_flatS]) (fun u hu => by obtain ⟨k, _, rfl⟩ := List.mem_map.1 hu; rfl) (by omega) (by omega) hbase
  have hpu : OwnS w' base v' (S ++ T) := by
    have := hp.own
    unfold OwnS
    rw [show flatS (S ++ T) = flatS S ++ flatS T by simp [flatS], List.map_append, List.length_append]
    exact this
  obtain ⟨B, c', rfl, hi⟩ := hpu.form
  have := h B _ c' w' (Lib.hid rfl) hpu (fun w0 hb => hp.below hown' hb hbase)
  unfold Oper.wp
  simp only [execOp, ho, resolve, invoke, builtin, Sem.run_bind, Sem.run_pure, Result.andThen_ok, List.map_toArray, List.map_cons, List.map_nil, hs, hx, hrun]
  exact this
theorem OwnS.ints {w : World} {base c : Nat} {A : Option Addr} {S : List GStep} (h : OwnS w base (.slice A S.length c) S) : IntsAt w A (flatS S) := (CellsAt.own (h : w.ownsRow base 65 5 (.slice A S.length c) S.length ((flatS S).map (.int .i64)))).ints
theorem row_getD (p : List Nat) (i : Nat) : row p i = p.getD i 0 := by unfold row; rw [List.getD_eq_getElem?_getD]
end Go.Proofs.YtpfmllpodjcldaaDoor

namespace Go.Proofs.YtpfmllpodjcldaaDoor
open Go.RowKit
set_option maxRecDepth 100000
set_option linter.unusedVariables false

def RPlanPost (fin : List GStep × Nat) (e : Ending) (w' : World) : Prop :=
  ((20 < fin.2 ∨ 60 < fin.1.length) ∧ e = .returned (.tuple #[.slice none 0 0, .int .i64 4])) ∨
  (¬ (20 < fin.2 ∨ 60 < fin.1.length) ∧ ∃ A c, e = .returned (.tuple #[.slice A fin.1.length c, .int .i64 0]) ∧ IntsAt w' A (flatS fin.1))

set_option maxHeartbeats 16000000 in
theorem RPlan_ok {w : World} {A Aw : Option Addr} {c cw n m over r : Nat} {L : List (List Int)} {p : List Nat} (hL : RowsIn anyB 1 w A L) (hn : L.length = n) (hg : GOk L) (iw : IntsAt w Aw (castL p)) (hpm : p.length = m) (hlt : ∀ i, i < m → p.getD i 0 < n) (ho : over < n) (h0 : p.getD 0 0 ≠ over) (hm0 : 0 < m) (hm20 : m ≤ 20) :
    Calls Tryd.prog 16 #[.slice A n c, .int .i64 r, .slice Aw m cw, .int .i64 over] w fun e w' => RPlanPost (planFrom L over r p (m - 1) ([], n)) e w' ∧ Below w.heap.size w w' := by
  have hn20 : n ≤ 20 := by have := hg.few; omega
  obtain ⟨b8, off8, rfl, hc8⟩ := iw (by intro e; have := length_castL p; rw [e] at this; simp at this; omega)
  have Hc8 := Lib.hid (show ∀ i, i < m → ∀ V, Below w.heap.size w V → V.cell? ⟨b8, off8 + i, none⟩ = some (.int .i64 (p.getD i 0 : Nat)) from fun i hi V hV => by
    have h1 := hc8 i _ (by unfold castL; rw [List.getElem?_map, getD_lt (d := 0) (show i < p.length by omega)]; rfl)
    exact (hV.cell (p := ⟨b8, off8 + i, none⟩) (block_lt h1)).trans h1)
  have HP := Lib.hid (fun V (hV : Below w.heap.size w V) (a b : Nat) (ha : a < n) (hb : b < n) (to r : Int) (mm : Nat) => RPassed_any (c := c) (hL.below hV) hn hg ha hb to r mm)
  have Hlt := Lib.hid hlt
  have H0 := Lib.hid h0
  clear hc8 iw hL hg hlt h0 hn hpm
  go_enter Tryd.func16, Tryd.ntmps16
  go_wp2_with fail
  go_loopw [10, 11] (fun v i wr => ∃ (k : Nat) (S : List GStep), i = .int .i64 k ∧ k < m ∧ OwnS wr w.heap.size v S ∧ Hid (planFrom L over r p k (S, n + nws S) = planFrom L over r p (m - 1) ([], n)) ∧ S.length + 6 * k ≤ 6 * m ∧ Below w.heap.size w wr) (fun _ i _ => (intOf i).toNat)
  case atStart => exact ⟨m - 1, [], by rw [show ((m - 1 : Nat) : Int) = (m : Int) - 1 by omega], by omega, OwnS.nil _ _, Lib.hid rfl, by simp; omega, Below.refl _ _⟩
  case round =>
    obtain ⟨k, S, rfl, hk, hoo, heq, hSl, hbr⟩ := hrel
    obtain ⟨Ao, co, rfl, iS⟩ := hoo.form
    have hnw := nws_le S
    have hS40 : S.length < 2 ^ 40 := by omega
    have HN := Lib.hid (fun q => News_flat (w := wr.drewN q) (c := co) iS hS40)
    have Hoo := Lib.hid hoo
    have HiS := Lib.hid iS
    rcases Nat.eq_zero_or_pos k with rfl | hpos
    ·
      have HN0 := Lib.hid (News_flat (w := wr) (c := co) iS hS40)
      have Hfin := Lib.hid (show planFrom L over r p (m - 1) ([], n) = (S, n + nws S) from heq.out.symm)
      clear heq hoo iS HN
      obtain ⟨ns, hns⟩ : ∃ ns, nws S = ns := ⟨_, rfl⟩
      rw [hns] at hnw HN0 Hfin
      clear hns
      by_cases h20 : 20 < n + ns
      · have d1 : decide ((n : Int) + (ns : Int) > 20) = true := decide_eq_true (by omega)
        go_wp2_with (go_at_call 42; with_reducible refine HN0.out.mono ?_; rintro e w' ⟨rfl, rfl⟩)
        go_ret2
        refine ⟨.inl ⟨?_, rfl⟩, hbr⟩
        rw [Hfin.out]; exact .inl h20
      · have d1 : decide ((n : Int) + (ns : Int) > 20) = false := decide_eq_false (by omega)
        by_cases h60 : 60 < S.length
        · have d2 : decide ((S.length : Int) > 60) = true := decide_eq_true (by omega)
          go_wp2_with (go_at_call 42; with_reducible refine HN0.out.mono ?_; rintro e w' ⟨rfl, rfl⟩)
          go_ret2
          refine ⟨.inl ⟨?_, rfl⟩, hbr⟩
          rw [Hfin.out]; exact .inr h60
        · have d2 : decide ((S.length : Int) > 60) = false := decide_eq_false (by omega)
          go_wp2_with (go_at_call 42; with_reducible refine HN0.out.mono ?_; rintro e w' ⟨rfl, rfl⟩)
          go_ret2
          refine ⟨.inr ⟨?_, Ao, co, ?_, ?_⟩, hbr⟩
          · rw [Hfin.out]; exact fun h => h.elim h20 h60
          · rw [Hfin.out]; rfl
          · rw [Hfin.out]; exact HiS.out
    · obtain ⟨j, hkj⟩ : ∃ j, k = j + 1 := ⟨k - 1, by omega⟩
      have hj : j < m := by omega
      have hck : wr.cell? ⟨b8, off8 + k, none⟩ = _ := Hc8.out k hk wr hbr
      have hcj0 : wr.cell? ⟨b8, off8 + j, none⟩ = _ := Hc8.out j hj wr hbr
      have hck1 : (wr.drewN 1).cell? ⟨b8, off8 + k, none⟩ = _ := hck
      have hcj1 : (wr.drewN 1).cell? ⟨b8, off8 + j, none⟩ = _ := hcj0
      have hlb := Hlt.out k hk
      have hla := Hlt.out j hj
      have e1 : (k : Int) - 1 = (j : Int) := by omega
      by_cases hov : p.getD j 0 = over
      · obtain ⟨i, hji⟩ : ∃ i, j = i + 1 := ⟨j - 1, by have : j ≠ 0 := fun e => H0.out (by rw [← hov, e]); omega⟩
        have hi : i < m := by omega
        have dne : (((p.getD j 0 : Nat) : Int) != (over : Int)) = false := by rw [hov]; simp
        have hlc := Hlt.out i hi
        have e2 : (k : Int) - 2 = (i : Int) := by omega
        have Heq := Lib.hid (show planFrom L over r p i (roundSt L over r (p.getD i 0) (p.getD k 0) (S, n + nws S)) = planFrom L over r p (m - 1) ([], n) by
          subst hji; subst hkj; exact (planFrom_round hov).symm.trans heq.out)
        have hlen := roundSt_len L over r (p.getD i 0) (p.getD k 0) (S, n + nws S)
        have Hnn := Lib.hid (nws_roundSt (L := L) (over := over) (a := p.getD i 0) (b := p.getD k 0) (r := r) (n := n) (st := (S, n + nws S)) rfl)
        have Hci := Lib.hid (Hc8.out i hi)
        have Hck := Lib.hid (Hc8.out k hk)
        have Hk2 := Lib.hid (show k = i + 2 by omega)
        have hk2 : 2 ≤ k := by omega
        clear heq hov hoo iS hkj hji hck1 hcj1
        generalize p.getD i 0 = a at *
        generalize p.getD j 0 = o2 at *
        generalize p.getD k 0 = b at *
        obtain ⟨v, hv⟩ : ∃ v, n + nws S = v := ⟨_, rfl⟩
        have Hrd := Lib.hid (show (roundSt L over r a b (S, v)).1 = (((S ++ [⟨2, over, 0, 0, 0⟩]) ++ passL L a over v 3 (v + 1)) ++ passL L b over v 3 (passN L a over (v + 1))) ++ [⟨1, b, v, over, r⟩] ++ [⟨0, a, v, over, r⟩] from rfl)
        have hnS1 : n + nws (S ++ [(⟨2, over, 0, 0, 0⟩ : GStep)]) = v + 1 := by rw [nws_append]; simp [nws]; omega
        have hlS1 : (S ++ [(⟨2, over, 0, 0, 0⟩ : GStep)]).length = S.length + 1 := by simp
        have hT1 := passL_le L a over v 3 (v + 1)
        have hT2 := passL_le L b over v 3 (passN L a over (v + 1))
        have hP1 := nws_pass L a over v 3 (v + 1)
        rw [hv] at hlen Hnn Heq
        obtain ⟨vx, hvx⟩ : ∃ vx, v + 1 = vx := ⟨_, rfl⟩
        rw [hvx] at Hrd hnS1 hT1 hT2 hP1
        have ev : (n : Int) + (nws S : Nat) = (v : Int) := by omega
        have HNV := Lib.hid (fun V (hV : IntsAt V Ao (flatS S)) => News_flat (c := co) hV hS40)
        have hvm : v ≤ 200 := by omega
        have hvx2 : vx ≤ 201 := by omega
        clear hv HN hvx
        go_wp2_with (first | (go_at_call 42; with_reducible refine (HNV.out _ (by exact HiS.out)).mono ?_; rintro e w' ⟨rfl, rfl⟩) | (at_builtin; refine wpList_push_step rfl _ _ rfl rfl (Hoo.out.next ((Below.refl _ _).alloc (Nat.le_refl _) _)) _ ⟨2, over, 0, 0, 0⟩ rfl (boxNewS _ _ _ _ (by simp)) (by omega) (by have := hbr.size; simp at this ⊢; omega) ?_; intro v1 w1 ho1 hg1 hv1 hbl1; have hb1 := hbl1 _ (hbr.alloc hbr.size _)))
        obtain ⟨A1, c1, hv1e, i1⟩ := ho1.form
        subst hv1e
        generalize hS1 : S ++ [(⟨2, over, 0, 0, 0⟩ : GStep)] = S1 at *
        have hlS1' : S1.length < 300 := by omega
        have I1 := Lib.hid (show IntsAt w1.drew A1 (flatS S1) from i1)
        have O1 := Lib.hid (show OwnS w1.drew w.heap.size (.slice A1 S1.length c1) S1 from ho1)
        have hb1d := hb1.drew
        have HN1 := Lib.hid (fun V (hV : IntsAt V A1 (flatS S1)) => News_flat (c := c1) hV (by omega))
        have HP1 := Lib.hid (fun V hV => HP.out V hV a over hlc ho (v : Int) 3 vx)
        have wp1 : IntKind.i64.wrap ((n : Int) + (nws S1 : Nat)) = (vx : Int) := by rw [IntWalk.i64_in _ (by omega)]; omega
        have wi : IntKind.i64.wrap (i : Int) = (i : Int) := IntWalk.i64_in _ (by omega)
        have z1 : w1.cell? ⟨b8, off8 + i, none⟩ = _ := Hci.out _ hb1
        have HlS1 := Lib.hid hlS1
        clear hlS1 hS1 i1 ho1 hg1 hv1 hbl1 HNV ev hck hcj0 dne
        generalize passL L a over (v : Int) 3 vx = T1 at *
        go_region_held3 (fun V => V.cell? ⟨b8, off8 + i, none⟩ = some (.int .i64 a))
          ((first | go_keep | exact Hci.out _ hbq3 | exact Hci.out _ hbr3))
          ((first | (go_at_call 42; (with_reducible refine (HN1.out _ I1.out).mono ?_); rintro e w' ⟨rfl, rfl⟩) | (go_at_call 41; (with_reducible refine (HP1.out _ hb1d).mono ?_); rintro e wq3 ⟨⟨vq3, rfl, hoq3⟩, hbp3⟩; have hbq3 := Below.trans hb1d (hbp3.mono hb1d.size); obtain ⟨Aq3, cq3, rfl, iq3⟩ := hoq3.form) | (refine step_join_step (by rfl) _ _ (by rfl) (by rfl) (OwnS.next O1.out hbp3) Aq3 _ cq3 (by rfl) rfl iq3 (by omega) hbq3.size ?_; intro B3 q3 c3 wr3 hqe3 hor3 hbl3; have hbr3 := hbl3 _ hbq3) | fail))
        obtain rfl := hqe3.out
        have i3 := hor3.ints
        have hl2 : (S1 ++ T1).length ≤ S.length + 5 := by rw [List.length_append]; have := HlS1.out; omega
        have hn2 : n + nws (S1 ++ T1) = passN L a over vx := by rw [nws_append]; omega
        have hnl2 := nws_le (S1 ++ T1)
        clear hbq3 hbp3 hoq3 iq3 hbl3 HN1 HP1 wp1 z1 I1 O1 hb1
        generalize S1 ++ T1 = S2 at *
        generalize passN L a over vx = v2 at *
        have I2 := Lib.hid (show IntsAt wr3.drew B3 (flatS S2) from i3)
        have O2 := Lib.hid (show OwnS wr3.drew w.heap.size (.slice B3 S2.length c3) S2 from hor3)
        have hbr3d := hbr3.drew
        have HN2 := Lib.hid (fun V (hV : IntsAt V B3 (flatS S2)) => News_flat (c := c3) hV (by omega))
        have HP2 := Lib.hid (fun V hV => HP.out V hV b over hlb ho (v : Int) 3 v2)
        have wp2 : IntKind.i64.wrap ((n : Int) + (nws S2 : Nat)) = (v2 : Int) := by rw [IntWalk.i64_in _ (by omega)]; omega
        have z2 : wr3.cell? ⟨b8, off8 + k, none⟩ = _ := Hck.out _ hbr3
        clear i3 hor3
        generalize passL L b over (v : Int) 3 v2 = T2 at *
        go_wp2_with fail
        go_region_held3 (fun V => V.cell? ⟨b8, off8 + k, none⟩ = some (.int .i64 b))
          ((first | go_keep | exact Hck.out _ hbq5 | exact Hck.out _ hbr5))
          ((first | (go_at_call 42; (with_reducible refine (HN2.out _ I2.out).mono ?_); rintro e w' ⟨rfl, rfl⟩) | (go_at_call 41; (with_reducible refine (HP2.out _ hbr3d).mono ?_); rintro e wq5 ⟨⟨vq5, rfl, hoq5⟩, hbp5⟩; have hbq5 := Below.trans hbr3d (hbp5.mono hbr3d.size); obtain ⟨Aq5, cq5, rfl, iq5⟩ := hoq5.form) | (refine step_join_step (by rfl) _ _ (by rfl) (by rfl) (OwnS.next O2.out hbp5) Aq5 _ cq5 (by rfl) rfl iq5 (by omega) hbq5.size ?_; intro B5 q5 c5 wr5 hqe5 hor5 hbl5; have hbr5 := hbl5 _ hbq5) | fail))
        obtain rfl := hqe5.out
        have hl5 : (S2 ++ T2).length ≤ S.length + 9 := by rw [List.length_append]; omega
        have y0 : wr5.cell? ⟨b8, off8 + k, none⟩ = _ := Hck.out _ hbr5
        clear hbq5 hbp5 hoq5 iq5 hbl5 HN2 HP2 wp2 z2 I2 O2
        generalize S2 ++ T2 = S5 at *
        go_wp2_with (first | (at_builtin; refine wpList_push_step rfl _ _ rfl rfl (hor5.next ((Below.refl _ _).alloc (Nat.le_refl _) _)) _ ⟨1, b, v, over, r⟩ rfl (boxNewS _ _ _ _ (by simp)) (by omega) (by have := hbr5.size; simp at this ⊢; omega) ?_; intro v6 w6 ho6 hg6 hv6 hbl6; have hb6 := hbl6 _ (hbr5.alloc hbr5.size _); have y6 : w6.cell? ⟨b8, off8 + i, none⟩ = _ := Hci.out _ hb6) | (at_builtin; refine wpList_push_step rfl _ _ rfl rfl (ho6.next ((Below.refl _ _).alloc (Nat.le_refl _) _)) _ ⟨0, a, v, over, r⟩ rfl (boxNewS _ _ _ _ (by simp)) (by rw [List.length_append]; simp; omega) (by have := hb6.size; simp at this ⊢; omega) ?_; intro v7 w7 ho7 hg7 hv7 hbl7; have hb7 := hbl7 _ (hb6.alloc hb6.size _)))
        have h9 : (roundSt L over r a b (S, v)).1.length ≤ S.length + 11 := hlen
        refine ⟨⟨i, (roundSt L over r a b (S, v)).1, ?ya, hi, ?yb, Lib.hid ?ye, ?yc, hb7⟩, ?yd⟩
        case ya => go_num
        case yb => rw [Hrd.out]; exact ho7
        case ye => rw [← Hnn.out]; exact Heq.out
        case yc => have := Hk2.out; omega
        case yd => simp [intOf]; have := Hk2.out; omega
      · have dne : (((p.getD j 0 : Nat) : Int) != (over : Int)) = true := bne_iff_ne.2 (fun e => hov (Int.ofNat.inj e))
        have Heq := Lib.hid (show planFrom L over r p j (passSt L (p.getD j 0) (p.getD k 0) over r (S, n + nws S)) = planFrom L over r p (m - 1) ([], n) by rw [← heq.out, hkj, planFrom_pass hov])
        have hlen := passSt_len L (p.getD j 0) (p.getD k 0) over r (S, n + nws S)
        have Hnn := Lib.hid (nws_passSt (L := L) (a := p.getD j 0) (b := p.getD k 0) (t := over) (r := r) (n := n) (st := (S, n + nws S)) rfl)
        have Hkj := Lib.hid hkj
        clear heq hov hoo iS hkj
        have Hc := Lib.hid (Hc8.out j hj)
        have Hc' := Lib.hid (Hc8.out k hk)
        generalize p.getD j 0 = a at *
        generalize p.getD k 0 = b at *
        obtain ⟨vp, hvp⟩ : ∃ vp, n + nws S = vp := ⟨_, rfl⟩
        rw [hvp] at Heq hlen Hnn
        have HiSd := Lib.hid (show IntsAt wr.drew Ao (flatS S) from HiS.out)
        have Hood := Lib.hid (show OwnS wr.drew w.heap.size (.slice Ao S.length co) S from Hoo.out)
        have hbrd := hbr.drew
        have HNV := Lib.hid (fun V (hV : IntsAt V Ao (flatS S)) => News_flat (c := co) hV hS40)
        have hT0 := passL_le L a b over r vp
        have HPj := Lib.hid (fun V hV => HP.out V hV a b hla hlb over r vp)
        have wp : IntKind.i64.wrap ((n : Int) + (nws S : Nat)) = (vp : Int) := by rw [IntWalk.i64_in _ (by omega)]; omega
        have wj : IntKind.i64.wrap (j : Int) = (j : Int) := IntWalk.i64_in _ (by omega)
        clear hvp
        go_wp2_with fail
        go_region_held3 (fun V => V.cell? ⟨b8, off8 + j, none⟩ = some (.int .i64 a) ∧ V.cell? ⟨b8, off8 + k, none⟩ = some (.int .i64 b))
          ((first | go_keep | exact ⟨Hc.out _ hbq6, Hc'.out _ hbq6⟩ | exact ⟨Hc.out _ hbr6, Hc'.out _ hbr6⟩))
          ((first | (go_at_call 42; (with_reducible refine (HNV.out _ HiSd.out).mono ?_); rintro e w' ⟨rfl, rfl⟩) | (go_at_call 41; (with_reducible refine (HPj.out _ hbrd).mono ?_); rintro e wq6 ⟨⟨vq6, rfl, hoq6⟩, hbp6⟩; have hbq6 := Below.trans hbrd (hbp6.mono hbrd.size); obtain ⟨Aq6, cq6, rfl, iq6⟩ := hoq6.form) | (refine step_join_step (by rfl) _ _ (by rfl) (by rfl) (OwnS.next Hood.out hbp6) Aq6 _ cq6 (by rfl) rfl iq6 (by omega) hbq6.size ?_; intro B6 q6 c6 wr6 hqe6 hor6 hbl6; have hbr6 := hbl6 _ hbq6) | fail))
        all_goals
          have Hend := Lib.hid (show planFrom L over r p j (S ++ passL L a b over r vp, n + nws (S ++ passL L a b over r vp)) = planFrom L over r p (m - 1) ([], n) from by
            rw [← Heq.out]; exact congrArg (fun x => planFrom L over r p j (S ++ passL L a b over r vp, x)) Hnn.out.symm)
          have hlen2 : (S ++ passL L a b over r vp).length ≤ S.length + 4 := hlen
          generalize S ++ passL L a b over r vp = S2 at *
          clear HNV HPj wp wj Heq Hnn hlen
          go_wp2_with fail
          obtain rfl := hqe6.out
          refine ⟨⟨j, S2, ?ya, hj, hor6, Hend, ?yc, hbr6⟩, ?yd⟩
          case ya => go_num
          case yc => omega
          case yd => simp [intOf]; omega
end Go.Proofs.YtpfmllpodjcldaaDoor
