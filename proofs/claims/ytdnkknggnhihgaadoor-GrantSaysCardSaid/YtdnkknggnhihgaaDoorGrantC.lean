/-
  Contract: grant.Check.
-/
import Derived.Test.YtdnkknggnhihgaaDoorGrantA
import Derived.Test.YtdnkknggnhihgaaDoorStillD
import Derived.Deep.QuietTactic
import Derived.BigQuiet
namespace Go.Proofs.YtdnkknggnhihgaaDoor
open Go.RowKit
set_option maxRecDepth 100000
set_option linter.unusedVariables false

theorem gScan_bad {users : Int} {G : List Int} {n k kk : Nat} (hk : k < n) (h : gScan users G k = 0) (hb : gBad users G k = kk) (hne : kk ≠ 0) : gScan users G n = kk := by
  induction n with
  | zero => omega
  | succ n ih =>
    rcases Nat.lt_or_ge k n with h1 | h1
    · have := ih h1
      unfold gScan
      rw [if_neg (by omega)]; exact this
    · obtain rfl : k = n := by omega
      unfold gScan
      rw [if_pos h]; exact hb
theorem gScan_next {users : Int} {G : List Int} {k : Nat} (h : gScan users G k = 0) (hb : gBad users G k = 0) : gScan users G (k + 1) = 0 := by
  unfold gScan; rw [if_pos h]; exact hb

theorem gBad_one {users : Int} {G : List Int} {i : Nat} (h : ¬ ((0 ≤ gFr G i ∧ gFr G i < users) ∧ (0 ≤ gTo G i ∧ gTo G i < users) ∧ (0 ≤ gTm G i ∧ gTm G i ≤ 999999))) : gBad users G i = 1 := by
  unfold gBad; rw [if_neg (show ¬ gIn users G i from h)]
theorem gBad_three {users : Int} {G : List Int} {i : Nat} (h : (0 ≤ gFr G i ∧ gFr G i < users) ∧ (0 ≤ gTo G i ∧ gTo G i < users) ∧ (0 ≤ gTm G i ∧ gTm G i ≤ 999999)) (h0 : 0 < i) (h1 : gTm G i ≤ gTm G (i - 1)) : gBad users G i = 3 := by
  unfold gBad; rw [if_pos (show gIn users G i from h), if_pos ⟨h0, h1⟩]
theorem gBad_held {users : Int} {G : List Int} {i : Nat} (h : (0 ≤ gFr G i ∧ gFr G i < users) ∧ (0 ≤ gTo G i ∧ gTo G i < users) ∧ (0 ≤ gTm G i ∧ gTm G i ≤ 999999)) (h0 : ¬ (0 < i ∧ gTm G i ≤ gTm G (i - 1))) (r : Bool) (hr : gHeld G i (gFr G i) = r) : gBad users G i = if r then 0 else 7 := by
  unfold gBad; rw [if_pos (show gIn users G i from h), if_neg h0, hr]

set_option maxHeartbeats 2000000 in
theorem GCheck_any (users : Int) (n : Nat) (G : List Int) (A : Option Addr) (c : Nat) (w : World) (h : IntsAt w A G) (hl : n * 3 ≤ G.length) (hn : n < 2 ^ 47) (hcap : n ≤ c) :
    Calls Tryd.prog 32 #[.int .i64 users, .slice A n c] w fun e w' => e = .returned (errVal (gCode users G n)) ∧ Below w.heap.size w w' := by
  by_cases hu : 1 ≤ users ∧ users ≤ 8
  · have C0 := Lib.hid (fun V => Within3_is users 1 8 true V (by simp; omega))
    by_cases h40 : 40 < n
    · have Hc := Lib.hid (show gCode users G n = 4 by unfold gCode; rw [if_pos hu, if_pos h40])
      clear hu
      go_enter Tryd.func32, Tryd.ntmps32
      go_wp2_with (go_at_call 55; with_reducible refine (C0.out _).mono ?_; rintro e w' ⟨rfl, rfl⟩)
      go_ret
      exact ⟨by rw [Hc.out]; rfl, Below.refl _ _⟩
    · have Hc := Lib.hid (show gCode users G n = gScan users G n by unfold gCode; rw [if_pos hu, if_neg h40])
      go_enter Tryd.func32, Tryd.ntmps32
      go_wp2_with (go_at_call 55; with_reducible refine (C0.out _).mono ?_; rintro e w' ⟨rfl, rfl⟩)
      go_loopw [17] (fun i wr => ∃ k : Nat, k ≤ n ∧ i = .int .i64 k ∧ Hid (gScan users G k = 0) ∧ Below w.heap.size w wr) (fun i _ => n - (intOf i).toNat)
      case atStart => exact ⟨0, Nat.zero_le _, rfl, rfl, Below.refl _ _⟩
      case round =>
        obtain ⟨k, hk, rfl, hsc, hbr⟩ := hrel
        by_cases hlt : k < n
        · obtain ⟨b, off, rfl, hc⟩ := h (by intro e; simp [e] at hl; omega)
          have p0 : w.cell? ⟨b, off + k * 3, none⟩ = some (.int .i64 (gFr G k)) := hc (k * 3) _ (get_gI (by omega))
          have p1 : w.cell? ⟨b, off + k * 3 + 1, none⟩ = some (.int .i64 (gTo G k)) := hc (k * 3 + 1) _ (get_gI (by omega))
          have p2 : w.cell? ⟨b, off + k * 3 + 2, none⟩ = some (.int .i64 (gTm G k)) := hc (k * 3 + 2) _ (get_gI (by omega))
          have p3 : 0 < k → w.cell? ⟨b, off + (k - 1) * 3 + 2, none⟩ = some (.int .i64 (gTm G (k - 1))) := fun h0 => hc ((k - 1) * 3 + 2) _ (get_gI (by omega))
          have hbw : b < w.heap.size := block_lt p0
          have q0 := (hbr.cell (p := ⟨b, _, none⟩) hbw).trans p0
          have q1 := (hbr.cell (p := ⟨b, _, none⟩) hbw).trans p1
          have q2 := (hbr.cell (p := ⟨b, _, none⟩) hbw).trans p2
          have hbr3 : b < wr.heap.size := Nat.lt_of_lt_of_le hbw hbr.size
          have hba : Below wr.heap.size wr (wr.alloc (.cells #[.int .i64 (gFr G k), .int .i64 (gTo G k), .int .i64 (gTm G k)] 52)) := (Below.refl _ wr).alloc (Nat.le_refl _) _
          have hba2 := hbr.trans (hba.mono hbr.size)
          have HH := Lib.hid (fun (V : World) (r : Bool) (hV : Below wr.heap.size wr V) (hr : gHeld G k (gFr G k) = r) => (holds_any k G (some ⟨b, off, none⟩) c V ((h.below hbr).below hV) (by omega) (by omega) (gFr G k) hr).mono fun e w' ⟨he, hb⟩ => (⟨he, hV.trans (hb.mono hV.size)⟩ : _ ∧ Below wr.heap.size wr w'))
          have W1 := Lib.hid (fun (V : World) (r : Bool) (hr : decide (0 ≤ gFr G k ∧ gFr G k ≤ users - 1) = r) => Within3_is (gFr G k) 0 (users - 1) r V hr)
          have W2 := Lib.hid (fun (V : World) (r : Bool) (hr : decide (0 ≤ gTo G k ∧ gTo G k ≤ users - 1) = r) => Within3_is (gTo G k) 0 (users - 1) r V hr)
          have W3 := Lib.hid (fun (V : World) (r : Bool) (hr : decide (0 ≤ gTm G k ∧ gTm G k ≤ 999999) = r) => Within3_is (gTm G k) 0 999999 r V hr)
          have B1 := Lib.hid (fun h => gBad_one (users := users) (G := G) (i := k) h)
          have B3 := Lib.hid (fun h h' h'' => gBad_three (users := users) (G := G) (i := k) h h' h'')
          have B7 := Lib.hid (fun h h' r h'' => gBad_held (users := users) (G := G) (i := k) h h' r h'')
          have Hbad := Lib.hid (fun kk (hb : gBad users G k = kk) (hne : kk ≠ 0) => gScan_bad hlt hsc.out hb hne)
          have Hnext := Lib.hid (fun (hb : gBad users G k = 0) => gScan_next hsc.out hb)
          clear hc p0 p1 p2 hsc h C0
          generalize gFr G k = x0 at *
          generalize gTo G k = x1 at *
          generalize gTm G k = x2 at *
          by_cases i1 : 0 ≤ x0 ∧ x0 < users
          · have D1 := Lib.hid (fun V => W1.out V true (by simp; omega))
            by_cases i2 : 0 ≤ x1 ∧ x1 < users
            · have D2 := Lib.hid (fun V => W2.out V true (by simp; omega))
              by_cases i3 : 0 ≤ x2 ∧ x2 ≤ 999999
              · have D3 := Lib.hid (fun V => W3.out V true (by simp; omega))
                clear W1 W2 W3
                by_cases h3 : 0 < k ∧ x2 ≤ gTm G (k - 1)
                · obtain ⟨hk0, hle⟩ := h3
                  have Hr := Lib.hid (Hbad.out _ (B3.out ⟨i1, i2, i3⟩ hk0 hle) (by decide))
                  clear B1 B3 B7
                  have p3 := p3 hk0
                  have q3 := (hbr.cell (p := ⟨b, _, none⟩) hbw).trans p3
                  generalize gTm G (k - 1) = y at *
                  have d1 : decide ((k : Int) > 0) = true := by simp; omega
                  have e1 : ((k : Int) - 1).toNat = k - 1 := by omega
                  have f1 : (1 : Int) ≤ k := by omega
                  have f2 : (0 : Int) ≤ (k : Int) - 1 := by omega
                  have f3 : (k : Int) - 1 < n := by omega
                  have d2 : decide (x2 ≤ y) = true := by simpa using hle
                  clear Hbad Hnext HH p3 i1 i2 i3 hle
                  go_wp2_with (go_at_call 55; first | (with_reducible refine (D1.out _).mono ?_; rintro e w' ⟨rfl, rfl⟩) | (with_reducible refine (D2.out _).mono ?_; rintro e w' ⟨rfl, rfl⟩) | (with_reducible refine (D3.out _).mono ?_; rintro e w' ⟨rfl, rfl⟩))
                  go_quiet (fail)
                  go_wp2_with fail
                  go_ret
                  exact ⟨by rw [Hc.out, Hr.out]; rfl, belowD hba2 _⟩
                · have B := Lib.hid (fun r h => B7.out ⟨i1, i2, i3⟩ h3 r h)
                  clear B1 B3 B7
                  have hd : ∀ (K : Prop), (k = 0 → K) → (0 < k → gTm G (k - 1) < x2 → K) → K := fun K h0 h1 => by
                    rcases Nat.eq_zero_or_pos k with hz | hz
                    · exact h0 hz
                    · exact h1 hz (by omega)
                  clear h3
                  cases hheld : gHeld G k x0 with
                  | false =>
                    have H5 := Lib.hid (fun V hV => HH.out V false hV hheld)
                    have Hr := Lib.hid (Hbad.out _ (B.out _ hheld) (by decide))
                    clear B
                    clear Hbad Hnext HH hheld
                    apply hd
                    · rintro rfl
                      simp only [Nat.zero_mul, Nat.add_zero] at q0 q1 q2
                      clear i1 i2 i3 p3 hd
                      go_wp2_with (go_at_call 55; first | (with_reducible refine (D1.out _).mono ?_; rintro e w' ⟨rfl, rfl⟩) | (with_reducible refine (D2.out _).mono ?_; rintro e w' ⟨rfl, rfl⟩) | (with_reducible refine (D3.out _).mono ?_; rintro e w' ⟨rfl, rfl⟩))
                      go_quiet (fail)
                      go_wp2_with fail
                      refine wp_still_tailD2 5 (by kernel_rfl) (by kernel_rfl) ?_
                      simp only [List.take_succ_cons, List.take_zero, List.drop_succ_cons, List.drop_zero]
                      repeat still_step
                      refine wpStill_nil ?_
                      go_wp2_with fail
                      refine (H5.out _ (belowD hba _)).mono ?_
                      rintro e w1 ⟨rfl, hb1⟩
                      go_wp2_with fail
                      go_ret
                      exact ⟨by rw [Hc.out, Hr.out]; rfl, hbr.trans (hb1.mono hbr.size)⟩
                    · intro hk0 hlt2
                      have p3 := p3 hk0
                      have q3 := (hbr.cell (p := ⟨b, _, none⟩) hbw).trans p3
                      generalize gTm G (k - 1) = y at *
                      have d1 : decide ((k : Int) > 0) = true := by simp; omega
                      have e1 : ((k : Int) - 1).toNat = k - 1 := by omega
                      have f1 : (1 : Int) ≤ k := by omega
                      have f2 : (0 : Int) ≤ (k : Int) - 1 := by omega
                      have f3 : (k : Int) - 1 < n := by omega
                      have f4 : k ≤ c := by omega
                      have d2 : decide (x2 ≤ y) = false := by simpa using hlt2
                      clear i1 i2 i3 p3 hd hlt2
                      go_wp2_with (go_at_call 55; first | (with_reducible refine (D1.out _).mono ?_; rintro e w' ⟨rfl, rfl⟩) | (with_reducible refine (D2.out _).mono ?_; rintro e w' ⟨rfl, rfl⟩) | (with_reducible refine (D3.out _).mono ?_; rintro e w' ⟨rfl, rfl⟩))
                      go_quiet (fail)
                      clear e1 f1 f2 f3
                      go_wp2_with fail
                      refine wp_still_tailD2 5 (by kernel_rfl) (by kernel_rfl) ?_
                      simp only [List.take_succ_cons, List.take_zero, List.drop_succ_cons, List.drop_zero]
                      repeat still_step
                      refine wpStill_nil ?_
                      go_wp2_with fail
                      refine (H5.out _ (belowD hba _)).mono ?_
                      rintro e w1 ⟨rfl, hb1⟩
                      go_wp2_with fail
                      go_ret
                      exact ⟨by rw [Hc.out, Hr.out]; rfl, hbr.trans (hb1.mono hbr.size)⟩
                  | true =>
                    have H5 := Lib.hid (fun V hV => HH.out V true hV hheld)
                    have Hr := Lib.hid (Hnext.out (B.out _ hheld))
                    clear B
                    clear Hbad Hnext HH hheld
                    apply hd
                    · rintro rfl
                      simp only [Nat.zero_mul, Nat.add_zero] at q0 q1 q2
                      clear i1 i2 i3 p3 hd
                      go_wp2_with (go_at_call 55; first | (with_reducible refine (D1.out _).mono ?_; rintro e w' ⟨rfl, rfl⟩) | (with_reducible refine (D2.out _).mono ?_; rintro e w' ⟨rfl, rfl⟩) | (with_reducible refine (D3.out _).mono ?_; rintro e w' ⟨rfl, rfl⟩))
                      go_quiet (fail)
                      go_wp2_with fail
                      refine wp_still_tailD2 5 (by kernel_rfl) (by kernel_rfl) ?_
                      simp only [List.take_succ_cons, List.take_zero, List.drop_succ_cons, List.drop_zero]
                      repeat still_step
                      refine wpStill_nil ?_
                      go_wp2_with fail
                      refine (H5.out _ (belowD hba _)).mono ?_
                      rintro e w1 ⟨rfl, hb1⟩
                      go_wp2_with fail
                      refine ⟨⟨0 + 1, ?xa, ?xb, Hr, hbr.trans (hb1.mono hbr.size)⟩, ?xd⟩
                      case xa => omega
                      case xb => go_num
                      case xd => simp [intOf]; omega
                    · intro hk0 hlt2
                      have p3 := p3 hk0
                      have q3 := (hbr.cell (p := ⟨b, _, none⟩) hbw).trans p3
                      generalize gTm G (k - 1) = y at *
                      have d1 : decide ((k : Int) > 0) = true := by simp; omega
                      have e1 : ((k : Int) - 1).toNat = k - 1 := by omega
                      have f1 : (1 : Int) ≤ k := by omega
                      have f2 : (0 : Int) ≤ (k : Int) - 1 := by omega
                      have f3 : (k : Int) - 1 < n := by omega
                      have f4 : k ≤ c := by omega
                      have d2 : decide (x2 ≤ y) = false := by simpa using hlt2
                      clear i1 i2 i3 p3 hd hlt2
                      go_wp2_with (go_at_call 55; first | (with_reducible refine (D1.out _).mono ?_; rintro e w' ⟨rfl, rfl⟩) | (with_reducible refine (D2.out _).mono ?_; rintro e w' ⟨rfl, rfl⟩) | (with_reducible refine (D3.out _).mono ?_; rintro e w' ⟨rfl, rfl⟩))
                      go_quiet (fail)
                      clear e1 f1 f2 f3
                      go_wp2_with fail
                      refine wp_still_tailD2 5 (by kernel_rfl) (by kernel_rfl) ?_
                      simp only [List.take_succ_cons, List.take_zero, List.drop_succ_cons, List.drop_zero]
                      repeat still_step
                      refine wpStill_nil ?_
                      go_wp2_with fail
                      refine (H5.out _ (belowD hba _)).mono ?_
                      rintro e w1 ⟨rfl, hb1⟩
                      go_wp2_with fail
                      refine ⟨⟨k + 1, ?ya, ?yb, Hr, hbr.trans (hb1.mono hbr.size)⟩, ?yd⟩
                      case ya => omega
                      case yb => go_num
                      case yd => simp [intOf]; omega
              · have D3 := Lib.hid (fun V => W3.out V false (by simp; omega))
                have Hr := Lib.hid (Hbad.out _ (B1.out (by omega)) (by decide))
                clear B1 B3 B7
                clear W1 W2 W3 Hbad Hnext HH p3 i1 i2 i3
                go_wp2_with (go_at_call 55; first | (with_reducible refine (D1.out _).mono ?_; rintro e w' ⟨rfl, rfl⟩) | (with_reducible refine (D2.out _).mono ?_; rintro e w' ⟨rfl, rfl⟩) | (with_reducible refine (D3.out _).mono ?_; rintro e w' ⟨rfl, rfl⟩))
                go_ret
                exact ⟨by rw [Hc.out, Hr.out]; rfl, hba2⟩
            · have D2 := Lib.hid (fun V => W2.out V false (by simp; omega))
              have Hr := Lib.hid (Hbad.out _ (B1.out (by omega)) (by decide))
              clear B1 B3 B7
              clear W1 W2 W3 Hbad Hnext HH p3 i1 i2
              go_wp2_with (go_at_call 55; first | (with_reducible refine (D1.out _).mono ?_; rintro e w' ⟨rfl, rfl⟩) | (with_reducible refine (D2.out _).mono ?_; rintro e w' ⟨rfl, rfl⟩))
              go_ret
              exact ⟨by rw [Hc.out, Hr.out]; rfl, hba2⟩
          · have D1 := Lib.hid (fun V => W1.out V false (by simp; omega))
            have Hr := Lib.hid (Hbad.out _ (B1.out (by omega)) (by decide))
            clear B1 B3 B7
            clear W1 W2 W3 Hbad Hnext HH p3 i1
            go_wp2_with (go_at_call 55; with_reducible refine (D1.out _).mono ?_; rintro e w' ⟨rfl, rfl⟩)
            go_ret
            exact ⟨by rw [Hc.out, Hr.out]; rfl, hba2⟩
        · obtain rfl : k = n := by omega
          clear C0
          go_wp2_with fail
          go_ret
          exact ⟨by rw [Hc.out, hsc.out]; rfl, hbr⟩
  · have C0 := Lib.hid (fun V => Within3_is users 1 8 false V (by simp; omega))
    have Hc := Lib.hid (show gCode users G n = 1 by unfold gCode; rw [if_neg hu])
    clear hu
    go_enter Tryd.func32, Tryd.ntmps32
    go_wp2_with (go_at_call 55; with_reducible refine (C0.out _).mono ?_; rintro e w' ⟨rfl, rfl⟩)
    go_ret
    exact ⟨by rw [Hc.out]; rfl, Below.refl _ _⟩
end Go.Proofs.YtdnkknggnhihgaaDoor
