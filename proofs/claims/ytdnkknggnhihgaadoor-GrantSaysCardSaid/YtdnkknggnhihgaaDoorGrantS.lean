/-
  Contracts: the reference's Granted, Givens, Revoked.
-/
import Derived.Test.YtdnkknggnhihgaaDoorGrantL
import Derived.Test.YtdnkknggnhihgaaDoorSets
import Derived.Test.YtdnkknggnhihgaaDoorRin
namespace Go.Proofs.YtdnkknggnhihgaaDoor
open Go.RowKit
set_option maxRecDepth 100000
set_option linter.unusedVariables false

section
variable {P : Program} {f : FuncId} {args : Array Value} {w : World} {v : Value}
/-- Contracts that leave the world, in a quiet region behind some draws. -/
theorem quietS {n q : Nat} (h : Calls P f args (w.drewN (q + n)) fun e w' => e = .returned v ∧ w.drewN (q + n) = w') : Calls P f args (w.drewN (q + n)) fun e w'' => e = .returned v ∧ ∃ m, w'' = w.drewN (q + m) :=
  h.mono fun _ _ ⟨he, hm⟩ => ⟨he, n, hm.symm⟩
end
theorem gSet_ok {users : Int} {G : List Int} {n : Nat} (h : gCode users G n = 0) : ∀ i, i < n → 0 ≤ gTo G i ∧ gTo G i < 8 := fun i hi => by
  have h1 := (gBad_zero.1 ((gCode_ok h).2.2 i hi)).1
  have h2 := (gCode_ok h).1
  exact ⟨h1.2.1.1, by have := h1.2.1.2; omega⟩

set_option maxHeartbeats 1000000 in
theorem RGranted_any (n : Nat) (G : List Int) (A : Option Addr) (c : Nat) (w : World) (h : IntsAt w A G) (hl : n * 3 ≤ G.length) (hn : n < 2 ^ 47) (hto : ∀ i, i < n → 0 ≤ gTo G i ∧ gTo G i < 8) :
    Calls Tryd.prog 35 #[.slice A n c] w fun e w' => e = .returned (.int .i64 (gSet G n : Nat)) ∧ w = w' := by
  have Hto := Lib.hid hto
  clear hto
  go_enter Tryd.func35, Tryd.ntmps35
  go_wp2_with fail
  go_loop [3, 4] (fun s i => ∃ k : Nat, k ≤ n ∧ i = .int .i64 k ∧ s = .int .i64 (gSet G k : Nat)) (fun _ i => n - (intOf i).toNat)
  case atStart => exact ⟨0, Nat.zero_le _, rfl, rfl⟩
  case round =>
    obtain ⟨k, hk, rfl, rfl⟩ := hrel
    by_cases hlt : k < n
    · obtain ⟨b, off, rfl, hbw, q0, q1, q2⟩ := grant_at h hl hlt (Below.refl _ _)
      obtain ⟨t0, t1⟩ := Hto.out k hlt
      obtain ⟨t, ht⟩ := Int.eq_ofNat_of_zero_le t0
      rw [ht] at q1
      have hs : gSet G k < 256 := gSet_lt (fun i hi => (Hto.out i (by omega)).2)
      have HW := Lib.hid (fun V => With_is (gSet G k) t (gSet G (k + 1)) V (by omega) (by omega) (by show _ = gSet G k ||| 2 ^ (gTo G k).toNat; rw [ht]; rfl))
      clear q0 q2 t0 t1 ht
      obtain ⟨s2, hs2⟩ : ∃ s2, s2 = gSet G (k + 1) := ⟨_, rfl⟩
      rw [← hs2] at HW
      have Hs2 := Lib.hid hs2
      clear hs2
      generalize gSet G k = s at *
      go_wp2_with (go_at_call 18; with_reducible refine (HW.out _).mono ?_; rintro e w' ⟨rfl, rfl⟩)
      refine ⟨⟨k + 1, ?ya, ?yb, ?yc⟩, ?yd⟩
      case ya => omega
      case yb => go_num
      case yc => rw [Hs2.out]
      case yd => simp [intOf]; omega
    · obtain rfl : k = n := by omega
      go_wp2_with fail
      go_ret
      exact ⟨rfl, rfl⟩

set_option maxHeartbeats 4000000 in
theorem RGivens_any (users : Int) (n : Nat) (G : List Int) (A : Option Addr) (c : Nat) (w : World) (h : IntsAt w A G) (hl : n * 3 ≤ G.length) (hn : n < 2 ^ 47) (hcap : n ≤ c) :
    Calls Tryd.prog 34 #[.int .i64 users, .slice A n c] w fun e w' => e = .returned (.int .i64 (gCode users G n : Nat)) ∧ Below w.heap.size w w' := by
  by_cases hu : 1 ≤ users ∧ users ≤ 8
  · have C0 := Lib.hid (fun V => Rin_is users 1 8 true V (by simp; omega))
    by_cases h40 : 40 < n
    · have Hc := Lib.hid (show gCode users G n = 4 by unfold gCode; rw [if_pos hu, if_pos h40])
      clear hu
      go_enter Tryd.func34, Tryd.ntmps34
      go_wp2_with (go_at_call 61; with_reducible refine (C0.out _).mono ?_; rintro e w' ⟨rfl, rfl⟩)
      go_ret
      exact ⟨by rw [Hc.out]; rfl, Below.refl _ _⟩
    · have Hc := Lib.hid (show gCode users G n = gScan users G n by unfold gCode; rw [if_pos hu, if_neg h40])
      go_enter Tryd.func34, Tryd.ntmps34
      go_wp2_with (go_at_call 61; with_reducible refine (C0.out _).mono ?_; rintro e w' ⟨rfl, rfl⟩)
      go_loopw [5] (fun i wr => ∃ k : Nat, k ≤ n ∧ i = .int .i64 k ∧ Hid (gScan users G k = 0) ∧ Below w.heap.size w wr) (fun i _ => n - (intOf i).toNat)
      case atStart => exact ⟨0, Nat.zero_le _, rfl, rfl, Below.refl _ _⟩
      case round =>
        obtain ⟨k, hk, rfl, hsc, hbr⟩ := hrel
        by_cases hlt : k < n
        · obtain ⟨b, off, rfl, hc⟩ := h (by intro e; simp [e] at hl; omega)
          have p0 : w.cell? ⟨b, off + k * 3, none⟩ = some (.int .i64 (gFr G k)) := hc (k * 3) _ (get_gI (by omega))
          have p1 : w.cell? ⟨b, off + k * 3 + 1, none⟩ = some (.int .i64 (gTo G k)) := hc (k * 3 + 1) _ (get_gI (by omega))
          have p2 : w.cell? ⟨b, off + k * 3 + 2, none⟩ = some (.int .i64 (gTm G k)) := hc (k * 3 + 2) _ (get_gI (by omega))
          have p3 : 0 < k → w.cell? ⟨b, off + (k - 1) * 3 + 2, none⟩ = some (.int .i64 (gTm G (k - 1))) := fun h0 => hc ((k - 1) * 3 + 2) _ (get_gI (by omega))
          have hbw : b < w.heap.size := block_lt p0
          have q0 := (hbr.cell (p := ⟨b, _, none⟩) hbw).trans p0
          have q1 := (hbr.cell (p := ⟨b, _, none⟩) hbw).trans p1
          have q2 := (hbr.cell (p := ⟨b, _, none⟩) hbw).trans p2
          have hz0 : gCode users G k = 0 := by unfold gCode; rw [if_pos hu, if_neg (by omega)]; exact hsc.out
          have HS := Lib.hid (fun q => RGranted_any k G (some ⟨b, off, none⟩) c (wr.drewN q) ((h.below hbr).drewN q) (by omega) (by omega) (gSet_ok hz0))
          have hs8 : gSet G k < 256 := gSet_lt (fun i hi => (gSet_ok hz0 i hi).2)
          have HB := Lib.hid (fun V (x : Nat) (hx : gFr G k = x) (hx8 : x < 8) (r : Bool) (hr : gHeld G k (gFr G k) = r) => Bit_is (gSet G k) x r V (by omega) (by omega) (by
            rw [← hr, ← gSet_held (by omega) (fun i hi => (gSet_ok hz0 i hi).1), hx, Int.toNat_natCast]))
          have W1 := Lib.hid (fun (V : World) (r : Bool) (hr : (decide (0 ≤ gFr G k) && decide (gFr G k ≤ users - 1)) = r) => Rin_is (gFr G k) 0 (users - 1) r V hr)
          have W2 := Lib.hid (fun (V : World) (r : Bool) (hr : (decide (0 ≤ gTo G k) && decide (gTo G k ≤ users - 1)) = r) => Rin_is (gTo G k) 0 (users - 1) r V hr)
          have W3 := Lib.hid (fun (V : World) (r : Bool) (hr : (decide (0 ≤ gTm G k) && decide (gTm G k ≤ 999999)) = r) => Rin_is (gTm G k) 0 999999 r V hr)
          have B1 := Lib.hid (fun h => gBad_one (users := users) (G := G) (i := k) h)
          have B3 := Lib.hid (fun h h' h'' => gBad_three (users := users) (G := G) (i := k) h h' h'')
          have B7 := Lib.hid (fun h h' r h'' => gBad_held (users := users) (G := G) (i := k) h h' r h'')
          have Hbad := Lib.hid (fun kk (hb : gBad users G k = kk) (hne : kk ≠ 0) => gScan_bad hlt hsc.out hb hne)
          have Hnext := Lib.hid (fun (hb : gBad users G k = 0) => gScan_next hsc.out hb)
          clear hc p0 p1 p2 hsc h C0 hz0
          generalize gSet G k = sv at *
          generalize gFr G k = x0 at *
          generalize gTo G k = x1 at *
          generalize gTm G k = x2 at *
          by_cases i1 : 0 ≤ x0 ∧ x0 < users
          · have D1 := Lib.hid (fun V => W1.out V true (by simp; omega))
            by_cases i2 : 0 ≤ x1 ∧ x1 < users
            · have D2 := Lib.hid (fun V => W2.out V true (by simp; omega))
              by_cases i3 : 0 ≤ x2 ∧ x2 ≤ 999999
              · have D3 := Lib.hid (fun V => W3.out V true (by simp; omega))
                clear W1 W2 W3
                by_cases h3 : 0 < k ∧ x2 ≤ gTm G (k - 1)
                · obtain ⟨hk0, hle⟩ := h3
                  have Hr := Lib.hid (Hbad.out _ (B3.out ⟨i1, i2, i3⟩ hk0 hle) (by decide))
                  clear B1 B3 B7
                  have p3 := p3 hk0
                  have q3 := (hbr.cell (p := ⟨b, _, none⟩) hbw).trans p3
                  generalize gTm G (k - 1) = y at *
                  have d1 : decide ((k : Int) > 0) = true := by simp; omega
                  have e1 : ((k : Int) - 1).toNat = k - 1 := by omega
                  have f1 : (1 : Int) ≤ k := by omega
                  have f2 : (0 : Int) ≤ (k : Int) - 1 := by omega
                  have f3 : (k : Int) - 1 < n := by omega
                  have f5 : (k : Int) < n := by omega
                  have d2 : decide (x2 ≤ y) = true := by simpa using hle
                  clear Hbad Hnext HS HB p3 i1 i2 i3 hle
                  go_wp2_with (go_at_call 61; first | (with_reducible refine (D1.out _).mono ?_; rintro e w' ⟨rfl, rfl⟩) | (with_reducible refine (D2.out _).mono ?_; rintro e w' ⟨rfl, rfl⟩) | (with_reducible refine (D3.out _).mono ?_; rintro e w' ⟨rfl, rfl⟩))
                  go_quiet (fail)
                  go_wp2_with fail
                  go_ret
                  exact ⟨by rw [Hc.out, Hr.out]; rfl, belowD hbr _⟩
                · have B := Lib.hid (fun r h => B7.out ⟨i1, i2, i3⟩ h3 r h)
                  clear B1 B3 B7
                  have hd : ∀ (K : Prop), (k = 0 → K) → (0 < k → gTm G (k - 1) < x2 → K) → K := fun K h0 h1 => by
                    rcases Nat.eq_zero_or_pos k with hz | hz
                    · exact h0 hz
                    · exact h1 hz (by omega)
                  clear h3
                  obtain ⟨x, rfl⟩ := Int.eq_ofNat_of_zero_le i1.1
                  have hx8 : x < 8 := by omega
                  obtain ⟨rr, hheld⟩ : ∃ r, gHeld G k (x : Int) = r := ⟨_, rfl⟩
                  have HB2 := Lib.hid (fun V => HB.out V x rfl hx8 rr hheld)
                  have Hb := B.out rr hheld
                  clear B HB hheld
                  cases rr with
                  | false =>
                    have Hr := Lib.hid (Hbad.out _ Hb (by decide))
                    clear Hbad Hnext Hb
                    refine hd _ (fun hk0 => ?_) (fun hk0 hlt2 => ?_)
                    · subst hk0
                      simp only [Nat.zero_mul, Nat.add_zero] at q0 q1 q2
                      clear i1 i2 i3 p3 hd
                      go_wp2_with (go_at_call 61; first | (with_reducible refine (D1.out _).mono ?_; rintro e w' ⟨rfl, rfl⟩) | (with_reducible refine (D2.out _).mono ?_; rintro e w' ⟨rfl, rfl⟩) | (with_reducible refine (D3.out _).mono ?_; rintro e w' ⟨rfl, rfl⟩))
                      go_quiet (fail)
                      go_wp2_with fail
                      go_quiet (first | (with_reducible exact quietS (HS.out _)) | (with_reducible exact quietS (HB2.out _)))
                      go_wp2_with fail
                      go_ret
                      exact ⟨by rw [Hc.out, Hr.out]; rfl, by first | exact belowD hbr _ | exact belowD (belowD hbr _) _⟩
                    · have p3 := p3 hk0
                      have q3 := (hbr.cell (p := ⟨b, _, none⟩) hbw).trans p3
                      generalize gTm G (k - 1) = y at *
                      have d1 : decide ((k : Int) > 0) = true := by simp; omega
                      have e1 : ((k : Int) - 1).toNat = k - 1 := by omega
                      have f1 : (1 : Int) ≤ k := by omega
                      have f2 : (0 : Int) ≤ (k : Int) - 1 := by omega
                      have f3 : (k : Int) - 1 < n := by omega
                      have f4 : k ≤ c := by omega
                      have f5 : (k : Int) < n := by omega
                      have d2 : decide (x2 ≤ y) = false := by simpa using hlt2
                      clear i1 i2 i3 p3 hd hlt2
                      go_wp2_with (go_at_call 61; first | (with_reducible refine (D1.out _).mono ?_; rintro e w' ⟨rfl, rfl⟩) | (with_reducible refine (D2.out _).mono ?_; rintro e w' ⟨rfl, rfl⟩) | (with_reducible refine (D3.out _).mono ?_; rintro e w' ⟨rfl, rfl⟩))
                      go_quiet (fail)
                      clear e1 f1 f2 f3
                      go_wp2_with fail
                      go_quiet (first | (with_reducible exact quietS (HS.out _)) | (with_reducible exact quietS (HB2.out _)))
                      go_wp2_with fail
                      go_ret
                      exact ⟨by rw [Hc.out, Hr.out]; rfl, by first | exact belowD hbr _ | exact belowD (belowD hbr _) _⟩
                  | true =>
                    have Hr := Lib.hid (Hnext.out Hb)
                    clear Hbad Hnext Hb
                    refine hd _ (fun hk0 => ?_) (fun hk0 hlt2 => ?_)
                    · subst hk0
                      simp only [Nat.zero_mul, Nat.add_zero] at q0 q1 q2
                      clear i1 i2 i3 p3 hd
                      go_wp2_with (go_at_call 61; first | (with_reducible refine (D1.out _).mono ?_; rintro e w' ⟨rfl, rfl⟩) | (with_reducible refine (D2.out _).mono ?_; rintro e w' ⟨rfl, rfl⟩) | (with_reducible refine (D3.out _).mono ?_; rintro e w' ⟨rfl, rfl⟩))
                      go_quiet (fail)
                      go_wp2_with fail
                      go_quiet (first | (with_reducible exact quietS (HS.out _)) | (with_reducible exact quietS (HB2.out _)))
                      go_wp2_with fail
                      refine ⟨⟨0 + 1, ?xa, ?xb, Hr, belowD hbr _⟩, ?xd⟩
                      case xa => omega
                      case xb => go_num
                      case xd => simp [intOf]; omega
                    · have p3 := p3 hk0
                      have q3 := (hbr.cell (p := ⟨b, _, none⟩) hbw).trans p3
                      generalize gTm G (k - 1) = y at *
                      have d1 : decide ((k : Int) > 0) = true := by simp; omega
                      have e1 : ((k : Int) - 1).toNat = k - 1 := by omega
                      have f1 : (1 : Int) ≤ k := by omega
                      have f2 : (0 : Int) ≤ (k : Int) - 1 := by omega
                      have f3 : (k : Int) - 1 < n := by omega
                      have f4 : k ≤ c := by omega
                      have f5 : (k : Int) < n := by omega
                      have d2 : decide (x2 ≤ y) = false := by simpa using hlt2
                      clear i1 i2 i3 p3 hd hlt2
                      go_wp2_with (go_at_call 61; first | (with_reducible refine (D1.out _).mono ?_; rintro e w' ⟨rfl, rfl⟩) | (with_reducible refine (D2.out _).mono ?_; rintro e w' ⟨rfl, rfl⟩) | (with_reducible refine (D3.out _).mono ?_; rintro e w' ⟨rfl, rfl⟩))
                      go_quiet (fail)
                      clear e1 f1 f2 f3
                      go_wp2_with fail
                      go_quiet (first | (with_reducible exact quietS (HS.out _)) | (with_reducible exact quietS (HB2.out _)))
                      go_wp2_with fail
                      refine ⟨⟨k + 1, ?ya, ?yb, Hr, belowD hbr _⟩, ?yd⟩
                      case ya => omega
                      case yb => go_num
                      case yd => simp [intOf]; omega
              · have D3 := Lib.hid (fun V => W3.out V false (by simp; omega))
                have Hr := Lib.hid (Hbad.out _ (B1.out (by omega)) (by decide))
                clear B1 B3 B7
                clear W1 W2 W3 Hbad Hnext HS HB p3 i1 i2 i3
                go_wp2_with (go_at_call 61; first | (with_reducible refine (D1.out _).mono ?_; rintro e w' ⟨rfl, rfl⟩) | (with_reducible refine (D2.out _).mono ?_; rintro e w' ⟨rfl, rfl⟩) | (with_reducible refine (D3.out _).mono ?_; rintro e w' ⟨rfl, rfl⟩))
                go_ret
                exact ⟨by rw [Hc.out, Hr.out]; rfl, hbr⟩
            · have D2 := Lib.hid (fun V => W2.out V false (by simp; omega))
              have Hr := Lib.hid (Hbad.out _ (B1.out (by omega)) (by decide))
              clear B1 B3 B7
              clear W1 W2 W3 Hbad Hnext HS HB p3 i1 i2
              go_wp2_with (go_at_call 61; first | (with_reducible refine (D1.out _).mono ?_; rintro e w' ⟨rfl, rfl⟩) | (with_reducible refine (D2.out _).mono ?_; rintro e w' ⟨rfl, rfl⟩))
              go_ret
              exact ⟨by rw [Hc.out, Hr.out]; rfl, hbr⟩
          · have D1 := Lib.hid (fun V => W1.out V false (by simp; omega))
            have Hr := Lib.hid (Hbad.out _ (B1.out (by omega)) (by decide))
            clear B1 B3 B7
            clear W1 W2 W3 Hbad Hnext HS HB p3 i1
            go_wp2_with (go_at_call 61; with_reducible refine (D1.out _).mono ?_; rintro e w' ⟨rfl, rfl⟩)
            go_ret
            exact ⟨by rw [Hc.out, Hr.out]; rfl, hbr⟩
        · obtain rfl : k = n := by omega
          clear C0
          go_wp2_with fail
          go_ret
          exact ⟨by rw [Hc.out, hsc.out]; rfl, hbr⟩
  · have C0 := Lib.hid (fun V => Rin_is users 1 8 false V (by simp; omega))
    have Hc := Lib.hid (show gCode users G n = 1 by unfold gCode; rw [if_neg hu])
    clear hu
    go_enter Tryd.func34, Tryd.ntmps34
    go_wp2_with (go_at_call 61; with_reducible refine (C0.out _).mono ?_; rintro e w' ⟨rfl, rfl⟩)
    go_ret
    exact ⟨by rw [Hc.out]; rfl, Below.refl _ _⟩

set_option maxHeartbeats 2000000 in
theorem RRevoked_any (users : Int) (n : Nat) (G : List Int) (fr to : Int) (A : Option Addr) (c : Nat) (w : World) (h : IntsAt w A G) (hl : n * 3 ≤ G.length) (hn : n < 2 ^ 47) (hz : gCode users G n = 0) :
    Calls Tryd.prog 39 #[.slice A n c, .int .i64 fr, .int .i64 to] w fun e w' => (∃ B d, e = .returned (.tuple #[.slice B (gCount (gK G fr to) n) d, .bool ((List.range n).any (gP G fr to))]) ∧ IntsAt w' B (gFilt G (gK G fr to) n)) ∧ Below w.heap.size w w' := by
  obtain ⟨hu, h40, hall⟩ := gCode_ok hz
  have HF := Lib.hid (fun k (hk : k ≤ n) => show gCode users (gFilt G (gK G fr to) k) (gCount (gK G fr to) k) = 0 from gCode_filt hz hk)
  have HS := Lib.hid (fun k => show gK G fr to k = (!gP G fr to k && gHeld (gFilt G (gK G fr to) k) (gCount (gK G fr to) k) (gFr G k)) from kept_step k)
  have Hin := Lib.hid (fun i (hi : i < n) => (gBad_zero.1 (hall i hi)).1)
  have HC1 := Lib.hid (fun k (hf : gK G fr to k = true) => show gCount (gK G fr to) (k + 1) = gCount (gK G fr to) k + 1 ∧ gFilt G (gK G fr to) (k + 1) = gFilt G (gK G fr to) k ++ [gFr G k, gTo G k, gTm G k] by
    show (if (gK G fr to k) = true then _ else _) = _ ∧ (if (gK G fr to k) = true then _ else _) = _
    rw [if_pos hf, if_pos hf]
    exact ⟨rfl, rfl⟩)
  have HC0 := Lib.hid (fun k (hf : gK G fr to k = false) => show gCount (gK G fr to) (k + 1) = gCount (gK G fr to) k ∧ gFilt G (gK G fr to) (k + 1) = gFilt G (gK G fr to) k by
    show (if (gK G fr to k) = true then _ else _) = _ ∧ (if (gK G fr to k) = true then _ else _) = _
    rw [if_neg (by rw [hf]; decide), if_neg (by rw [hf]; decide)]
    exact ⟨rfl, rfl⟩)
  have HP := Lib.hid (fun i => show gP G fr to i = (gFr G i == fr && gTo G i == to) from rfl)
  have HL := Lib.hid (fun k => length_gFilt (G := G) (k := gK G fr to) k)
  have HCL := Lib.hid (fun k => gCount_le (k := gK G fr to) k)
  clear hz hall
  generalize gK G fr to = K at *
  generalize gP G fr to = P at *
  go_enter Tryd.func39, Tryd.ntmps39
  go_wp2_with fail
  go_loopw [8, 9, 10] (fun v fd i wr => ∃ k : Nat, k ≤ n ∧ i = .int .i64 k ∧ fd = .bool ((List.range k).any P) ∧ OwnG wr w.heap.size v (gCount K k) (gFilt G K k) ∧ Below w.heap.size w wr) (fun _ _ i _ => n - (intOf i).toNat)
  case atStart => exact ⟨0, Nat.zero_le _, rfl, rfl, OwnG.nil _ _, Below.refl _ _⟩
  case round =>
    obtain ⟨k, hk, rfl, rfl, hown, hbr⟩ := hrel
    have hszr := hbr.size
    by_cases hlt : k < n
    · obtain ⟨b, off, rfl, hbw, q0, q1, q2⟩ := grant_at h (by omega) hlt hbr
      have Hs9 := Lib.hid (any_succ P k)
      obtain ⟨A', d', hv, hd', hi'⟩ := hown.form
      have hin := Hin.out k hlt
      have hto := gSet_ok (HF.out k (by omega))
      have Hp := HP.out k
      have Hs := HS.out k
      have HH := fun q => RGranted_any (gCount K k) (gFilt G K k) A' d' (wr.drewN q) (hi'.drewN q) (by have := HL.out k; omega) (by have := HCL.out k; omega) hto
      have hset := gSet_held (G := gFilt G K k) (n := gCount K k) (u := gFr G k) (hin.1.1) (fun i hi => (hto i hi).1)
      have hset8 := gSet_lt (G := gFilt G K k) (n := gCount K k) (fun i hi => (hto i hi).2)
      have H1 := HC1.out k
      have H2 := HC0.out k
      have hcl := HCL.out k
      obtain ⟨f, hf⟩ := Int.eq_ofNat_of_zero_le hin.1.1
      have hf8 : f < 8 := by have := hin.1.2; omega
      rw [hf] at hset q0 H1 Hp Hs
      rw [← hset, Int.toNat_natCast] at Hs
      have hki : (k : Int) < n := by omega
      clear hin hto hset hf hi'
      generalize gSet (gFilt G K k) (gCount K k) = sv at *
      generalize gCount K k = cnt at *
      generalize gFilt G K k = xs at *
      generalize gTo G k = x1 at *
      generalize gTm G k = x2 at *
      have HH := Lib.hid HH
      have H1 := Lib.hid H1
      have H2 := Lib.hid H2
      have Hs := Lib.hid Hs
      have Hp := Lib.hid Hp
      have Hown := Lib.hid hown
      have HB := Lib.hid (fun V (r : Bool) (hr : sv.testBit f = r) => Bit_is sv f r V (by omega) (by omega) hr)
      clear hown
      have hgo : ∀ (Q : Prop), (((f : Int) == fr) = true → (x1 == to) = true → Hid (P k = true ∧ K k = false) → Q) → (((f : Int) == fr) = false → Hid (P k = false ∧ K k = sv.testBit f) → Q) → (((f : Int) == fr) = true → (x1 == to) = false → Hid (P k = false ∧ K k = sv.testBit f) → Q) → Q := fun Q c1 c2 c3 => by
        have hp := Hp.out
        have hs := Hs.out
        cases e0 : ((f : Int) == fr) with
        | false => rw [e0] at hp; rw [hp] at hs; exact c2 e0 (Lib.hid ⟨by simpa using hp, by simpa using hs⟩)
        | true =>
          cases e1 : (x1 == to) with
          | true => rw [e0, e1] at hp; rw [hp] at hs; exact c1 e0 e1 (Lib.hid ⟨by simpa using hp, by simpa using hs⟩)
          | false => rw [e0, e1] at hp; rw [hp] at hs; exact c3 e0 e1 (Lib.hid ⟨by simpa using hp, by simpa using hs⟩)
      clear Hp Hs
      generalize (List.range k).any P = fd at *
      subst hv
      refine hgo _ (fun e0 e1 hK => ?_) (fun e0 hK => ?_) (fun e0 e1 hK => ?_)
      · have H2 := Lib.hid (H2.out hK.out.2)
        have Hs9b := Lib.hid (show (List.range (k + 1)).any P = true by rw [Hs9.out, hK.out.1]; simp)
        clear hgo HH HB hK H1 Hs9
        go_wp2_with fail
        refine ⟨⟨k + 1, ?ya, ?yb, ?ye, ?yc, hbr⟩, ?yd⟩
        case ya => omega
        case yb => go_num
        case ye => rw [Hs9b.out]
        case yc => rw [H2.out.1, H2.out.2]; exact Hown.out
        case yd => simp [intOf]; omega
      all_goals
        have Hs9b := Lib.hid (show (List.range (k + 1)).any P = fd by rw [Hs9.out, hK.out.1]; simp)
        clear Hs9
        cases hbit : sv.testBit f with
        | false =>
          rw [hbit] at hK
          have H2 := Lib.hid (H2.out hK.out.2)
          have HB := Lib.hid (fun V => HB.out V false hbit)
          clear hgo hK H1 hbit
          go_wp2_with fail
          go_quiet (first | (with_reducible exact quiet1 (HH.out _)) | (with_reducible exact quiet1 (HB.out _)))
          go_wp2_with fail
          refine ⟨⟨k + 1, ?za, ?zb, ?ze, ?zc, belowD hbr _⟩, ?zd⟩
          case za => omega
          case zb => go_num
          case ze => rw [Hs9b.out]
          case zc => rw [H2.out.1, H2.out.2]; exact Hown.out
          case zd => simp [intOf]; omega
        | true =>
          rw [hbit] at hK
          have H1 := Lib.hid (H1.out hK.out.2)
          have HB := Lib.hid (fun V => HB.out V true hbit)
          clear hgo hK H2 hbit
          go_wp2_with fail
          go_quiet (first | (with_reducible exact quiet1 (HH.out _)) | (with_reducible exact quiet1 (HB.out _)))
          have hbq := belowD hbr nq
          have ho4 : OwnG (wr.drewN nq) w.heap.size _ cnt xs := Hown.out
          have hszq : w.heap.size ≤ (wr.drewN nq).heap.size := hszr
          go_wp2_with (at_builtin; refine wpList_push_g rfl _ _ rfl rfl (ho4.next ((Below.refl _ _).alloc (Nat.le_refl _) _)) (wr.heap.size) f x1 x2 rfl (BoxN.new' _ _ _ _ rfl) ?hc1 ?hc2 ?_)
          case hc1 => omega
          case hc2 => simp; omega
          intro v' w6 hown6 _ _ hbl
          have hb26 := hbl w (hbq.alloc hszq _)
          clear hbl ho4
          go_wp2_with fail
          refine ⟨⟨k + 1, ?xa, ?xb, ?xe, ?xc, hb26⟩, ?xd⟩
          case xa => omega
          case xb => go_num
          case xe => rw [Hs9b.out]
          case xc => rw [H1.out.1, H1.out.2]; exact hown6
          case xd => simp [intOf]; omega
    · obtain rfl : k = n := by omega
      obtain ⟨A', d', hv, hd', hi'⟩ := hown.form
      obtain ⟨fd, hfd⟩ : ∃ fd, (List.range k).any P = fd := ⟨_, rfl⟩
      rw [hfd]
      have Hfd := Lib.hid hfd
      clear hown hfd
      subst hv
      go_wp2_with fail
      go_ret2
      exact ⟨⟨A', d', by rw [Hfd.out]; rfl, hi'⟩, hbr⟩
end Go.Proofs.YtdnkknggnhihgaaDoor
