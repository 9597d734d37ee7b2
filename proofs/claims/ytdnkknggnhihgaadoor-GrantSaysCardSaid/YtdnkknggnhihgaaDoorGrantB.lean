/-
  Contracts: grant.Revoke where something is wrong; quietwingsame.Givens.
-/
import Derived.Test.YtdnkknggnhihgaaDoorGrantR
namespace Go.Proofs.YtdnkknggnhihgaaDoor
open Go.RowKit
set_option maxRecDepth 100000
set_option linter.unusedVariables false

set_option maxHeartbeats 2000000 in
theorem GRevoke_bad (users : Int) (n : Nat) (G : List Int) (fr to : Int) (A : Option Addr) (c : Nat) (w : World) (h : IntsAt w A G) (hl : n * 3 ≤ G.length) (hn : n < 2 ^ 47) (hcap : n ≤ c) {kk : Nat} (hz : rCode users G n fr to = kk) (hne : kk ≠ 0) :
    Calls Tryd.prog 30 #[.int .i64 users, .slice A n c, .int .i64 fr, .int .i64 to] w fun e w' => e = .returned (.tuple #[.slice none 0 0, .iface 84 (.int .i64 kk)]) ∧ Below w.heap.size w w' := by
  have C0 := GCheck_any users n G A c w h hl hn hcap
  unfold rCode at hz
  by_cases h1 : gCode users G n = 0
  · rw [if_pos h1] at hz
    rw [h1, errVal_zero] at C0
    have C0 := Lib.hid C0
    obtain ⟨hu, h40, -⟩ := gCode_ok h1
    clear h1
    by_cases hf : 0 ≤ fr ∧ fr < users
    · have W1 := Lib.hid (fun V => Within3_is fr 0 (users - 1) true V (by simp; omega))
      by_cases ht : 0 ≤ to ∧ to < users
      · have W2 := Lib.hid (fun V => Within3_is to 0 (users - 1) true V (by simp; omega))
        rw [if_pos ⟨hf, ht⟩] at hz
        have hany : (List.range n).any (gP G fr to) = false := by
          cases hh : (List.range n).any (gP G fr to) with
          | false => rfl
          | true => rw [hh, if_pos rfl] at hz; exact absurd hz.symm hne
        rw [hany] at hz
        obtain rfl : 5 = kk := by simpa using hz
        have HP := Lib.hid (fun i (hi : i < n) => show (gFr G i == fr && gTo G i == to) = false from any_false hany i hi)
        have hmk : ∀ V : World, (Instr.makeSlice 94 (.int .i64 n) (.int .i64 n)).run Tryd.prog V = .ok (.slice (some ⟨V.heap.size, 0, none⟩) n n) (V.alloc (.cells (madeCells #[Value.bool false] n) 4)) := fun V => by
          obtain ⟨ti, hi, hz0, hz1, hz2⟩ := info_parts boolInfo
          have := run_make (P := Tryd.prog) (w := V) 94 4 ti _ Tryd.underlying94 hi hz0 .i64 .i64 n n (by omega) (Int.le_refl _) (by rw [hz2]; omega) (by omega)
          rw [hz1, Int.toNat_natCast, Nat.mul_one] at this
          exact this
        clear hz hne hf ht hany
        go_enter Tryd.func30, Tryd.ntmps30
        go_wp2_with fail
        with_reducible refine C0.out.mono ?_
        rintro e w1 ⟨rfl, hb1⟩
        clear C0
        go_wp2_with (go_at_call 55; first | (with_reducible refine (W1.out _).mono ?_; rintro e w' ⟨rfl, rfl⟩) | (with_reducible refine (W2.out _).mono ?_; rintro e w' ⟨rfl, rfl⟩))
        clear W1 W2 hmk
        have hs1 := hb1.size
        have hb2 := hb1.alloc hs1 (.cells (madeCells #[Value.bool false] n) 4)
        generalize w1.alloc (.cells (madeCells #[Value.bool false] n) 4) = w2 at *
        generalize w1.heap.size = g at *
        clear hb1
        go_loopw [47, 12] (fun i fd wr => ∃ k : Nat, k ≤ n ∧ i = .int .i64 k ∧ fd = .bool false ∧ Below w.heap.size w wr) (fun i _ _ => n - (intOf i).toNat)
        case atStart => exact ⟨0, Nat.zero_le _, rfl, rfl, hb2⟩
        case round =>
          clear hb2
          obtain ⟨k, hk, rfl, rfl, hbr⟩ := hrel
          by_cases hlt : k < n
          · obtain ⟨b, off, rfl, hbw, q0, q1, q2⟩ := grant_at h hl hlt hbr
            have hbr3 : b < wr.heap.size := Nat.lt_of_lt_of_le hbw hbr.size
            have Hp := Lib.hid (HP.out k hlt)
            generalize gFr G k = x0 at *
            generalize gTo G k = x1 at *
            generalize gTm G k = x2 at *
            cases e0 : (x0 == fr) with
            | false =>
              go_wp2_with fail
              refine ⟨⟨k + 1, ?ya, ?yb, rfl, hbr.alloc hbr.size _⟩, ?yd⟩
              case ya => omega
              case yb => go_num
              case yd => simp [intOf]; omega
            | true =>
              cases e1 : (x1 == to) with
              | false =>
                go_wp2_with fail
                refine ⟨⟨k + 1, ?za, ?zb, rfl, hbr.alloc hbr.size _⟩, ?zd⟩
                case za => omega
                case zb => go_num
                case zd => simp [intOf]; omega
              | true => have := Hp.out; rw [e0, e1] at this; cases this
          · obtain rfl : k = n := by omega
            go_wp2_with fail
            go_ret2
            exact ⟨rfl, hbr⟩
      · have W2 := Lib.hid (fun V => Within3_is to 0 (users - 1) false V (by simp; omega))
        rw [if_neg (fun h => ht h.2)] at hz
        subst hz
        clear hne hf ht
        go_enter Tryd.func30, Tryd.ntmps30
        go_wp2_with fail
        with_reducible refine C0.out.mono ?_
        rintro e w1 ⟨rfl, hb1⟩
        clear C0
        go_wp2_with (go_at_call 55; first | (with_reducible refine (W1.out _).mono ?_; rintro e w' ⟨rfl, rfl⟩) | (with_reducible refine (W2.out _).mono ?_; rintro e w' ⟨rfl, rfl⟩))
        go_ret2
        exact ⟨rfl, hb1⟩
    · have W1 := Lib.hid (fun V => Within3_is fr 0 (users - 1) false V (by simp; omega))
      rw [if_neg (fun h => hf h.1)] at hz
      subst hz
      clear hne hf
      go_enter Tryd.func30, Tryd.ntmps30
      go_wp2_with fail
      with_reducible refine C0.out.mono ?_
      rintro e w1 ⟨rfl, hb1⟩
      clear C0
      go_wp2_with (go_at_call 55; with_reducible refine (W1.out _).mono ?_; rintro e w' ⟨rfl, rfl⟩)
      go_ret2
      exact ⟨rfl, hb1⟩
  · rw [if_neg h1] at hz
    rw [hz, errVal_pos hne] at C0
    have C0 := Lib.hid C0
    clear h1 hne hz
    go_enter Tryd.func30, Tryd.ntmps30
    go_wp2_with fail
    with_reducible refine C0.out.mono ?_
    rintro e w1 ⟨rfl, hb1⟩
    clear C0
    go_wp2_with fail
    go_ret2
    exact ⟨rfl, hb1⟩

def Same3 (G H : List Int) (k : Nat) : Prop := ∀ i, i < k → gFr G i = gFr H i ∧ gTo G i = gTo H i ∧ gTm G i = gTm H i
theorem Same3.eq {G H : List Int} {n : Nat} (h : Same3 G H n) (hg : G.length = n * 3) (hh : H.length = n * 3) : G = H := by
  refine List.ext_getElem? fun j => ?_
  rcases Nat.lt_or_ge j (n * 3) with h1 | h1
  · rw [get_gI (l := G) (by omega), get_gI (l := H) (by omega)]
    obtain ⟨h2, h3, h4⟩ := h (j / 3) (by omega)
    unfold gFr gTo gTm at *
    have hm : j % 3 = 0 ∨ j % 3 = 1 ∨ j % 3 = 2 := by omega
    rcases hm with e | e | e
    · rw [show j = j / 3 * 3 by omega, h2]
    · rw [show j = j / 3 * 3 + 1 by omega, h3]
    · rw [show j = j / 3 * 3 + 2 by omega, h4]
  · rw [List.getElem?_eq_none (by omega), List.getElem?_eq_none (by omega)]

set_option maxHeartbeats 2000000 in
theorem Givens_any (G H : List Int) (n m : Nat) (hg : G.length = n * 3) (hh : H.length = m * 3) (A B : Option Addr) (c d : Nat) (w : World) (iG : IntsAt w A G) (iH : IntsAt w B H) (hn : n < 2 ^ 60) (hm : m < 2 ^ 60) {r : Bool} (hr : decide (G = H) = r) :
    Calls Tryd.prog 33 #[.slice A n c, .slice B m d] w fun e w' => e = .returned (.bool r) ∧ Below w.heap.size w w' := by
  by_cases hnm : n = m
  · subst hnm
    have Hr := Lib.hid hr
    clear hr
    go_enter Tryd.func33, Tryd.ntmps33
    go_wp2_with fail
    go_loopw [5] (fun i wr => ∃ k : Nat, k ≤ n ∧ i = .int .i64 k ∧ Same3 G H k ∧ Below w.heap.size w wr) (fun i _ => n - (intOf i).toNat)
    case atStart => exact ⟨0, Nat.zero_le _, rfl, fun i hi => by omega, Below.refl _ _⟩
    case round =>
      obtain ⟨k, hk, rfl, hs, hbr⟩ := hrel
      by_cases hlt : k < n
      · obtain ⟨b, off, rfl, hbw, q0, q1, q2⟩ := grant_at iG (by omega) hlt hbr
        obtain ⟨b', off', rfl, hbw', q0', q1', q2'⟩ := grant_at iH (by omega) hlt hbr
        have hki : (k : Int) < n := by omega
        have Hnx := Lib.hid (fun (h0 : gFr G k = gFr H k) (h1 : gTo G k = gTo H k) (h2 : gTm G k = gTm H k) => show Same3 G H (k + 1) from fun i hi => by
          rcases Nat.lt_or_ge i k with h3 | h3
          · exact hs i h3
          · obtain rfl : i = k := by omega
            exact ⟨h0, h1, h2⟩)
        have Hne := Lib.hid (fun (h0 : ¬ (gFr G k = gFr H k ∧ gTo G k = gTo H k ∧ gTm G k = gTm H k)) => show r = false from by
          rw [← Hr.out]
          have : G ≠ H := by rintro rfl; exact h0 ⟨rfl, rfl, rfl⟩
          simpa using this)
        clear hs
        generalize gFr G k = x0 at *
        generalize gTo G k = x1 at *
        generalize gTm G k = x2 at *
        generalize gFr H k = y0 at *
        generalize gTo H k = y1 at *
        generalize gTm H k = y2 at *
        by_cases h3 : x0 = y0 ∧ x1 = y1 ∧ x2 = y2
        · obtain ⟨rfl, rfl, rfl⟩ := h3
          have Hnx2 := Lib.hid (Hnx.out rfl rfl rfl)
          clear Hnx
          clear Hne
          go_wp2_with fail
          go_quiet (fail)
          go_wp2_with fail
          refine ⟨⟨k + 1, ?ya, ?yb, Hnx2.out, belowD hbr _⟩, ?yd⟩
          case ya => omega
          case yb => go_num
          case yd => simp [intOf]; omega
        · have hrf := Hne.out h3
          subst hrf
          clear Hne Hnx
          by_cases e0 : x0 = y0
          · subst e0
            by_cases e1 : x1 = y1
            · subst e1
              have e2 : (x2 == y2) = false := by simpa using fun e => h3 ⟨rfl, rfl, e⟩
              clear h3
              go_wp2_with fail
              go_quiet (fail)
              go_wp2_with fail
              go_ret
              exact ⟨rfl, belowD hbr _⟩
            · have e1 : (x1 == y1) = false := by simpa using e1
              clear h3
              go_wp2_with fail
              go_quiet (fail)
              go_wp2_with fail
              go_ret
              exact ⟨rfl, belowD hbr _⟩
          · have e0 : (x0 == y0) = false := by simpa using e0
            clear h3
            go_wp2_with fail
            go_quiet (fail)
            go_wp2_with fail
            go_ret
            exact ⟨rfl, belowD hbr _⟩
      · obtain rfl : k = n := by omega
        have hrt : r = true := by rw [← Hr.out, hs.eq hg hh]; simp
        subst hrt
        clear Hr hs
        go_wp2_with fail
        go_ret
        exact ⟨rfl, hbr⟩
  · have hrf : r = false := by
      rw [← hr]
      have : G ≠ H := by rintro rfl; omega
      simpa using this
    subst hrf
    clear hr
    have d1 : decide (n = m) = false := by simpa using hnm
    go_enter Tryd.func33, Tryd.ntmps33
    go_wp2_with fail
    go_ret
    exact ⟨rfl, Below.refl _ _⟩
end Go.Proofs.YtdnkknggnhihgaaDoor
