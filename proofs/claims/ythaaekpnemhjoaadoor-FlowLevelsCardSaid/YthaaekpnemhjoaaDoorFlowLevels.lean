/-
  The walk of FlowLevels.
-/
import Derived.Test.YthaaekpnemhjoaaDoorFlowL
import Derived.Test.YthaaekpnemhjoaaDoorFlowF
import Derived.Test.YthaaekpnemhjoaaDoorSets
import Derived.Test.YthaaekpnemhjoaaDoorInts
import Derived.Test.YthaaekpnemhjoaaDoorFrame
namespace Go.Proofs.YthaaekpnemhjoaaDoor
open Go.RowKit
set_option maxRecDepth 100000
set_option linter.unusedVariables false

set_option maxHeartbeats 1000000 in
/-- Where the levels or the program are wrong. -/
theorem FlowLevels_bad {P : List Int} {n : Nat} {A : Option Addr} {c : Nat} {L : List Int} {Al : Option Addr} {cl : Nat} {w : World} {k : Nat} (h : NodesAt w A P n) (hL : IntsAt w Al L) (hT : Tab w) (hk : fitsCode P n L = k) (hne : k ≠ 0) :
    Calls Tryd.prog 3 #[.slice A n c, .slice Al L.length cl] w fun e w' => e = .returned (.bool true) ∧ Below w.heap.size w w' := by
  have C0 := Lib.hid (flowFact_any hT)
  have C1 := Lib.hid (fun V (hV : Below w.heap.size w V) => (Fits_bad (c := c) (cl := cl) (h.below (B := 0) hV) (hL.below hV) hk hne).mono fun e w' ⟨he, hb⟩ => (⟨he, hV.trans (hb.mono hV.size)⟩ : _ ∧ Below w.heap.size w w'))
  have dk : ((k : Int) == 0) = false := by simp; omega
  by_cases hc : progCode P n = 0
  · obtain ⟨⟨hn1, hn80⟩, -, s, hs⟩ := progCode_tree hc
    have C2 := Lib.hid (fun V (hV : Below w.heap.size w V) => (From_ok (c := c) (h.below (B := 0) hV) hc hs).mono fun e w' ⟨he, hb⟩ => (⟨he, hV.trans (hb.mono hV.size)⟩ : _ ∧ Below w.heap.size w w'))
    clear hk hne hc hs h hL hT
    generalize L.length = m at *
    go_enter Tryd.func3, Tryd.ntmps3
    go_wp2_with (first | (go_at_call 9; with_reducible refine C0.out.mono ?_; rintro e w1 ⟨rfl, hb1⟩) | (go_at_call 10; with_reducible refine (C1.out _ hb1).mono ?_; rintro e w2 ⟨rfl, hb2⟩) | (go_at_call 11; with_reducible refine (C2.out _ hb2).mono ?_; rintro e w3 ⟨⟨B, c3, rfl, -⟩, hb3⟩))
    go_ret
    exact ⟨rfl, hb3⟩
  · obtain ⟨k2, hk2⟩ : ∃ k2, progCode P n = k2 := ⟨_, rfl⟩
    have hne2 : k2 ≠ 0 := by rw [← hk2]; exact hc
    have C2 := Lib.hid (fun V (hV : Below w.heap.size w V) => (From_bad (c := c) (h.below (B := 0) hV) hk2 hne2).mono fun e w' ⟨he, hb⟩ => (⟨he, hV.trans (hb.mono hV.size)⟩ : _ ∧ Below w.heap.size w w'))
    have dk2 : ((k2 : Int) == 0) = false := by simp; omega
    clear hk hne hc hk2 hne2 h hL hT
    generalize L.length = m at *
    go_enter Tryd.func3, Tryd.ntmps3
    go_wp2_with (first | (go_at_call 9; with_reducible refine C0.out.mono ?_; rintro e w1 ⟨rfl, hb1⟩) | (go_at_call 10; with_reducible refine (C1.out _ hb1).mono ?_; rintro e w2 ⟨rfl, hb2⟩) | (go_at_call 11; with_reducible refine (C2.out _ hb2).mono ?_; rintro e w3 ⟨rfl, hb3⟩))
    go_ret
    exact ⟨rfl, hb3⟩

set_option maxHeartbeats 4000000 in
theorem FlowLevels_ok {P : List Int} {n : Nat} {A : Option Addr} {c : Nat} {L : List Int} {Al : Option Addr} {cl : Nat} {w : World} {s : St} (h : NodesAt w A P n) (hL : IntsAt w Al L) (hT : Tab w) (hk : fitsCode P n L = 0) (hs : IsSt P (n - 1) s) :
    Calls Tryd.prog 3 #[.slice A n c, .slice Al L.length cl] w fun e w' => e = .returned (.bool true) ∧ Below w.heap.size w w' := by
  obtain ⟨hc, h6, hL0⟩ := fitsCode_ok hk
  have h0 : ∀ i, i < 6 → 0 ≤ gI L i := fun i hi => (hL0 _ (List.mem_of_getElem? (get_gI (by omega)))).1
  have C0 := Lib.hid (flowFact_any hT)
  have C1 := Lib.hid (fun V (hV : Below w.heap.size w V) => (Fits_ok (c := c) (cl := cl) (h.below (B := 0) hV) (hL.below hV) hk hs (hT.next hV) (fineTo_fits hs.ok h0)).mono fun e w' ⟨he, hb⟩ => (⟨he, hV.trans (hb.mono hV.size)⟩ : _ ∧ Below w.heap.size w w'))
  have C2 := Lib.hid (fun V (hV : Below w.heap.size w V) => (From_ok (c := c) (h.below (B := 0) hV) hc hs).mono fun e w' ⟨he, hb⟩ => (⟨he, hV.trans (hb.mono hV.size)⟩ : _ ∧ Below w.heap.size w w'))
  have C3 := Lib.hid (fun V B c3 (hV : Below w.heap.size w V) (hB : IntsAt V B (castL (fromL s))) => by
    have := Closure_ok (fromL s) (by rw [fromL_len]; decide) (fun i => by rw [fromL_len]; exact fromL_bd hs.ok i) B c3 V hB
    rw [fromL_len, fromL_closed hs.ok] at this
    exact (this.mono fun e w' ⟨B2, c', he, hi, hb⟩ => (⟨⟨B2, c', he, hi⟩, hb, hV.trans (hb.mono hV.size)⟩ : (∃ B2 c', e = Ending.returned (Value.tuple #[.slice B2 6 c', .nilIface]) ∧ IntsAt w' B2 (castL (fromL s))) ∧ Below V.heap.size V w' ∧ Below w.heap.size w w')))
  have C4 := Lib.hid (fun V B c3 B2 c4 (h1 : IntsAt V B (castL (fromL s))) (h2 : IntsAt V B2 (castL (fromL s))) => by
    have := Ints_any (castL (fromL s)) (castL (fromL s)) B2 B c4 c3 V h2 h1 (by rw [length_castL, fromL_len]; decide)
    rw [length_castL, fromL_len] at this
    simpa using this)
  have hlr := fromL_len s
  have hbd := fromL_bd hs.ok
  have HLc := Lib.hid hL
  clear hk hs h hT hc hL0 h0 hL
  generalize fromL s = r at *
  rw [h6] at C1
  rw [h6]
  obtain ⟨bl, ol, rfl, hcl⟩ := HLc.out (by intro e; rw [e] at h6; cases h6)
  have Hcl := Lib.hid (show ∀ x, x < 6 → w.cell? ⟨bl, ol + x, none⟩ = some (.int .i64 (gI L x)) from fun x hx => hcl x _ (get_gI (by omega)))
  have hbl := block_lt (Hcl.out 0 (by decide))
  have Hlr := Lib.hid hlr
  have Hbd := Lib.hid hbd
  clear hcl HLc h6 hlr hbd
  go_enter Tryd.func3, Tryd.ntmps3
  go_wp2_with (first | (go_at_call 9; with_reducible refine C0.out.mono ?_; rintro e w1 ⟨rfl, hb1⟩) | (go_at_call 10; with_reducible refine (C1.out _ hb1).mono ?_; rintro e w2 ⟨rfl, hb2⟩) | (go_at_call 11; with_reducible refine (C2.out _ hb2).mono ?_; rintro e w3 ⟨⟨B, c3, rfl, hB⟩, hb3⟩) | (go_at_call 12; with_reducible refine (C3.out _ _ _ hb3 hB).mono ?_; rintro e w4 ⟨⟨B2, c4, rfl, hB2⟩, hb34, hb4⟩) | (go_at_call 13; with_reducible refine (C4.out _ _ _ _ _ (hB.below hb34) hB2).mono ?_; rintro e w5 ⟨rfl, q5, rfl⟩))
  clear C0 C1 C2 C3 C4
  obtain ⟨b, off, rfl, hcr⟩ := (hB.below hb34) (by intro e; have := congrArg List.length e; rw [length_castL, Hlr.out] at this; cases this)
  have Hcr := Lib.hid (show ∀ x, x < 6 → w4.cell? ⟨b, off + x, none⟩ = some (.int .i64 (row r x : Nat)) from fun x hx => by
    have h1 : (castL r)[x]? = some ((row r x : Nat) : Int) := by unfold castL row; rw [List.getElem?_map, List.getElem?_eq_getElem (by rw [Hlr.out]; exact hx)]; rfl
    exact hcr x _ h1)
  have Hcl4 := Lib.hid (show ∀ x, x < 6 → w4.cell? ⟨bl, ol + x, none⟩ = some (.int .i64 (gI L x)) from fun x hx => (hb4.cell (p := ⟨bl, ol + x, none⟩) hbl).trans (Hcl.out x hx))
  clear hcr hB hB2 Hcl
  go_loopw [13, 12] (fun i f wr => ∃ k : Nat, k ≤ 6 ∧ i = .int .i64 k ∧ f = .bool (fineTo L r k) ∧ ∃ q, wr = w4.drewN q) (fun i _ _ => 6 - (intOf i).toNat)
  case atStart => exact ⟨0, Nat.zero_le _, rfl, rfl, _, rfl⟩
  case round =>
    obtain ⟨k, hk, rfl, rfl, q, rfl⟩ := hrel
    by_cases hlt : k < 6
    · go_wp2_with fail
      go_loopw [14, 12] (fun j f wr => ∃ m : Nat, m ≤ 6 ∧ j = .int .i64 m ∧ f = .bool (fineTo L r k && rowFine L r k m) ∧ ∃ q, wr = w4.drewN q) (fun j _ _ => 6 - (intOf j).toNat)
      case atStart => exact ⟨0, Nat.zero_le _, rfl, by simp [rowFine], _, rfl⟩
      case round =>
        obtain ⟨m, hm, rfl, rfl, q, rfl⟩ := hrel
        by_cases hltm : m < 6
        · have c1 := Hcr.out k hlt
          have c2 := Hcl4.out m hltm
          have c3 := Hcl4.out k hlt
          have hr64 : row r k < 64 := Hbd.out k
          have d1 : decide (((row r k : Nat) : Int) < 0) = false := by simp
          have d2 : decide (((row r k : Nat) : Int) > 63) = false := by simp; omega
          have HB := Lib.hid (fun V => Bit_is (row r k) m ((row r k).testBit m) V (by omega) (by omega) rfl)
          have Hs := Lib.hid (rowFine_succ L r k m)
          have hk6 : (k : Int) < 6 := by omega
          have hm6 : (m : Int) < 6 := by omega
          generalize (row r k).testBit m = bt at *
          generalize row r k = rk at *
          generalize gI L m = lm at *
          generalize gI L k = lk at *
          cases hfb : (fineTo L r k && rowFine L r k m) with
          | false =>
            have Hn := Lib.hid (show (fineTo L r k && rowFine L r k (m + 1)) = false by rw [Hs.out, ← Bool.and_assoc, hfb]; rfl)
            clear hfb Hs
            go_wp2_with fail
            go_quiet (fail)
            go_wp2_with fail
            refine ⟨⟨m + 1, ?qa, ?qb, ?qc, _, rfl⟩, ?qd⟩
            case qa => omega
            case qb => go_num
            case qc => rw [Hn.out]
            case qd => simp [intOf]; omega
          | true =>
            cases bt with
            | false =>
              have Hn := Lib.hid (show (fineTo L r k && rowFine L r k (m + 1)) = true by rw [Hs.out, ← Bool.and_assoc, hfb]; rfl)
              clear hfb Hs
              go_wp2_with fail
              go_quiet (with_reducible exact quiet2 (HB.out _))
              go_wp2_with fail
              refine ⟨⟨m + 1, ?ra, ?rb, ?rc, _, rfl⟩, ?rd⟩
              case ra => omega
              case rb => go_num
              case rc => rw [Hn.out]
              case rd => simp [intOf]; omega
            | true =>
              have Hn := Lib.hid (show (fineTo L r k && rowFine L r k (m + 1)) = decide (lm ≤ lk) by rw [Hs.out, ← Bool.and_assoc, hfb]; simp)
              clear hfb Hs
              go_wp2_with fail
              go_quiet (with_reducible exact quiet2 (HB.out _))
              go_wp2_with fail
              refine ⟨⟨m + 1, ?ta, ?tb, ?tc, _, rfl⟩, ?td⟩
              case ta => omega
              case tb => go_num
              case tc => rw [Hn.out]
              case td => simp [intOf]; omega
        · obtain rfl : m = 6 := by omega
          have Hs := Lib.hid (fineTo_succ L r k)
          go_wp2_with fail
          refine ⟨⟨k + 1, ?ua, ?ub, ?uc, _, rfl⟩, ?ud⟩
          case ua => omega
          case ub => go_num
          case uc => rw [Hs.out]
          case ud => simp [intOf]; omega
    · obtain rfl : k = 6 := by omega
      go_wp2_with fail
      go_ret
      exact ⟨by simp, belowD hb4 _⟩

theorem FlowLevels_walk (n : Nat) (P : List Int) (A : Option Addr) (c : Nat) {W : World} (hn : P.length = n * 5) (hP : IntsAt W A P) (sP : n * 5 < 2 ^ 47) (bP : ∀ x ∈ P, I64 x) (L : List Int) (Al : Option Addr) (cl : Nat) (hL : IntsAt W Al L) (sL : L.length < 2 ^ 47) (bL : ∀ x ∈ L, I64 x) (w : World) (hw : w = W) (hT : Tab W) :
    Calls Tryd.prog 3 #[.slice A n c, .slice Al L.length cl] w fun e w' => e = .returned (.bool true) ∧ Below W.heap.size W w' := by
  subst hw
  have h : NodesAt w A P n := ⟨hP, hn, by omega⟩
  obtain ⟨k, hk⟩ : ∃ k, fitsCode P n L = k := ⟨_, rfl⟩
  by_cases hne : k = 0
  · subst hne
    obtain ⟨-, -, s, hs⟩ := progCode_tree (fitsCode_ok hk).1
    exact FlowLevels_ok h hL hT hk hs
  · exact FlowLevels_bad h hL hT hk hne
end Go.Proofs.YthaaekpnemhjoaaDoor
