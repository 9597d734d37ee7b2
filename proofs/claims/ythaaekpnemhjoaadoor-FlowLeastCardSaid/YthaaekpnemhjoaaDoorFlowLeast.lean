/-
  The walk of FlowLeast, by ways (printed by flowleast.py).
-/
import Derived.Test.YthaaekpnemhjoaaDoorFlowH
import Derived.Test.YthaaekpnemhjoaaDoorFlowL
import Derived.Test.YthaaekpnemhjoaaDoorFlowF
import Derived.Test.YthaaekpnemhjoaaDoorCells6
import Derived.Test.YthaaekpnemhjoaaDoorAs
import Derived.Test.YthaaekpnemhjoaaDoorFrame
namespace Go.Proofs.YthaaekpnemhjoaaDoor
open Go.RowKit
set_option maxRecDepth 100000
set_option linter.unusedVariables false

theorem progCode_ne6 (P : List Int) (n : Nat) : progCode P n ≠ 6 := by
  have h1 : ∀ (l : List Int) (i k : Nat) (u : List Bool), (partsScan P i l k u).1 ≠ 6 := fun l => by
    induction l with
    | nil => intro i k u; exact (by decide : (0 : Nat) ≠ 6)
    | cons a l ih =>
      intro i k u
      rw [partsScan]
      split
      · exact ih _ _ _
      · show partCode P i u k a ≠ 6
        unfold partCode
        split
        · decide
        · split <;> decide
  have h2 : ∀ (i : Nat) (u : List Bool), (nodeScan P i u).1 ≠ 6 := fun i u => by
    unfold nodeScan
    split
    · exact (by decide : (1 : Nat) ≠ 6)
    · exact h1 _ _ _ _
  have h3 : ∀ (m i : Nat) (u : List Bool), (nodesScan P m i u).1 ≠ 6 := fun m => by
    induction m with
    | zero => intro i u; exact (by decide : (0 : Nat) ≠ 6)
    | succ m ih =>
      intro i u
      rw [nodesScan]
      split
      · exact ih _ _
      · exact h2 _ _
  unfold progCode
  split
  · decide
  · split
    · decide
    · split
      · unfold endCode
        split <;> decide
      · exact h3 _ _ _
theorem leastCode_ne6 (P : List Int) (n : Nat) (M : List Int) : leastCode P n M ≠ 6 := by
  unfold leastCode
  split
  · unfold levCode
    split
    · split <;> decide
    · decide
  · exact progCode_ne6 P n
theorem LeastInv.code {P : List Int} {n : Nat} {M O : List Int} {S : List (Nat × Nat)} (h : LeastInv M S O) (hc : progCode P n = 0) : fitsCode P n O = 0 := by
  unfold fitsCode
  rw [if_pos hc]
  unfold levCode
  rw [if_pos h.len, if_pos]
  rw [List.all_eq_true]
  intro x hx
  obtain ⟨j, hj, rfl⟩ := List.getElem_of_mem hx
  have := h.bd j (by rw [← h.len]; exact hj)
  have e : gI O j = O[j] := gI_of (List.getElem?_eq_getElem hj)
  rw [e] at this
  exact decide_eq_true this
/-- As far as is told, the same. -/
def agreeTo (M L : List Int) (k : Nat) : Bool := (List.range k).all fun i => decide (gI M i < 0) || (gI M i == gI L i)
theorem agreeTo_succ (M L : List Int) (k : Nat) : agreeTo M L (k + 1) = (agreeTo M L k && (decide (gI M k < 0) || (gI M k == gI L k))) := by unfold agreeTo; rw [List.range_succ, List.all_append]; simp
theorem agreeTo_mono {M L : List Int} {k m : Nat} (h : k ≤ m) (hk : agreeTo M L k = false) : agreeTo M L m = false := by
  unfold agreeTo at *
  rw [List.all_eq_false] at *
  obtain ⟨x, hx, hn⟩ := hk
  exact ⟨x, List.mem_range.2 (Nat.lt_of_lt_of_le (List.mem_range.1 hx) h), hn⟩
theorem agreeTo_told {M L : List Int} (h : agreeTo M L 6 = true) : ∀ i, i < 6 → 0 ≤ gI M i → gI L i = gI M i := fun i hi hm => by
  unfold agreeTo at h
  rw [List.all_eq_true] at h
  have := h i (List.mem_range.2 hi)
  rw [Bool.or_eq_true, beq_iff_eq] at this
  rcases this with h1 | h1
  · have := of_decide_eq_true h1; omega
  · exact h1.symm

section
variable {P : List Int} {n : Nat} {A : Option Addr} {c : Nat} {w : World} {M L : List Int} {Am Al : Option Addr} {cm cl : Nat} {s : St}
theorem Fits_some (h : NodesAt w A P n) (hL : IntsAt w Al L) (hs : progCode P n = 0 → IsSt P (n - 1) s) (hT : Tab w) (V : World) (hV : Below w.heap.size w V) :
    Calls Tryd.prog 10 #[.slice A n c, .slice Al L.length cl] V fun e w' => (∃ x y, e = .returned (.tuple #[x, y])) ∧ Below w.heap.size w w' := by
  obtain ⟨k, hk⟩ : ∃ k, fitsCode P n L = k := ⟨_, rfl⟩
  by_cases hne : k = 0
  · subst hne
    exact (Fits_ok (c := c) (cl := cl) (h.below (B := 0) hV) (hL.below hV) hk (hs (fitsCode_ok hk).1) (hT.next hV) rfl).mono fun e w' ⟨he, hb⟩ => ⟨⟨_, _, he⟩, hV.trans (hb.mono hV.size)⟩
  · exact (Fits_bad (c := c) (cl := cl) (h.below (B := 0) hV) (hL.below hV) hk hne).mono fun e w' ⟨he, hb⟩ => ⟨⟨_, _, he⟩, hV.trans (hb.mono hV.size)⟩
set_option maxHeartbeats 1000000 in
theorem FlowLeast_bad (h : NodesAt w A P n) (hM : IntsAt w Am M) (hL : IntsAt w Al L) (hT : Tab w) (hE : ErrT w) (hs : progCode P n = 0 → IsSt P (n - 1) s) {k : Nat} (hk : leastCode P n M = k) (hne : k ≠ 0) :
    Calls Tryd.prog 7 #[.slice A n c, .slice Am M.length cm, .slice Al L.length cl] w fun e w' => e = .returned (.bool true) ∧ Below w.heap.size w w' := by
  have h6 : k ≠ 6 := by rw [← hk]; exact leastCode_ne6 P n M
  have C0 := Lib.hid (flowFact_any hT)
  have C1 := Lib.hid (fun V (hV : Below w.heap.size w V) => (Least_bad (c := c) (cl := cm) (h.below (B := 0) hV) (hM.below hV) hk hne).mono fun e w' ⟨he, hb⟩ => (⟨he, hV.trans (hb.mono hV.size)⟩ : _ ∧ Below w.heap.size w w'))
  have C2 := Lib.hid (fun V (hV : Below w.heap.size w V) => Fits_some (c := c) (cl := cl) h hL hs hT V hV)
  have CE := Lib.hid (fun V (hV : Below w.heap.size w V) => (Error_is k 6 false V (hE.next hV) (by simp; omega)).mono fun e w' ⟨he, hb⟩ => (⟨he, hV.trans (hb.mono hV.size)⟩ : _ ∧ Below w.heap.size w w'))
  rw [errVal_pos hne] at CE
  have dk : ((k : Int) == 0) = false := by simp; omega
  clear hk hne h hL hT hM hE hs h6
  generalize L.length = m at *
  generalize M.length = mm at *
  go_enter Tryd.func7, Tryd.ntmps7
  go_wp2_with (first | (go_at_call 9; with_reducible refine C0.out.mono ?_; rintro e w1 ⟨rfl, hb1⟩) | (go_at_call 20; with_reducible refine (C1.out _ hb1).mono ?_; rintro e w2 ⟨rfl, hb2⟩))
  refine (C2.out _ hb2).mono ?_
  rintro e w3 ⟨⟨x, y, rfl⟩, hb3⟩
  go_wp2_with (go_at_call 17; with_reducible refine (CE.out _ hb3).mono ?_; rintro e w4 ⟨rfl, hb4⟩)
  go_ret
  exact ⟨rfl, hb4⟩

set_option maxHeartbeats 4000000 in
theorem FlowLeast_err (h : NodesAt w A P n) (hM : IntsAt w Am M) (hL : IntsAt w Al L) (hT : Tab w) (hE : ErrT w) (hl : leastCode P n M = 0) (hs : IsSt P (n - 1) s) {k : Nat} (hk : fitsCode P n L = k) (hne : k ≠ 0) :
    Calls Tryd.prog 7 #[.slice A n c, .slice Am M.length cm, .slice Al L.length cl] w fun e w' => e = .returned (.bool true) ∧ Below w.heap.size w w' := by
  obtain ⟨hc, h6, hbM⟩ := leastCode_ok hl
  have hS : ∀ p ∈ s.sets 0, p.1 < 6 ∧ p.2 < 64 := fun p hp => sets_lt hs.ok (by decide) p hp
  have C0 := Lib.hid (flowFact_any hT)
  have C1 := Lib.hid (fun V (hV : Below w.heap.size w V) => (Least_ok (c := c) (cl := cm) (h.below (B := 0) hV) (hM.below hV) hl hs (hT.next hV)).mono fun e w' ⟨he, hb⟩ => (⟨he, hV.trans (hb.mono hV.size)⟩ : _ ∧ Below w.heap.size w w'))
  have C2 := Lib.hid (fun V (hV : Below w.heap.size w V) => (Fits_bad (c := c) (cl := cl) (h.below (B := 0) hV) (hL.below hV) hk hne).mono fun e w' ⟨he, hb⟩ => (⟨he, hb, hV.trans (hb.mono hV.size)⟩ : _ ∧ Below V.heap.size V w' ∧ Below w.heap.size w w'))
  have CE := Lib.hid (fun V (hV : Below w.heap.size w V) => ((Error_is 6 6 true V (hE.next hV) (by simp) : Calls Tryd.prog 17 #[.iface 62 (.int .i64 6), .int .i64 6] V _)).mono fun e w' ⟨he, hb⟩ => (⟨he, hb, hV.trans (hb.mono hV.size)⟩ : _ ∧ Below V.heap.size V w' ∧ Below w.heap.size w w'))
  have C4 := Lib.hid (fun V (O : List Int) (B : Option Addr) (cB : Nat) (hV : Below w.heap.size w V) (hinv : LeastInv M (s.sets 0) O) (hB : IntsAt V B O) (hf : fitB O (s.sets 0) = true) => by
    have := Fits_ok (c := c) (cl := cB) (h.below (B := 0) hV) hB (hinv.code hc) hs (hT.next hV) hf
    rw [hinv.len] at this
    exact this.mono fun e w' ⟨he, hb⟩ => (⟨he, hb, hV.trans (hb.mono hV.size)⟩ : _ ∧ Below V.heap.size V w' ∧ Below w.heap.size w w'))
  obtain ⟨pm, om, rfl, cM⟩ := cells6 hM h6
  have HM := Lib.hid cM
  rw [h6] at C1
  rw [h6]

  have dk : ((k : Int) == 0) = false := by simp; omega
  clear hk hl h hL hT hM hE hs hc h6 hbM cM hne hS
  generalize L.length = mL at *

  go_enter Tryd.func7, Tryd.ntmps7
  go_wp2_with (go_at_call 9; with_reducible refine C0.out.mono ?_; rintro e w1 ⟨rfl, hb1⟩)
  refine (C1.out _ hb1).mono ?_
  rintro e w2 ⟨⟨O, hinv, hst, hpost⟩, hb2⟩
  rcases hpost with ⟨hfO, B, cB, rfl, hB⟩ | ⟨hfO, rfl⟩

  · go_wp2_with fail
    refine (C2.out _ hb2).mono ?_
    rintro e w3 ⟨rfl, hb23, hb3⟩
    have hB3 := hB.below hb23
    go_wp2_with fail
    go_loopw [13, 12] (fun i so wr => i = .int .i64 0 ∧ so = .bool false ∧ w3 = wr) (fun i _ _ => 0)
    case atStart => exact ⟨rfl, rfl, rfl⟩
    case round =>
      obtain ⟨rfl, rfl, rfl⟩ := hrel
      have HF := C4.out w3 O B cB hb3 hinv hB3 hfO
      go_wp2_with (go_at_call 10; with_reducible refine HF.mono ?_; rintro e w4 ⟨rfl, hb34, hb4⟩)
      clear HF
      obtain ⟨po, oo, rfl, cO⟩ := cells6 (hB3.below hb34) hinv.len
      have Hinv := Lib.hid hinv
      clear hinv hst hfO hB hB3 C4
      go_wp2_with fail
      go_loopw [16] (fun i wr => ∃ k : Nat, k ≤ 6 ∧ i = .int .i64 k ∧ ∃ q, wr = w4.drewN q) (fun i _ => 6 - (intOf i).toNat)
      case atStart => exact ⟨0, Nat.zero_le _, rfl, 0, rfl⟩
      case round =>
        obtain ⟨k, hk, rfl, q2, rfl⟩ := hrel
        by_cases hlt : k < 6
        · have c1 := HM.out w4 hb4 k hlt
          have c2 := cO w4 (Below.refl _ _) k hlt
          have hk6 : (k : Int) < 6 := by omega
          have htold := Hinv.out.told k hlt

          by_cases hm0 : 0 ≤ gI M k
          · rw [htold hm0] at c2 
            clear htold 
            generalize gI M k = mk at *
            have d1 : decide (mk ≥ 0) = true := decide_eq_true hm0
            have d2 : (mk != mk) = false := by simp
            go_wp2_with fail
            go_quiet (fail)
            go_wp2_with fail
            refine ⟨⟨k + 1, ?xa, ?xb, _, rfl⟩, ?xd⟩
            case xa => omega
            case xb => go_num
            case xd => simp [intOf]; omega
          · clear htold 
            generalize gI M k = mk at *
            generalize gI O k = ok at *
            have d1 : decide (mk ≥ 0) = false := decide_eq_false hm0
            go_wp2_with fail
            go_quiet (fail)
            go_wp2_with fail
            refine ⟨⟨k + 1, ?ya, ?yb, _, rfl⟩, ?yd⟩
            case ya => omega
            case yb => go_num
            case yd => simp [intOf]; omega
        · obtain rfl : k = 6 := by omega
          go_wp2_with fail
          go_ret
          exact ⟨rfl, belowD hb4 _⟩

  · go_wp2_with fail
    refine (C2.out _ hb2).mono ?_
    rintro e w3 ⟨rfl, hb23, hb3⟩
    go_wp2_with fail
    refine (CE.out _ hb3).mono ?_
    rintro e w4 ⟨rfl, hb34, hb4⟩
    go_wp2_with fail
    go_loopw [13, 12] (fun i so wr => i = .int .i64 0 ∧ so = .bool false ∧ w4 = wr) (fun i _ _ => 0)
    case atStart => exact ⟨rfl, rfl, rfl⟩
    case round =>
      obtain ⟨rfl, rfl, rfl⟩ := hrel
      go_wp2_with fail
      go_ret
      first | exact ⟨rfl, hb4⟩ | exact ⟨rfl, belowD hb4 _⟩

set_option maxHeartbeats 4000000 in
theorem FlowLeast_no (h : NodesAt w A P n) (hM : IntsAt w Am M) (hL : IntsAt w Al L) (hT : Tab w) (hE : ErrT w) (hl : leastCode P n M = 0) (hs : IsSt P (n - 1) s) (hk : fitsCode P n L = 0) (hf : fitB L (s.sets 0) = false) :
    Calls Tryd.prog 7 #[.slice A n c, .slice Am M.length cm, .slice Al L.length cl] w fun e w' => e = .returned (.bool true) ∧ Below w.heap.size w w' := by
  obtain ⟨hc, h6, hbM⟩ := leastCode_ok hl
  have hS : ∀ p ∈ s.sets 0, p.1 < 6 ∧ p.2 < 64 := fun p hp => sets_lt hs.ok (by decide) p hp
  have C0 := Lib.hid (flowFact_any hT)
  have C1 := Lib.hid (fun V (hV : Below w.heap.size w V) => (Least_ok (c := c) (cl := cm) (h.below (B := 0) hV) (hM.below hV) hl hs (hT.next hV)).mono fun e w' ⟨he, hb⟩ => (⟨he, hV.trans (hb.mono hV.size)⟩ : _ ∧ Below w.heap.size w w'))
  have C2 := Lib.hid (fun V (hV : Below w.heap.size w V) => (Fits_ok (c := c) (cl := cl) (h.below (B := 0) hV) (hL.below hV) hk hs (hT.next hV) hf).mono fun e w' ⟨he, hb⟩ => (⟨he, hb, hV.trans (hb.mono hV.size)⟩ : _ ∧ Below V.heap.size V w' ∧ Below w.heap.size w w'))
  have CE := Lib.hid (fun V (hV : Below w.heap.size w V) => ((Error_is 6 6 true V (hE.next hV) (by simp) : Calls Tryd.prog 17 #[.iface 62 (.int .i64 6), .int .i64 6] V _)).mono fun e w' ⟨he, hb⟩ => (⟨he, hb, hV.trans (hb.mono hV.size)⟩ : _ ∧ Below V.heap.size V w' ∧ Below w.heap.size w w'))
  have C4 := Lib.hid (fun V (O : List Int) (B : Option Addr) (cB : Nat) (hV : Below w.heap.size w V) (hinv : LeastInv M (s.sets 0) O) (hB : IntsAt V B O) (hf : fitB O (s.sets 0) = true) => by
    have := Fits_ok (c := c) (cl := cB) (h.below (B := 0) hV) hB (hinv.code hc) hs (hT.next hV) hf
    rw [hinv.len] at this
    exact this.mono fun e w' ⟨he, hb⟩ => (⟨he, hb, hV.trans (hb.mono hV.size)⟩ : _ ∧ Below V.heap.size V w' ∧ Below w.heap.size w w'))
  obtain ⟨pm, om, rfl, cM⟩ := cells6 hM h6
  have HM := Lib.hid cM
  rw [h6] at C1
  rw [h6]

  clear hk hl h hL hT hM hE hs hc h6 hbM cM hf hS
  generalize L.length = mL at *

  go_enter Tryd.func7, Tryd.ntmps7
  go_wp2_with (go_at_call 9; with_reducible refine C0.out.mono ?_; rintro e w1 ⟨rfl, hb1⟩)
  refine (C1.out _ hb1).mono ?_
  rintro e w2 ⟨⟨O, hinv, hst, hpost⟩, hb2⟩
  rcases hpost with ⟨hfO, B, cB, rfl, hB⟩ | ⟨hfO, rfl⟩

  · go_wp2_with fail
    refine (C2.out _ hb2).mono ?_
    rintro e w3 ⟨rfl, hb23, hb3⟩
    have hB3 := hB.below hb23
    go_wp2_with fail
    go_loopw [13, 12] (fun i so wr => i = .int .i64 0 ∧ so = .bool false ∧ w3 = wr) (fun i _ _ => 0)
    case atStart => exact ⟨rfl, rfl, rfl⟩
    case round =>
      obtain ⟨rfl, rfl, rfl⟩ := hrel
      have HF := C4.out w3 O B cB hb3 hinv hB3 hfO
      go_wp2_with (go_at_call 10; with_reducible refine HF.mono ?_; rintro e w4 ⟨rfl, hb34, hb4⟩)
      clear HF
      obtain ⟨po, oo, rfl, cO⟩ := cells6 (hB3.below hb34) hinv.len
      have Hinv := Lib.hid hinv
      clear hinv hst hfO hB hB3 C4
      go_wp2_with fail
      go_loopw [16] (fun i wr => ∃ k : Nat, k ≤ 6 ∧ i = .int .i64 k ∧ ∃ q, wr = w4.drewN q) (fun i _ => 6 - (intOf i).toNat)
      case atStart => exact ⟨0, Nat.zero_le _, rfl, 0, rfl⟩
      case round =>
        obtain ⟨k, hk, rfl, q2, rfl⟩ := hrel
        by_cases hlt : k < 6
        · have c1 := HM.out w4 hb4 k hlt
          have c2 := cO w4 (Below.refl _ _) k hlt
          have hk6 : (k : Int) < 6 := by omega
          have htold := Hinv.out.told k hlt

          by_cases hm0 : 0 ≤ gI M k
          · rw [htold hm0] at c2 
            clear htold 
            generalize gI M k = mk at *
            have d1 : decide (mk ≥ 0) = true := decide_eq_true hm0
            have d2 : (mk != mk) = false := by simp
            go_wp2_with fail
            go_quiet (fail)
            go_wp2_with fail
            refine ⟨⟨k + 1, ?xa, ?xb, _, rfl⟩, ?xd⟩
            case xa => omega
            case xb => go_num
            case xd => simp [intOf]; omega
          · clear htold 
            generalize gI M k = mk at *
            generalize gI O k = ok at *
            have d1 : decide (mk ≥ 0) = false := decide_eq_false hm0
            go_wp2_with fail
            go_quiet (fail)
            go_wp2_with fail
            refine ⟨⟨k + 1, ?ya, ?yb, _, rfl⟩, ?yd⟩
            case ya => omega
            case yb => go_num
            case yd => simp [intOf]; omega
        · obtain rfl : k = 6 := by omega
          go_wp2_with fail
          go_ret
          exact ⟨rfl, belowD hb4 _⟩

  · go_wp2_with fail
    refine (C2.out _ hb2).mono ?_
    rintro e w3 ⟨rfl, hb23, hb3⟩
    go_wp2_with fail
    refine (CE.out _ hb3).mono ?_
    rintro e w4 ⟨rfl, hb34, hb4⟩
    go_wp2_with fail
    go_loopw [13, 12] (fun i so wr => i = .int .i64 0 ∧ so = .bool false ∧ w4 = wr) (fun i _ _ => 0)
    case atStart => exact ⟨rfl, rfl, rfl⟩
    case round =>
      obtain ⟨rfl, rfl, rfl⟩ := hrel
      go_wp2_with fail
      go_ret
      first | exact ⟨rfl, hb4⟩ | exact ⟨rfl, belowD hb4 _⟩

set_option maxHeartbeats 4000000 in
theorem FlowLeast_yes (h : NodesAt w A P n) (hM : IntsAt w Am M) (hL : IntsAt w Al L) (hT : Tab w) (hE : ErrT w) (hl : leastCode P n M = 0) (hs : IsSt P (n - 1) s) (hk : fitsCode P n L = 0) (hf : fitB L (s.sets 0) = true) :
    Calls Tryd.prog 7 #[.slice A n c, .slice Am M.length cm, .slice Al L.length cl] w fun e w' => e = .returned (.bool true) ∧ Below w.heap.size w w' := by
  obtain ⟨hc, h6, hbM⟩ := leastCode_ok hl
  have hS : ∀ p ∈ s.sets 0, p.1 < 6 ∧ p.2 < 64 := fun p hp => sets_lt hs.ok (by decide) p hp
  have C0 := Lib.hid (flowFact_any hT)
  have C1 := Lib.hid (fun V (hV : Below w.heap.size w V) => (Least_ok (c := c) (cl := cm) (h.below (B := 0) hV) (hM.below hV) hl hs (hT.next hV)).mono fun e w' ⟨he, hb⟩ => (⟨he, hV.trans (hb.mono hV.size)⟩ : _ ∧ Below w.heap.size w w'))
  have C2 := Lib.hid (fun V (hV : Below w.heap.size w V) => (Fits_ok (c := c) (cl := cl) (h.below (B := 0) hV) (hL.below hV) hk hs (hT.next hV) hf).mono fun e w' ⟨he, hb⟩ => (⟨he, hb, hV.trans (hb.mono hV.size)⟩ : _ ∧ Below V.heap.size V w' ∧ Below w.heap.size w w'))
  have CE := Lib.hid (fun V (hV : Below w.heap.size w V) => ((Error_is 6 6 true V (hE.next hV) (by simp) : Calls Tryd.prog 17 #[.iface 62 (.int .i64 6), .int .i64 6] V _)).mono fun e w' ⟨he, hb⟩ => (⟨he, hb, hV.trans (hb.mono hV.size)⟩ : _ ∧ Below V.heap.size V w' ∧ Below w.heap.size w w'))
  have C4 := Lib.hid (fun V (O : List Int) (B : Option Addr) (cB : Nat) (hV : Below w.heap.size w V) (hinv : LeastInv M (s.sets 0) O) (hB : IntsAt V B O) (hf : fitB O (s.sets 0) = true) => by
    have := Fits_ok (c := c) (cl := cB) (h.below (B := 0) hV) hB (hinv.code hc) hs (hT.next hV) hf
    rw [hinv.len] at this
    exact this.mono fun e w' ⟨he, hb⟩ => (⟨he, hb, hV.trans (hb.mono hV.size)⟩ : _ ∧ Below V.heap.size V w' ∧ Below w.heap.size w w'))
  obtain ⟨pm, om, rfl, cM⟩ := cells6 hM h6
  have HM := Lib.hid cM
  rw [h6] at C1
  rw [h6]

  obtain ⟨-, l6, hL0⟩ := fitsCode_ok hk
  obtain ⟨pl, ol, rfl, cL⟩ := cells6 hL l6
  have HLc := Lib.hid cL
  rw [l6] at C2
  rw [l6]
  have HL0 := Lib.hid (show ∀ i, i < 6 → 0 ≤ gI L i from fun i hi => (hL0 _ (List.mem_of_getElem? (get_gI (by omega)))).1)
  have Hf := Lib.hid hf
  have HS := Lib.hid hS
  clear hk hl h hL hT hM hE hs hc h6 hbM cM cL l6 hL0 hf hS

  go_enter Tryd.func7, Tryd.ntmps7
  go_wp2_with (go_at_call 9; with_reducible refine C0.out.mono ?_; rintro e w1 ⟨rfl, hb1⟩)
  refine (C1.out _ hb1).mono ?_
  rintro e w2 ⟨⟨O, hinv, hst, hpost⟩, hb2⟩
  rcases hpost with ⟨hfO, B, cB, rfl, hB⟩ | ⟨hfO, rfl⟩

  · go_wp2_with fail
    refine (C2.out _ hb2).mono ?_
    rintro e w3 ⟨rfl, hb23, hb3⟩
    have hB3 := hB.below hb23
    go_wp2_with fail
    go_loopw [13, 12] (fun i so wr => ∃ k : Nat, k ≤ 6 ∧ i = .int .i64 k ∧ so = .bool (agreeTo M L k) ∧ ∃ q, wr = w3.drewN q) (fun i _ _ => 6 - (intOf i).toNat)
    case atStart => exact ⟨0, Nat.zero_le _, rfl, rfl, 0, rfl⟩
    case round =>
      obtain ⟨k, hk, rfl, rfl, q, rfl⟩ := hrel
      cases hag : agreeTo M L k with
      | true =>
        by_cases hlt : k < 6
        · have c1 := HM.out w3 hb3 k hlt
          have c2 := HLc.out w3 hb3 k hlt
          have hk6 : (k : Int) < 6 := by omega
          have Hs := Lib.hid (agreeTo_succ M L k)
          rw [hag] at Hs
          clear hag
          generalize gI M k = mk at *
          generalize gI L k = lk at *
          by_cases hm0 : mk < 0
          · have d1 : decide (mk < 0) = true := decide_eq_true hm0
            have Hn := Lib.hid (show agreeTo M L (k + 1) = true by rw [Hs.out, d1]; rfl)
            clear Hs hm0
            go_wp2_with fail
            go_quiet (fail)
            go_wp2_with fail
            refine ⟨⟨k + 1, ?ua, ?ub, ?uc, _, rfl⟩, ?ud⟩
            case ua => omega
            case ub => go_num
            case uc => rw [Hn.out]
            case ud => simp [intOf]; omega
          · have d1 : decide (mk < 0) = false := decide_eq_false hm0
            have Hn := Lib.hid (show agreeTo M L (k + 1) = (mk == lk) by rw [Hs.out, d1]; rfl)
            clear Hs hm0
            cases hml : (mk == lk) with
            | true =>
              rw [hml] at Hn
              go_wp2_with fail
              go_quiet (fail)
              go_wp2_with fail
              refine ⟨⟨k + 1, ?va, ?vb, ?vc, _, rfl⟩, ?vd⟩
              case va => omega
              case vb => go_num
              case vc => rw [Hn.out]
              case vd => simp [intOf]; omega
            | false =>
              rw [hml] at Hn
              go_wp2_with fail
              go_quiet (fail)
              go_wp2_with fail
              refine ⟨⟨k + 1, ?wa, ?wb, ?wc, _, rfl⟩, ?wd⟩
              case wa => omega
              case wb => go_num
              case wc => rw [Hn.out]
              case wd => simp [intOf]; omega
        · obtain rfl : k = 6 := by omega
          simp only [show ((6 : Nat) : Int) = 6 from rfl]
          have Hag := Lib.hid (show agreeTo M L 6 = true from hag)
          clear hag
          have hcmp : ∀ i, i < 6 → gI O i ≤ gI L i := hinv.least L HL0.out Hf.out (agreeTo_told Hag.out)
          have HF := C4.out (w3.drewN q) O B cB (belowD hb3 q) hinv (hB3.drewN q) hfO
          go_wp2_with (go_at_call 10; with_reducible refine HF.mono ?_; rintro e w4 ⟨rfl, hb34, hb4⟩)
          clear HF
          obtain ⟨po, oo, rfl, cO⟩ := cells6 ((hB3.drewN q).below hb34) hinv.len
          have Hinv := Lib.hid hinv
          clear hinv hst hfO hB hB3 C4
          go_wp2_with fail
          go_loopw [16] (fun i wr => ∃ k : Nat, k ≤ 6 ∧ i = .int .i64 k ∧ ∃ q, wr = w4.drewN q) (fun i _ => 6 - (intOf i).toNat)
          case atStart => exact ⟨0, Nat.zero_le _, rfl, 0, rfl⟩
          case round =>
            obtain ⟨k, hk, rfl, q2, rfl⟩ := hrel
            by_cases hlt : k < 6
            · have c1 := HM.out w4 hb4 k hlt
              have c2 := cO w4 (Below.refl _ _) k hlt
              have hk6 : (k : Int) < 6 := by omega
              have htold := Hinv.out.told k hlt
              have c3 := HLc.out w4 hb4 k hlt
              have hle := hcmp k hlt
              generalize gI L k = lk at *
              have d3 : decide (gI O k > lk) = false := decide_eq_false (by omega)
              by_cases hm0 : 0 ≤ gI M k
              · rw [htold hm0] at c2 d3
                clear htold hle hcmp
                generalize gI M k = mk at *
                have d1 : decide (mk ≥ 0) = true := decide_eq_true hm0
                have d2 : (mk != mk) = false := by simp
                go_wp2_with fail
                go_quiet (fail)
                go_wp2_with fail
                refine ⟨⟨k + 1, ?xa, ?xb, _, rfl⟩, ?xd⟩
                case xa => omega
                case xb => go_num
                case xd => simp [intOf]; omega
              · clear htold hle hcmp
                generalize gI M k = mk at *
                generalize gI O k = ok at *
                have d1 : decide (mk ≥ 0) = false := decide_eq_false hm0
                go_wp2_with fail
                go_quiet (fail)
                go_wp2_with fail
                refine ⟨⟨k + 1, ?ya, ?yb, _, rfl⟩, ?yd⟩
                case ya => omega
                case yb => go_num
                case yd => simp [intOf]; omega
            · obtain rfl : k = 6 := by omega
              go_wp2_with fail
              go_ret
              exact ⟨rfl, belowD hb4 _⟩
      | false =>
        have Hag := Lib.hid (show agreeTo M L 6 = false from agreeTo_mono hk hag)
        clear hag
        rcases Nat.lt_or_ge k 6 with hlt | hlt
        · have hk6 : (k : Int) < 6 := by omega
          have HF := C4.out (w3.drewN q) O B cB (belowD hb3 q) hinv (hB3.drewN q) hfO
          go_wp2_with (go_at_call 10; with_reducible refine HF.mono ?_; rintro e w4 ⟨rfl, hb34, hb4⟩)
          clear HF
          obtain ⟨po, oo, rfl, cO⟩ := cells6 ((hB3.drewN q).below hb34) hinv.len
          have Hinv := Lib.hid hinv
          clear hinv hst hfO hB hB3 C4
          go_wp2_with fail
          go_loopw [16] (fun i wr => ∃ k : Nat, k ≤ 6 ∧ i = .int .i64 k ∧ ∃ q, wr = w4.drewN q) (fun i _ => 6 - (intOf i).toNat)
          case atStart => exact ⟨0, Nat.zero_le _, rfl, 0, rfl⟩
          case round =>
            obtain ⟨k, hk, rfl, q2, rfl⟩ := hrel
            by_cases hlt : k < 6
            · have c1 := HM.out w4 hb4 k hlt
              have c2 := cO w4 (Below.refl _ _) k hlt
              have hk6 : (k : Int) < 6 := by omega
              have htold := Hinv.out.told k hlt

              by_cases hm0 : 0 ≤ gI M k
              · rw [htold hm0] at c2 
                clear htold 
                generalize gI M k = mk at *
                have d1 : decide (mk ≥ 0) = true := decide_eq_true hm0
                have d2 : (mk != mk) = false := by simp
                go_wp2_with fail
                go_quiet (fail)
                go_wp2_with fail
                refine ⟨⟨k + 1, ?xa, ?xb, _, rfl⟩, ?xd⟩
                case xa => omega
                case xb => go_num
                case xd => simp [intOf]; omega
              · clear htold 
                generalize gI M k = mk at *
                generalize gI O k = ok at *
                have d1 : decide (mk ≥ 0) = false := decide_eq_false hm0
                go_wp2_with fail
                go_quiet (fail)
                go_wp2_with fail
                refine ⟨⟨k + 1, ?ya, ?yb, _, rfl⟩, ?yd⟩
                case ya => omega
                case yb => go_num
                case yd => simp [intOf]; omega
            · obtain rfl : k = 6 := by omega
              go_wp2_with fail
              go_ret
              exact ⟨rfl, belowD hb4 _⟩
        · obtain rfl : k = 6 := by omega
          simp only [show ((6 : Nat) : Int) = 6 from rfl]
          have HF := C4.out (w3.drewN q) O B cB (belowD hb3 q) hinv (hB3.drewN q) hfO
          go_wp2_with (go_at_call 10; with_reducible refine HF.mono ?_; rintro e w4 ⟨rfl, hb34, hb4⟩)
          clear HF
          obtain ⟨po, oo, rfl, cO⟩ := cells6 ((hB3.drewN q).below hb34) hinv.len
          have Hinv := Lib.hid hinv
          clear hinv hst hfO hB hB3 C4
          go_wp2_with fail
          go_loopw [16] (fun i wr => ∃ k : Nat, k ≤ 6 ∧ i = .int .i64 k ∧ ∃ q, wr = w4.drewN q) (fun i _ => 6 - (intOf i).toNat)
          case atStart => exact ⟨0, Nat.zero_le _, rfl, 0, rfl⟩
          case round =>
            obtain ⟨k, hk, rfl, q2, rfl⟩ := hrel
            by_cases hlt : k < 6
            · have c1 := HM.out w4 hb4 k hlt
              have c2 := cO w4 (Below.refl _ _) k hlt
              have hk6 : (k : Int) < 6 := by omega
              have htold := Hinv.out.told k hlt

              by_cases hm0 : 0 ≤ gI M k
              · rw [htold hm0] at c2 
                clear htold 
                generalize gI M k = mk at *
                have d1 : decide (mk ≥ 0) = true := decide_eq_true hm0
                have d2 : (mk != mk) = false := by simp
                go_wp2_with fail
                go_quiet (fail)
                go_wp2_with fail
                refine ⟨⟨k + 1, ?xa, ?xb, _, rfl⟩, ?xd⟩
                case xa => omega
                case xb => go_num
                case xd => simp [intOf]; omega
              · clear htold 
                generalize gI M k = mk at *
                generalize gI O k = ok at *
                have d1 : decide (mk ≥ 0) = false := decide_eq_false hm0
                go_wp2_with fail
                go_quiet (fail)
                go_wp2_with fail
                refine ⟨⟨k + 1, ?ya, ?yb, _, rfl⟩, ?yd⟩
                case ya => omega
                case yb => go_num
                case yd => simp [intOf]; omega
            · obtain rfl : k = 6 := by omega
              go_wp2_with fail
              go_ret
              exact ⟨rfl, belowD hb4 _⟩

  · go_wp2_with fail
    refine (C2.out _ hb2).mono ?_
    rintro e w3 ⟨rfl, hb23, hb3⟩
    go_wp2_with fail
    refine (CE.out _ hb3).mono ?_
    rintro e w4 ⟨rfl, hb34, hb4⟩
    go_wp2_with fail
    go_loopw [13, 12] (fun i so wr => ∃ k : Nat, k ≤ 6 ∧ i = .int .i64 k ∧ so = .bool (agreeTo M L k) ∧ ∃ q, wr = w4.drewN q) (fun i _ _ => 6 - (intOf i).toNat)
    case atStart => exact ⟨0, Nat.zero_le _, rfl, rfl, 0, rfl⟩
    case round =>
      obtain ⟨k, hk, rfl, rfl, q, rfl⟩ := hrel
      cases hag : agreeTo M L k with
      | true =>
        by_cases hlt : k < 6
        · have c1 := HM.out w4 hb4 k hlt
          have c2 := HLc.out w4 hb4 k hlt
          have hk6 : (k : Int) < 6 := by omega
          have Hs := Lib.hid (agreeTo_succ M L k)
          rw [hag] at Hs
          clear hag
          generalize gI M k = mk at *
          generalize gI L k = lk at *
          by_cases hm0 : mk < 0
          · have d1 : decide (mk < 0) = true := decide_eq_true hm0
            have Hn := Lib.hid (show agreeTo M L (k + 1) = true by rw [Hs.out, d1]; rfl)
            clear Hs hm0
            go_wp2_with fail
            go_quiet (fail)
            go_wp2_with fail
            refine ⟨⟨k + 1, ?ua, ?ub, ?uc, _, rfl⟩, ?ud⟩
            case ua => omega
            case ub => go_num
            case uc => rw [Hn.out]
            case ud => simp [intOf]; omega
          · have d1 : decide (mk < 0) = false := decide_eq_false hm0
            have Hn := Lib.hid (show agreeTo M L (k + 1) = (mk == lk) by rw [Hs.out, d1]; rfl)
            clear Hs hm0
            cases hml : (mk == lk) with
            | true =>
              rw [hml] at Hn
              go_wp2_with fail
              go_quiet (fail)
              go_wp2_with fail
              refine ⟨⟨k + 1, ?va, ?vb, ?vc, _, rfl⟩, ?vd⟩
              case va => omega
              case vb => go_num
              case vc => rw [Hn.out]
              case vd => simp [intOf]; omega
            | false =>
              rw [hml] at Hn
              go_wp2_with fail
              go_quiet (fail)
              go_wp2_with fail
              refine ⟨⟨k + 1, ?wa, ?wb, ?wc, _, rfl⟩, ?wd⟩
              case wa => omega
              case wb => go_num
              case wc => rw [Hn.out]
              case wd => simp [intOf]; omega
        · obtain rfl : k = 6 := by omega
          simp only [show ((6 : Nat) : Int) = 6 from rfl]
          have Hag := Lib.hid (show agreeTo M L 6 = true from hag)
          clear hag
          have := hinv.fits HS.out hst HL0.out Hf.out (agreeTo_told Hag.out)
          rw [hfO] at this
          cases this
      | false =>
        have Hag := Lib.hid (show agreeTo M L 6 = false from agreeTo_mono hk hag)
        clear hag
        rcases Nat.lt_or_ge k 6 with hlt | hlt
        · have hk6 : (k : Int) < 6 := by omega
          go_wp2_with fail
          go_ret
          first | exact ⟨rfl, hb4⟩ | exact ⟨rfl, belowD hb4 _⟩
        · obtain rfl : k = 6 := by omega
          simp only [show ((6 : Nat) : Int) = 6 from rfl]
          go_wp2_with fail
          go_ret
          first | exact ⟨rfl, hb4⟩ | exact ⟨rfl, belowD hb4 _⟩

end

theorem FlowLeast_walk (n : Nat) (P : List Int) (A : Option Addr) (c : Nat) {W : World} (hn : P.length = n * 5) (hP : IntsAt W A P) (sP : n * 5 < 2 ^ 47) (bP : ∀ x ∈ P, I64 x) (M : List Int) (Am : Option Addr) (cm : Nat) (hM : IntsAt W Am M) (sM : M.length < 2 ^ 47) (bM : ∀ x ∈ M, I64 x) (L : List Int) (Al : Option Addr) (cl : Nat) (hL : IntsAt W Al L) (sL : L.length < 2 ^ 47) (bL : ∀ x ∈ L, I64 x) (w : World) (hw : w = W) (hT : Tab W) (hE : ErrT W) :
    Calls Tryd.prog 7 #[.slice A n c, .slice Am M.length cm, .slice Al L.length cl] w fun e w' => e = .returned (.bool true) ∧ Below W.heap.size W w' := by
  subst hw
  have h : NodesAt w A P n := ⟨hP, hn, by omega⟩
  obtain ⟨s, hs⟩ := some_tree P n
  obtain ⟨k, hk⟩ : ∃ k, leastCode P n M = k := ⟨_, rfl⟩
  by_cases hne : k = 0
  · subst hne
    have hst := hs (leastCode_ok hk).1
    obtain ⟨k2, hk2⟩ : ∃ k2, fitsCode P n L = k2 := ⟨_, rfl⟩
    by_cases hne2 : k2 = 0
    · subst hne2
      cases hf : fitB L (s.sets 0) with
      | false => exact FlowLeast_no h hM hL hT hE hk hst hk2 hf
      | true => exact FlowLeast_yes h hM hL hT hE hk hst hk2 hf
    · exact FlowLeast_err h hM hL hT hE hk hst hk2 hne2
  · exact FlowLeast_bad h hM hL hT hE hs hk hne
end Go.Proofs.YthaaekpnemhjoaaDoor
