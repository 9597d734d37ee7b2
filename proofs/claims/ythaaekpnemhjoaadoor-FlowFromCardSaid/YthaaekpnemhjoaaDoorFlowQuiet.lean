/-
  The walk of FlowQuiet.
-/
import Derived.Test.YthaaekpnemhjoaaDoorFlowL
import Derived.Test.YthaaekpnemhjoaaDoorFlowF
import Derived.Test.YthaaekpnemhjoaaDoorRunE
import Derived.Test.YthaaekpnemhjoaaDoorFrame
namespace Go.Proofs.YthaaekpnemhjoaaDoor
open Go.RowKit
set_option maxRecDepth 100000
set_option linter.unusedVariables false

theorem fitB_okay {s : St} {L : List Int} (hs : s.ok) (h : fitB L (s.sets 0) = true) (level : Int) : Okay (fun i => gI L i ≤ level) (s.sets 0) := fun p hp h1 j hj => by
  unfold fitB at h
  rw [List.all_eq_true] at h
  have h2 := of_decide_eq_true (h p hp)
  rw [hiI_le] at h2
  have := h2.2 j ((mem_bitsOf (by have := (sets_lt hs (by decide) p hp).2; omega)).2 hj)
  show gI L j ≤ level
  have h1 : gI L p.1 ≤ level := h1
  omega

section
variable {P : List Int} {n : Nat} {A : Option Addr} {c : Nat} {w : World} {L La Lb : List Int} {Al Aa Ab : Option Addr} {cl ca cb : Nat} {level : Int} {s : St}
set_option maxHeartbeats 1000000 in
theorem FlowQuiet_bad (h : NodesAt w A P n) (hL : IntsAt w Al L) (ha : IntsAt w Aa La) (hb : IntsAt w Ab Lb) (hT : Tab w) (hs : progCode P n = 0 → IsSt P (n - 1) s) {k : Nat} (hk : fitsCode P n L = k) (hne : k ≠ 0) :
    Calls Tryd.prog 4 #[.slice A n c, .slice Al L.length cl, .slice Aa La.length ca, .slice Ab Lb.length cb, .int .i64 level] w fun e w' => e = .returned (.bool true) ∧ Below w.heap.size w w' := by
  have C0 := Lib.hid (flowFact_any hT)
  have C1 := Lib.hid (fun V (hV : Below w.heap.size w V) => (Fits_bad (c := c) (cl := cl) (h.below (B := 0) hV) (hL.below hV) hk hne).mono fun e w' ⟨he, hb⟩ => (⟨he, hV.trans (hb.mono hV.size)⟩ : _ ∧ Below w.heap.size w w'))
  have Ca := Lib.hid (fun V (hV : Below w.heap.size w V) => Run_some (c := c) (cl := ca) (fuel := 600) h ha hs V hV)
  have Cb := Lib.hid (fun V (hV : Below w.heap.size w V) => Run_some (c := c) (cl := cb) (fuel := 600) h hb hs V hV)
  have dk : ((k : Int) == 0) = false := by simp; omega
  clear hk hne h hL hT ha hb hs
  generalize L.length = m at *
  generalize La.length = ma at *
  generalize Lb.length = mb at *
  go_enter Tryd.func4, Tryd.ntmps4
  go_wp2_with (first | (go_at_call 9; with_reducible refine C0.out.mono ?_; rintro e w1 ⟨rfl, hb1⟩) | (go_at_call 10; with_reducible refine (C1.out _ hb1).mono ?_; rintro e w2 ⟨rfl, hb2⟩))
  refine (Ca.out _ hb2).mono ?_
  rintro e w3 ⟨⟨x, y, z, rfl⟩, hb3⟩
  go_wp2_with fail
  refine (Cb.out _ hb3).mono ?_
  rintro e w4 ⟨⟨x2, y2, z2, rfl⟩, hb4⟩
  go_wp2_with fail
  go_ret
  exact ⟨rfl, hb4⟩
set_option maxHeartbeats 1000000 in
theorem FlowQuiet_no (h : NodesAt w A P n) (hL : IntsAt w Al L) (ha : IntsAt w Aa La) (hb : IntsAt w Ab Lb) (hT : Tab w) (hs : progCode P n = 0 → IsSt P (n - 1) s) (hk : fitsCode P n L = 0) (hf : fitB L (s.sets 0) = false) :
    Calls Tryd.prog 4 #[.slice A n c, .slice Al L.length cl, .slice Aa La.length ca, .slice Ab Lb.length cb, .int .i64 level] w fun e w' => e = .returned (.bool true) ∧ Below w.heap.size w w' := by
  have C0 := Lib.hid (flowFact_any hT)
  have C1 := Lib.hid (fun V (hV : Below w.heap.size w V) => (Fits_ok (c := c) (cl := cl) (h.below (B := 0) hV) (hL.below hV) hk (hs (fitsCode_ok hk).1) (hT.next hV) hf).mono fun e w' ⟨he, hb⟩ => (⟨he, hV.trans (hb.mono hV.size)⟩ : _ ∧ Below w.heap.size w w'))
  have Ca := Lib.hid (fun V (hV : Below w.heap.size w V) => Run_some (c := c) (cl := ca) (fuel := 600) h ha hs V hV)
  have Cb := Lib.hid (fun V (hV : Below w.heap.size w V) => Run_some (c := c) (cl := cb) (fuel := 600) h hb hs V hV)
  clear hk h hL hT ha hb hs hf
  generalize L.length = m at *
  generalize La.length = ma at *
  generalize Lb.length = mb at *
  go_enter Tryd.func4, Tryd.ntmps4
  go_wp2_with (first | (go_at_call 9; with_reducible refine C0.out.mono ?_; rintro e w1 ⟨rfl, hb1⟩) | (go_at_call 10; with_reducible refine (C1.out _ hb1).mono ?_; rintro e w2 ⟨rfl, hb2⟩))
  refine (Ca.out _ hb2).mono ?_
  rintro e w3 ⟨⟨x, y, z, rfl⟩, hb3⟩
  go_wp2_with fail
  refine (Cb.out _ hb3).mono ?_
  rintro e w4 ⟨⟨x2, y2, z2, rfl⟩, hb4⟩
  go_wp2_with fail
  go_ret
  exact ⟨rfl, hb4⟩
set_option maxHeartbeats 1000000 in
theorem FlowQuiet_err1 (h : NodesAt w A P n) (hL : IntsAt w Al L) (ha : IntsAt w Aa La) (hb : IntsAt w Ab Lb) (hT : Tab w) (hs : progCode P n = 0 → IsSt P (n - 1) s) (hk : fitsCode P n L = 0) (hf : fitB L (s.sets 0) = true)
    {k : Nat} (hne : k ≠ 0) (hCa : ∀ V, Below w.heap.size w V → Calls Tryd.prog 15 #[.slice A n c, .slice Aa La.length ca, .int .i64 600] V fun e w' => RunErr w e w' k) :
    Calls Tryd.prog 4 #[.slice A n c, .slice Al L.length cl, .slice Aa La.length ca, .slice Ab Lb.length cb, .int .i64 level] w fun e w' => e = .returned (.bool true) ∧ Below w.heap.size w w' := by
  have C0 := Lib.hid (flowFact_any hT)
  have C1 := Lib.hid (fun V (hV : Below w.heap.size w V) => (Fits_ok (c := c) (cl := cl) (h.below (B := 0) hV) (hL.below hV) hk (hs (fitsCode_ok hk).1) (hT.next hV) hf).mono fun e w' ⟨he, hb⟩ => (⟨he, hV.trans (hb.mono hV.size)⟩ : _ ∧ Below w.heap.size w w'))
  have Ca := Lib.hid hCa
  have Cb := Lib.hid (fun V (hV : Below w.heap.size w V) => Run_some (c := c) (cl := cb) (fuel := 600) h hb hs V hV)
  have dk : ((k : Int) == 0) = false := by simp; omega
  clear hk h hL hT ha hb hs hf hCa hne
  generalize L.length = m at *
  generalize La.length = ma at *
  generalize Lb.length = mb at *
  go_enter Tryd.func4, Tryd.ntmps4
  go_wp2_with (first | (go_at_call 9; with_reducible refine C0.out.mono ?_; rintro e w1 ⟨rfl, hb1⟩) | (go_at_call 10; with_reducible refine (C1.out _ hb1).mono ?_; rintro e w2 ⟨rfl, hb2⟩))
  refine (Ca.out _ hb2).mono ?_
  rintro e w3 ⟨rfl, hb3⟩
  go_wp2_with fail
  refine (Cb.out _ hb3).mono ?_
  rintro e w4 ⟨⟨x2, y2, z2, rfl⟩, hb4⟩
  go_wp2_with fail
  go_ret
  exact ⟨rfl, hb4⟩
set_option maxHeartbeats 1000000 in
theorem FlowQuiet_err2 (h : NodesAt w A P n) (hL : IntsAt w Al L) (hT : Tab w) (hs : progCode P n = 0 → IsSt P (n - 1) s) (hk : fitsCode P n L = 0) (hf : fitB L (s.sets 0) = true)
    {b1 : Nat} {v1 : List Nat} (hCa : ∀ V, Below w.heap.size w V → Calls Tryd.prog 15 #[.slice A n c, .slice Aa La.length ca, .int .i64 600] V fun e w' => RunEnd w V e w' b1 v1)
    {k : Nat} (hne : k ≠ 0) (hCb : ∀ V, Below w.heap.size w V → Calls Tryd.prog 15 #[.slice A n c, .slice Ab Lb.length cb, .int .i64 600] V fun e w' => RunErr w e w' k) :
    Calls Tryd.prog 4 #[.slice A n c, .slice Al L.length cl, .slice Aa La.length ca, .slice Ab Lb.length cb, .int .i64 level] w fun e w' => e = .returned (.bool true) ∧ Below w.heap.size w w' := by
  have C0 := Lib.hid (flowFact_any hT)
  have C1 := Lib.hid (fun V (hV : Below w.heap.size w V) => (Fits_ok (c := c) (cl := cl) (h.below (B := 0) hV) (hL.below hV) hk (hs (fitsCode_ok hk).1) (hT.next hV) hf).mono fun e w' ⟨he, hb⟩ => (⟨he, hV.trans (hb.mono hV.size)⟩ : _ ∧ Below w.heap.size w w'))
  have Ca := Lib.hid hCa
  have Cb := Lib.hid hCb
  have dk : ((k : Int) == 0) = false := by simp; omega
  clear hk h hL hT hs hf hCa hCb hne
  generalize L.length = m at *
  generalize La.length = ma at *
  generalize Lb.length = mb at *
  go_enter Tryd.func4, Tryd.ntmps4
  go_wp2_with (first | (go_at_call 9; with_reducible refine C0.out.mono ?_; rintro e w1 ⟨rfl, hb1⟩) | (go_at_call 10; with_reducible refine (C1.out _ hb1).mono ?_; rintro e w2 ⟨rfl, hb2⟩))
  refine (Ca.out _ hb2).mono ?_
  rintro e w3 ⟨⟨B, c', rfl, -⟩, -, hb3⟩
  go_wp2_with fail
  refine (Cb.out _ hb3).mono ?_
  rintro e w4 ⟨rfl, hb4⟩
  go_wp2_with fail
  go_ret
  exact ⟨rfl, hb4⟩
/-- The cells of six ints, in every later world. -/
theorem cells6 {w : World} {A : Option Addr} {l : List Int} (h : IntsAt w A l) (h6 : l.length = 6) : ∃ b off, A = some ⟨b, off, none⟩ ∧ ∀ V, Below w.heap.size w V → ∀ x, x < 6 → V.cell? ⟨b, off + x, none⟩ = some (.int .i64 (gI l x)) := by
  obtain ⟨b, off, rfl, hc⟩ := h (by intro e; rw [e] at h6; cases h6)
  refine ⟨b, off, rfl, fun V hV x hx => ?_⟩
  have := hc x _ (get_gI (by omega))
  exact (hV.cell (p := ⟨b, off + x, none⟩) (block_lt this)).trans this
theorem gI_castL (v : List Nat) (x : Nat) : gI (castL v) x = (v.getD x 0 : Nat) := by
  unfold gI castL
  rw [List.getD_eq_getElem?_getD, List.getD_eq_getElem?_getD, List.getElem?_map]
  cases v[x]? <;> rfl

set_option maxHeartbeats 4000000 in
theorem FlowQuiet_ok (h : NodesAt w A P n) (hL : IntsAt w Al L) (ha : IntsAt w Aa La) (hb : IntsAt w Ab Lb) (hT : Tab w) (hs : progCode P n = 0 → IsSt P (n - 1) s) (hk : fitsCode P n L = 0) (hf : fitB L (s.sets 0) = true)
    {va vb xa xb : List Nat} {fa fb la lb : Nat} (hva : La = castL va) (hvb : Lb = castL vb) (va6 : Vars va) (vb6 : Vars vb) (ra : s.run va fa = some (xa, la)) (rb : s.run vb fb = some (xb, lb)) {b1 b2 : Nat}
    (hCa : ∀ V, Below w.heap.size w V → Calls Tryd.prog 15 #[.slice A n c, .slice Aa La.length ca, .int .i64 600] V fun e w' => RunEnd w V e w' b1 xa)
    (hCb : ∀ V, Below w.heap.size w V → Calls Tryd.prog 15 #[.slice A n c, .slice Ab Lb.length cb, .int .i64 600] V fun e w' => RunEnd w V e w' b2 xb) :
    Calls Tryd.prog 4 #[.slice A n c, .slice Al L.length cl, .slice Aa La.length ca, .slice Ab Lb.length cb, .int .i64 level] w fun e w' => e = .returned (.bool true) ∧ Below w.heap.size w w' := by
  obtain ⟨hc, h6, -⟩ := fitsCode_ok hk
  have hst := hs hc
  have hva6 := va6.1
  have hvb6 := vb6.1
  have hxa6 := (St.run_vars hst.ok ra va6).1
  have hxb6 := (St.run_vars hst.ok rb vb6).1
  have Hq := Lib.hid (fun (hh : ∀ i, i < 6 → gI L i ≤ level → va.getD i 0 = vb.getD i 0) => quiet (low := fun i => gI L i ≤ level) hst.ok (fitB_okay hst.ok hf level) ra rb ⟨by rw [hva6, hvb6], fun i hi => by
    rcases Nat.lt_or_ge i 6 with h1 | h1
    · exact hh i h1 hi
    · rw [List.getD_eq_getElem?_getD, List.getD_eq_getElem?_getD, List.getElem?_eq_none (by omega), List.getElem?_eq_none (by omega)]⟩)
  have C0 := Lib.hid (flowFact_any hT)
  have C1 := Lib.hid (fun V (hV : Below w.heap.size w V) => (Fits_ok (c := c) (cl := cl) (h.below (B := 0) hV) (hL.below hV) hk hst (hT.next hV) hf).mono fun e w' ⟨he, hb⟩ => (⟨he, hV.trans (hb.mono hV.size)⟩ : _ ∧ Below w.heap.size w w'))
  have Ca := Lib.hid (fun V (hV : Below w.heap.size w V) => (hCa V hV))
  have Cb := Lib.hid (fun V (hV : Below w.heap.size w V) => (hCb V hV))
  obtain ⟨pl, ol, rfl, cL⟩ := cells6 hL h6
  obtain ⟨pa, oa, rfl, cA⟩ := cells6 ha (by rw [hva, length_castL, hva6])
  obtain ⟨pb, ob, rfl, cB⟩ := cells6 hb (by rw [hvb, length_castL, hvb6])
  have HL := Lib.hid cL
  have HA := Lib.hid cA
  have HB := Lib.hid cB
  rw [h6] at C1
  have e1 : La.length = 6 := by rw [hva, length_castL, hva6]
  have e2 : Lb.length = 6 := by rw [hvb, length_castL, hvb6]
  rw [e1] at Ca
  rw [e2] at Cb
  rw [h6, e1, e2]
  subst hva; subst hvb
  have Hxa6 := Lib.hid hxa6
  have Hxb6 := Lib.hid hxb6
  clear cL cA cB hk h hL hT ha hb hs hf hCa hCb hc hst hva6 hvb6 hxa6 hxb6 ra rb va6 vb6 h6 e1 e2
  go_enter Tryd.func4, Tryd.ntmps4
  go_wp2_with (first | (go_at_call 9; with_reducible refine C0.out.mono ?_; rintro e w1 ⟨rfl, hb1⟩) | (go_at_call 10; with_reducible refine (C1.out _ hb1).mono ?_; rintro e w2 ⟨rfl, hb2⟩))
  refine (Ca.out _ hb2).mono ?_
  rintro e w3 ⟨⟨Bx, cx, rfl, hx⟩, hb23, hb3⟩
  go_wp2_with fail
  refine (Cb.out _ hb3).mono ?_
  rintro e w4 ⟨⟨By, cy, rfl, hy⟩, hb34, hb4⟩
  go_wp2_with fail
  obtain ⟨px, ox, rfl, cX⟩ := cells6 (hx.below hb34) (by rw [length_castL, Hxa6.out])
  obtain ⟨py, oy, rfl, cY⟩ := cells6 hy (by rw [length_castL, Hxb6.out])
  have HX := Lib.hid cX
  have HY := Lib.hid cY
  clear cX cY hx hy Ca Cb C0 C1
  go_loopw [20] (fun i wr => ∃ k : Nat, k ≤ 6 ∧ i = .int .i64 k ∧ Hid (∀ j, j < k → gI L j ≤ level → va.getD j 0 = vb.getD j 0) ∧ ∃ q, wr = w4.drewN q) (fun i _ => 6 - (intOf i).toNat)
  case atStart => exact ⟨0, Nat.zero_le _, rfl, Lib.hid (fun j hj => by omega), 0, rfl⟩
  case round =>
    obtain ⟨k, hk, rfl, hall, q, rfl⟩ := hrel
    by_cases hlt : k < 6
    · have c1 := HL.out w4 hb4 k hlt
      have c2 := HA.out w4 hb4 k hlt
      have c3 := HB.out w4 hb4 k hlt
      rw [gI_castL] at c2 c3
      have hk6 : (k : Int) < 6 := by omega
      have Hn := Lib.hid (fun (hh : gI L k ≤ level → va.getD k 0 = vb.getD k 0) => show ∀ j, j < k + 1 → gI L j ≤ level → va.getD j 0 = vb.getD j 0 from fun j hj hl => by
        rcases Nat.lt_or_ge j k with h1 | h1
        · exact hall.out j h1 hl
        · obtain rfl : j = k := by omega
          exact hh hl)
      generalize gI L k = xl at *
      generalize va.getD k 0 = xa0 at *
      generalize vb.getD k 0 = xb0 at *
      by_cases hle : xl ≤ level
      · have dl : decide (xl ≤ level) = true := decide_eq_true hle
        by_cases hab : xa0 = xb0
        · have Hn1 := Lib.hid (Hn.out (fun _ => hab))
          subst hab
          clear Hn
          go_wp2_with fail
          go_quiet (fail)
          go_wp2_with fail
          refine ⟨⟨k + 1, ?ua, ?ub, Hn1, _, rfl⟩, ?ud⟩
          case ua => omega
          case ub => go_num
          case ud => simp [intOf]; omega
        · have dn : ((xa0 : Int) != (xb0 : Int)) = true := by simp; omega
          clear Hn
          go_wp2_with fail
          go_quiet (fail)
          go_wp2_with fail
          go_ret
          first | exact ⟨rfl, belowD hb4 _⟩ | exact ⟨rfl, belowD (belowD hb4 _) _⟩
      · have dl : decide (xl ≤ level) = false := decide_eq_false hle
        have Hn1 := Lib.hid (Hn.out (fun h => absurd h hle))
        clear Hn
        go_wp2_with fail
        go_quiet (fail)
        go_wp2_with fail
        refine ⟨⟨k + 1, ?ta, ?tb, Hn1, _, rfl⟩, ?td⟩
        case ta => omega
        case tb => go_num
        case td => simp [intOf]; omega
    · obtain rfl : k = 6 := by omega
      simp only [show ((6 : Nat) : Int) = 6 from rfl]
      have hq := Hq.out hall.out
      have Hsame := Lib.hid (show ∀ i, gI L i ≤ level → xa.getD i 0 = xb.getD i 0 from fun i hi => hq.2 i hi)
      clear hq hall Hq
      go_wp2_with fail
      go_loopw [21] (fun i wr => ∃ k : Nat, k ≤ 6 ∧ i = .int .i64 k ∧ ∃ q, wr = w4.drewN q) (fun i _ => 6 - (intOf i).toNat)
      case atStart => exact ⟨0, Nat.zero_le _, rfl, _, rfl⟩
      case round =>
        obtain ⟨k, hk, rfl, q, rfl⟩ := hrel
        by_cases hlt : k < 6
        · have c1 := HL.out w4 hb4 k hlt
          have c2 := HX.out w4 (Below.refl _ _) k hlt
          have c3 := HY.out w4 (Below.refl _ _) k hlt
          rw [gI_castL] at c2 c3
          have hk6 : (k : Int) < 6 := by omega
          have hs1 := Hsame.out k
          generalize gI L k = xl at *
          generalize xa.getD k 0 = xa0 at *
          generalize xb.getD k 0 = xb0 at *
          by_cases hle : xl ≤ level
          · have dl : decide (xl ≤ level) = true := decide_eq_true hle
            obtain rfl := hs1 hle
            clear hs1
            go_wp2_with fail
            go_quiet (fail)
            go_wp2_with fail
            refine ⟨⟨k + 1, ?va, ?vb, _, rfl⟩, ?vd⟩
            case va => omega
            case vb => go_num
            case vd => simp [intOf]; omega
          · have dl : decide (xl ≤ level) = false := decide_eq_false hle
            clear hs1
            go_wp2_with fail
            go_quiet (fail)
            go_wp2_with fail
            refine ⟨⟨k + 1, ?wa, ?wb, _, rfl⟩, ?wd⟩
            case wa => omega
            case wb => go_num
            case wd => simp [intOf]; omega
        · obtain rfl : k = 6 := by omega
          go_wp2_with fail
          go_ret
          exact ⟨rfl, belowD hb4 _⟩
end

theorem FlowQuiet_walk (n : Nat) (P : List Int) (A : Option Addr) (c : Nat) {W : World} (hn : P.length = n * 5) (hP : IntsAt W A P) (sP : n * 5 < 2 ^ 47) (bP : ∀ x ∈ P, I64 x) (L : List Int) (Al : Option Addr) (cl : Nat) (hL : IntsAt W Al L) (sL : L.length < 2 ^ 47) (bL : ∀ x ∈ L, I64 x)
    (La : List Int) (Aa : Option Addr) (ca : Nat) (ha : IntsAt W Aa La) (sa : La.length < 2 ^ 47) (ba : ∀ x ∈ La, I64 x) (Lb : List Int) (Ab : Option Addr) (cb : Nat) (hb : IntsAt W Ab Lb) (sb : Lb.length < 2 ^ 47) (bb : ∀ x ∈ Lb, I64 x) (level : Int) (bl : I64 level) (w : World) (hw : w = W) (hT : Tab W) :
    Calls Tryd.prog 4 #[.slice A n c, .slice Al L.length cl, .slice Aa La.length ca, .slice Ab Lb.length cb, .int .i64 level] w fun e w' => e = .returned (.bool true) ∧ Below W.heap.size W w' := by
  subst hw
  have h : NodesAt w A P n := ⟨hP, hn, by omega⟩
  obtain ⟨s, hs⟩ := some_tree P n
  obtain ⟨k, hk⟩ : ∃ k, fitsCode P n L = k := ⟨_, rfl⟩
  by_cases hne : k = 0
  · subst hne
    cases hf : fitB L (s.sets 0) with
    | false => exact FlowQuiet_no h hL ha hb hT hs hk hf
    | true =>
      rcases Run_cases (c := c) (cl := ca) (fuel := 600) h ha hs with ⟨k1, hk1, h1⟩ | ⟨va, fa, xa, la, ⟨e1, -, -, v1, -, r1, -⟩, h1⟩
      · exact FlowQuiet_err1 h hL ha hb hT hs hk hf hk1 h1
      · rcases Run_cases (c := c) (cl := cb) (fuel := 600) h hb hs with ⟨k2, hk2, h2⟩ | ⟨vb, fb, xb, lb, ⟨e2, -, -, v2, -, r2, -⟩, h2⟩
        · exact FlowQuiet_err2 h hL hT hs hk hf h1 hk2 h2
        · exact FlowQuiet_ok h hL ha hb hT hs hk hf e1 e2 v1 v2 r1 r2 h1 h2
  · exact FlowQuiet_bad h hL ha hb hT hs hk hne
end Go.Proofs.YthaaekpnemhjoaaDoor
