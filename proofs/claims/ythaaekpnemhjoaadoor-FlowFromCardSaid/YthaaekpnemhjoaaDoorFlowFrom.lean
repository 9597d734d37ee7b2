/-
  The walk of FlowFrom.
-/
import Derived.Test.YthaaekpnemhjoaaDoorFlowQuiet
import Derived.Test.YthaaekpnemhjoaaDoorSets
namespace Go.Proofs.YthaaekpnemhjoaaDoor
open Go.RowKit
set_option maxRecDepth 100000
set_option linter.unusedVariables false

theorem from_okay {s : St} (hs : s.ok) {m : Nat} (hm : m < 6) : Okay (fun i => (row (fromL s) m).testBit i = true) (s.sets 0) := fun p hp h1 j hj => by
  have h6 := (sets_lt hs (by decide) p hp).1
  exact fromL_trans s hm h6 h1 (fromL_more hs hp hj)

section
variable {P : List Int} {n : Nat} {A : Option Addr} {c : Nat} {w : World} {La Lb : List Int} {Aa Ab : Option Addr} {ca cb : Nat} {m : Int} {s : St}
set_option maxHeartbeats 1000000 in
theorem FlowFrom_bad (h : NodesAt w A P n) (ha : IntsAt w Aa La) (hb : IntsAt w Ab Lb) (hT : Tab w) (hs : progCode P n = 0 → IsSt P (n - 1) s) {k : Nat} (hk : progCode P n = k) (hne : k ≠ 0) :
    Calls Tryd.prog 5 #[.slice A n c, .slice Aa La.length ca, .slice Ab Lb.length cb, .int .i64 m] w fun e w' => e = .returned (.bool true) ∧ Below w.heap.size w w' := by
  have C0 := Lib.hid (flowFact_any hT)
  have C1 := Lib.hid (fun V (hV : Below w.heap.size w V) => (From_bad (c := c) (h.below (B := 0) hV) hk hne).mono fun e w' ⟨he, hb⟩ => (⟨he, hV.trans (hb.mono hV.size)⟩ : _ ∧ Below w.heap.size w w'))
  have Ca := Lib.hid (fun V (hV : Below w.heap.size w V) => Run_some (c := c) (cl := ca) (fuel := 600) h ha hs V hV)
  have Cb := Lib.hid (fun V (hV : Below w.heap.size w V) => Run_some (c := c) (cl := cb) (fuel := 600) h hb hs V hV)
  have dk : ((k : Int) == 0) = false := by simp; omega
  clear hk hne h hT ha hb hs
  generalize La.length = ma at *
  generalize Lb.length = mb at *
  go_enter Tryd.func5, Tryd.ntmps5
  go_wp2_with (first | (go_at_call 9; with_reducible refine C0.out.mono ?_; rintro e w1 ⟨rfl, hb1⟩) | (go_at_call 11; with_reducible refine (C1.out _ hb1).mono ?_; rintro e w2 ⟨rfl, hb2⟩))
  refine (Ca.out _ hb2).mono ?_
  rintro e w3 ⟨⟨x, y, z, rfl⟩, hb3⟩
  go_wp2_with fail
  refine (Cb.out _ hb3).mono ?_
  rintro e w4 ⟨⟨x2, y2, z2, rfl⟩, hb4⟩
  go_wp2_with fail
  go_ret
  exact ⟨rfl, hb4⟩
set_option maxHeartbeats 1000000 in
theorem FlowFrom_err1 (h : NodesAt w A P n) (ha : IntsAt w Aa La) (hb : IntsAt w Ab Lb) (hT : Tab w) (hs : progCode P n = 0 → IsSt P (n - 1) s) (hk : progCode P n = 0)
    {k : Nat} (hne : k ≠ 0) (hCa : ∀ V, Below w.heap.size w V → Calls Tryd.prog 15 #[.slice A n c, .slice Aa La.length ca, .int .i64 600] V fun e w' => RunErr w e w' k) :
    Calls Tryd.prog 5 #[.slice A n c, .slice Aa La.length ca, .slice Ab Lb.length cb, .int .i64 m] w fun e w' => e = .returned (.bool true) ∧ Below w.heap.size w w' := by
  have C0 := Lib.hid (flowFact_any hT)
  have C1 := Lib.hid (fun V (hV : Below w.heap.size w V) => (From_ok (c := c) (h.below (B := 0) hV) hk (hs hk)).mono fun e w' ⟨he, hb⟩ => (⟨he, hV.trans (hb.mono hV.size)⟩ : _ ∧ Below w.heap.size w w'))
  have Ca := Lib.hid hCa
  have Cb := Lib.hid (fun V (hV : Below w.heap.size w V) => Run_some (c := c) (cl := cb) (fuel := 600) h hb hs V hV)
  have dk : ((k : Int) == 0) = false := by simp; omega
  clear hk h hT ha hb hs hCa hne
  generalize La.length = ma at *
  generalize Lb.length = mb at *
  go_enter Tryd.func5, Tryd.ntmps5
  go_wp2_with (first | (go_at_call 9; with_reducible refine C0.out.mono ?_; rintro e w1 ⟨rfl, hb1⟩) | (go_at_call 11; with_reducible refine (C1.out _ hb1).mono ?_; rintro e w2 ⟨⟨Br, cr, rfl, -⟩, hb2⟩))
  refine (Ca.out _ hb2).mono ?_
  rintro e w3 ⟨rfl, hb3⟩
  go_wp2_with fail
  refine (Cb.out _ hb3).mono ?_
  rintro e w4 ⟨⟨x2, y2, z2, rfl⟩, hb4⟩
  go_wp2_with fail
  go_ret
  exact ⟨rfl, hb4⟩
set_option maxHeartbeats 1000000 in
theorem FlowFrom_err2 (h : NodesAt w A P n) (hT : Tab w) (hs : progCode P n = 0 → IsSt P (n - 1) s) (hk : progCode P n = 0)
    {b1 : Nat} {v1 : List Nat} (hCa : ∀ V, Below w.heap.size w V → Calls Tryd.prog 15 #[.slice A n c, .slice Aa La.length ca, .int .i64 600] V fun e w' => RunEnd w V e w' b1 v1)
    {k : Nat} (hne : k ≠ 0) (hCb : ∀ V, Below w.heap.size w V → Calls Tryd.prog 15 #[.slice A n c, .slice Ab Lb.length cb, .int .i64 600] V fun e w' => RunErr w e w' k) :
    Calls Tryd.prog 5 #[.slice A n c, .slice Aa La.length ca, .slice Ab Lb.length cb, .int .i64 m] w fun e w' => e = .returned (.bool true) ∧ Below w.heap.size w w' := by
  have C0 := Lib.hid (flowFact_any hT)
  have C1 := Lib.hid (fun V (hV : Below w.heap.size w V) => (From_ok (c := c) (h.below (B := 0) hV) hk (hs hk)).mono fun e w' ⟨he, hb⟩ => (⟨he, hV.trans (hb.mono hV.size)⟩ : _ ∧ Below w.heap.size w w'))
  have Ca := Lib.hid hCa
  have Cb := Lib.hid hCb
  have dk : ((k : Int) == 0) = false := by simp; omega
  clear hk h hT hs hCa hCb hne
  generalize La.length = ma at *
  generalize Lb.length = mb at *
  go_enter Tryd.func5, Tryd.ntmps5
  go_wp2_with (first | (go_at_call 9; with_reducible refine C0.out.mono ?_; rintro e w1 ⟨rfl, hb1⟩) | (go_at_call 11; with_reducible refine (C1.out _ hb1).mono ?_; rintro e w2 ⟨⟨Br, cr, rfl, -⟩, hb2⟩))
  refine (Ca.out _ hb2).mono ?_
  rintro e w3 ⟨⟨B, c', rfl, -⟩, -, hb3⟩
  go_wp2_with fail
  refine (Cb.out _ hb3).mono ?_
  rintro e w4 ⟨rfl, hb4⟩
  go_wp2_with fail
  go_ret
  exact ⟨rfl, hb4⟩
set_option maxHeartbeats 1000000 in
theorem FlowFrom_out (h : NodesAt w A P n) (hT : Tab w) (hs : progCode P n = 0 → IsSt P (n - 1) s) (hk : progCode P n = 0)
    {b1 : Nat} {v1 : List Nat} (hCa : ∀ V, Below w.heap.size w V → Calls Tryd.prog 15 #[.slice A n c, .slice Aa La.length ca, .int .i64 600] V fun e w' => RunEnd w V e w' b1 v1)
    {b2 : Nat} {v2 : List Nat} (hCb : ∀ V, Below w.heap.size w V → Calls Tryd.prog 15 #[.slice A n c, .slice Ab Lb.length cb, .int .i64 600] V fun e w' => RunEnd w V e w' b2 v2)
    (hm : ¬ (0 ≤ m ∧ m ≤ 5)) :
    Calls Tryd.prog 5 #[.slice A n c, .slice Aa La.length ca, .slice Ab Lb.length cb, .int .i64 m] w fun e w' => e = .returned (.bool true) ∧ Below w.heap.size w w' := by
  have C0 := Lib.hid (flowFact_any hT)
  have C1 := Lib.hid (fun V (hV : Below w.heap.size w V) => (From_ok (c := c) (h.below (B := 0) hV) hk (hs hk)).mono fun e w' ⟨he, hb⟩ => (⟨he, hV.trans (hb.mono hV.size)⟩ : _ ∧ Below w.heap.size w w'))
  have Ca := Lib.hid hCa
  have Cb := Lib.hid hCb
  clear hk h hT hs hCa hCb
  generalize La.length = ma at *
  generalize Lb.length = mb at *
  by_cases h0 : m < 0
  · have d0 : decide (m < 0) = true := decide_eq_true h0
    clear hm h0
    go_enter Tryd.func5, Tryd.ntmps5
    go_wp2_with (first | (go_at_call 9; with_reducible refine C0.out.mono ?_; rintro e w1 ⟨rfl, hb1⟩) | (go_at_call 11; with_reducible refine (C1.out _ hb1).mono ?_; rintro e w2 ⟨⟨Br, cr, rfl, -⟩, hb2⟩))
    refine (Ca.out _ hb2).mono ?_
    rintro e w3 ⟨⟨B, c', rfl, -⟩, -, hb3⟩
    go_wp2_with fail
    refine (Cb.out _ hb3).mono ?_
    rintro e w4 ⟨⟨B2, c2, rfl, -⟩, -, hb4⟩
    go_wp2_with fail
    go_ret
    exact ⟨rfl, hb4⟩
  · have d0 : decide (m < 0) = false := decide_eq_false h0
    have d5 : decide (m > 5) = true := decide_eq_true (by omega)
    clear hm h0
    go_enter Tryd.func5, Tryd.ntmps5
    go_wp2_with (first | (go_at_call 9; with_reducible refine C0.out.mono ?_; rintro e w1 ⟨rfl, hb1⟩) | (go_at_call 11; with_reducible refine (C1.out _ hb1).mono ?_; rintro e w2 ⟨⟨Br, cr, rfl, -⟩, hb2⟩))
    refine (Ca.out _ hb2).mono ?_
    rintro e w3 ⟨⟨B, c', rfl, -⟩, -, hb3⟩
    go_wp2_with fail
    refine (Cb.out _ hb3).mono ?_
    rintro e w4 ⟨⟨B2, c2, rfl, -⟩, -, hb4⟩
    go_wp2_with fail
    go_ret
    exact ⟨rfl, hb4⟩

set_option maxHeartbeats 4000000 in
theorem FlowFrom_ok (h : NodesAt w A P n) (ha : IntsAt w Aa La) (hb : IntsAt w Ab Lb) (hT : Tab w) (hs : progCode P n = 0 → IsSt P (n - 1) s) (hk : progCode P n = 0) {v : Nat} (hmv : m = v) (hv6 : v < 6)
    {va vb xa xb : List Nat} {fa fb la lb : Nat} (hva : La = castL va) (hvb : Lb = castL vb) (va6 : Vars va) (vb6 : Vars vb) (ra : s.run va fa = some (xa, la)) (rb : s.run vb fb = some (xb, lb)) {b1 b2 : Nat}
    (hCa : ∀ V, Below w.heap.size w V → Calls Tryd.prog 15 #[.slice A n c, .slice Aa La.length ca, .int .i64 600] V fun e w' => RunEnd w V e w' b1 xa)
    (hCb : ∀ V, Below w.heap.size w V → Calls Tryd.prog 15 #[.slice A n c, .slice Ab Lb.length cb, .int .i64 600] V fun e w' => RunEnd w V e w' b2 xb) :
    Calls Tryd.prog 5 #[.slice A n c, .slice Aa La.length ca, .slice Ab Lb.length cb, .int .i64 m] w fun e w' => e = .returned (.bool true) ∧ Below w.heap.size w w' := by
  subst hmv
  have hst := hs hk
  have hva6 := va6.1
  have hvb6 := vb6.1
  have hxa6 := (St.run_vars hst.ok ra va6).1
  have hxb6 := (St.run_vars hst.ok rb vb6).1
  have hr64 : row (fromL s) v < 64 := fromL_bd hst.ok v
  have hself : (row (fromL s) v).testBit v = true := fromL_self s hv6
  have Hq := Lib.hid (fun (hh : ∀ i, i < 6 → (row (fromL s) v).testBit i = true → va.getD i 0 = vb.getD i 0) => quiet (low := fun i => (row (fromL s) v).testBit i = true) hst.ok (from_okay hst.ok hv6) ra rb ⟨by rw [hva6, hvb6], fun i hi => by
    rcases Nat.lt_or_ge i 6 with h1 | h1
    · exact hh i h1 hi
    · rw [List.getD_eq_getElem?_getD, List.getD_eq_getElem?_getD, List.getElem?_eq_none (by omega), List.getElem?_eq_none (by omega)]⟩)
  have C0 := Lib.hid (flowFact_any hT)
  have C1 := Lib.hid (fun V (hV : Below w.heap.size w V) => (From_ok (c := c) (h.below (B := 0) hV) hk hst).mono fun e w' ⟨he, hb⟩ => (⟨he, hV.trans (hb.mono hV.size)⟩ : _ ∧ Below w.heap.size w w'))
  have Ca := Lib.hid (fun V (hV : Below w.heap.size w V) => (hCa V hV))
  have Cb := Lib.hid (fun V (hV : Below w.heap.size w V) => (hCb V hV))
  obtain ⟨pa, oa, rfl, cA⟩ := cells6 ha (by rw [hva, length_castL, hva6])
  obtain ⟨pb, ob, rfl, cB⟩ := cells6 hb (by rw [hvb, length_castL, hvb6])
  have HA := Lib.hid cA
  have HB := Lib.hid cB
  have e1 : La.length = 6 := by rw [hva, length_castL, hva6]
  have e2 : Lb.length = 6 := by rw [hvb, length_castL, hvb6]
  rw [e1] at Ca
  rw [e2] at Cb
  rw [e1, e2]
  subst hva; subst hvb
  have Hxa6 := Lib.hid hxa6
  have Hxb6 := Lib.hid hxb6
  have Hr6 := Lib.hid (fromL_len s)
  clear cA cB hk h hT ha hb hs hCa hCb hst hva6 hvb6 hxa6 hxb6 ra rb va6 vb6 e1 e2
  have Hself := Lib.hid hself
  clear hself
  generalize hrr : fromL s = r at *
  clear hrr
  go_enter Tryd.func5, Tryd.ntmps5
  go_wp2_with (first | (go_at_call 9; with_reducible refine C0.out.mono ?_; rintro e w1 ⟨rfl, hb1⟩) | (go_at_call 11; with_reducible refine (C1.out _ hb1).mono ?_; rintro e w2 ⟨⟨Br, cr, rfl, hR⟩, hb2⟩))
  obtain ⟨pr, or_, rfl, cR⟩ := cells6 hR (by rw [length_castL, Hr6.out])
  refine (Ca.out _ hb2).mono ?_
  rintro e w3 ⟨⟨Bx, cx, rfl, hx⟩, hb23, hb3⟩
  go_wp2_with fail
  refine (Cb.out _ hb3).mono ?_
  rintro e w4 ⟨⟨By, cy, rfl, hy⟩, hb34, hb4⟩
  have hb24 := hb23.trans (hb34.mono hb23.size)
  have r1 := cR w4 hb24 v hv6
  rw [gI_castL, ← row_getD] at r1
  have hvi : (v : Int) < 6 := by omega
  have d0 : decide ((v : Int) < 0) = false := by simp
  have d5 : decide ((v : Int) > 5) = false := by simp; omega
  have e0 : decide (((row r v : Nat) : Int) < 0) = false := by simp
  have e5 : decide (((row r v : Nat) : Int) > 63) = false := by simp; omega
  obtain ⟨px, ox, rfl, cX⟩ := cells6 (hx.below hb34) (by rw [length_castL, Hxa6.out])
  obtain ⟨py, oy, rfl, cY⟩ := cells6 hy (by rw [length_castL, Hxb6.out])
  have HX := Lib.hid cX
  have HY := Lib.hid cY
  clear cX cY hx hy Ca Cb C0 C1 cR hR
  have HBt := Lib.hid (fun i (b : Bool) (hb : (row r v).testBit i = b) (hi : i < 6) V => Bit_is (row r v) i b V (by omega) (by omega) hb)
  generalize hrv : row r v = rv at *
  clear hrv
  go_wp2_with fail
  go_loopw [18] (fun i wr => ∃ k : Nat, k ≤ 6 ∧ i = .int .i64 k ∧ Hid (∀ j, j < k → rv.testBit j = true → va.getD j 0 = vb.getD j 0) ∧ ∃ q, wr = w4.drewN q) (fun i _ => 6 - (intOf i).toNat)
  case atStart => exact ⟨0, Nat.zero_le _, rfl, Lib.hid (fun j hj => by omega), 0, rfl⟩
  case round =>
    obtain ⟨k, hk, rfl, hall, q, rfl⟩ := hrel
    by_cases hlt : k < 6
    · have c2 := HA.out w4 hb4 k hlt
      have c3 := HB.out w4 hb4 k hlt
      rw [gI_castL] at c2 c3
      have hk6 : (k : Int) < 6 := by omega
      have Hn := Lib.hid (fun (hh : rv.testBit k = true → va.getD k 0 = vb.getD k 0) => show ∀ j, j < k + 1 → rv.testBit j = true → va.getD j 0 = vb.getD j 0 from fun j hj hl => by
        rcases Nat.lt_or_ge j k with h1 | h1
        · exact hall.out j h1 hl
        · obtain rfl : j = k := by omega
          exact hh hl)
      generalize va.getD k 0 = xa0 at *
      generalize vb.getD k 0 = xb0 at *
      cases hbt : rv.testBit k with
      | true =>
        have HB1 := Lib.hid (fun V => HBt.out k true hbt hlt V)
        by_cases hab : xa0 = xb0
        · have Hn1 := Lib.hid (Hn.out (fun _ => hab))
          subst hab
          clear Hn hbt
          go_wp2_with fail
          go_quiet (with_reducible exact quiet2 (HB1.out _))
          go_wp2_with fail
          refine ⟨⟨k + 1, ?ua, ?ub, Hn1, _, rfl⟩, ?ud⟩
          case ua => omega
          case ub => go_num
          case ud => simp [intOf]; omega
        · have dn : ((xa0 : Int) != (xb0 : Int)) = true := by simp; omega
          clear Hn hbt
          go_wp2_with fail
          go_quiet (with_reducible exact quiet2 (HB1.out _))
          go_wp2_with fail
          go_ret
          first | exact ⟨rfl, belowD hb4 _⟩ | exact ⟨rfl, belowD (belowD hb4 _) _⟩
      | false =>
        have HB1 := Lib.hid (fun V => HBt.out k false hbt hlt V)
        have Hn1 := Lib.hid (Hn.out (fun h => by rw [hbt] at h; cases h))
        clear Hn hbt
        go_wp2_with fail
        go_quiet (with_reducible exact quiet2 (HB1.out _))
        go_wp2_with fail
        refine ⟨⟨k + 1, ?ta, ?tb, Hn1, _, rfl⟩, ?td⟩
        case ta => omega
        case tb => go_num
        case td => simp [intOf]; omega
    · obtain rfl : k = 6 := by omega
      simp only [show ((6 : Nat) : Int) = 6 from rfl]
      have hq := Hq.out hall.out
      have Hsame := Lib.hid (show xa.getD v 0 = xb.getD v 0 from hq.2 v Hself.out)
      clear hq hall Hq
      have c2 := HX.out w4 (Below.refl _ _) v hv6
      have c3 := HY.out w4 (Below.refl _ _) v hv6
      rw [gI_castL] at c2 c3
      rw [Hsame.out] at c2
      generalize xb.getD v 0 = xb0 at *
      go_wp2_with fail
      go_quiet (fail)
      go_wp2_with fail
      go_ret
      first | exact ⟨ret_bool (by simp), belowD hb4 _⟩ | exact ⟨ret_bool (by simp), belowD (belowD hb4 _) _⟩
end

theorem FlowFrom_walk (n : Nat) (P : List Int) (A : Option Addr) (c : Nat) {W : World} (hn : P.length = n * 5) (hP : IntsAt W A P) (sP : n * 5 < 2 ^ 47) (bP : ∀ x ∈ P, I64 x)
    (La : List Int) (Aa : Option Addr) (ca : Nat) (ha : IntsAt W Aa La) (sa : La.length < 2 ^ 47) (ba : ∀ x ∈ La, I64 x) (Lb : List Int) (Ab : Option Addr) (cb : Nat) (hb : IntsAt W Ab Lb) (sb : Lb.length < 2 ^ 47) (bb : ∀ x ∈ Lb, I64 x) (m : Int) (bm : I64 m) (w : World) (hw : w = W) (hT : Tab W) :
    Calls Tryd.prog 5 #[.slice A n c, .slice Aa La.length ca, .slice Ab Lb.length cb, .int .i64 m] w fun e w' => e = .returned (.bool true) ∧ Below W.heap.size W w' := by
  subst hw
  have h : NodesAt w A P n := ⟨hP, hn, by omega⟩
  obtain ⟨s, hs⟩ := some_tree P n
  obtain ⟨k, hk⟩ : ∃ k, progCode P n = k := ⟨_, rfl⟩
  by_cases hne : k = 0
  · subst hne
    rcases Run_cases (c := c) (cl := ca) (fuel := 600) h ha hs with ⟨k1, hk1, h1⟩ | ⟨va, fa, xa, la, ⟨e1, -, -, v1, -, r1, -⟩, h1⟩
    · exact FlowFrom_err1 h ha hb hT hs hk hk1 h1
    · rcases Run_cases (c := c) (cl := cb) (fuel := 600) h hb hs with ⟨k2, hk2, h2⟩ | ⟨vb, fb, xb, lb, ⟨e2, -, -, v2, -, r2, -⟩, h2⟩
      · exact FlowFrom_err2 h hT hs hk h1 hk2 h2
      · by_cases hm : 0 ≤ m ∧ m ≤ 5
        · obtain ⟨v, hv⟩ := Int.eq_ofNat_of_zero_le hm.1
          exact FlowFrom_ok h ha hb hT hs hk hv (by omega) e1 e2 v1 v2 r1 r2 h1 h2
        · exact FlowFrom_out h hT hs hk h1 h2 hm
  · exact FlowFrom_bad h ha hb hT hs hk hne
end Go.Proofs.YthaaekpnemhjoaaDoor
