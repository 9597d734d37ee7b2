/-
  The walk of SliceSays.
-/
import Derived.Test.YtdgncngkalgknaaDoorRsFM
import Derived.Test.YtdgncngkalgknaaDoorSameN
import Derived.Test.YtdgncngkalgknaaDoorPrC
import Derived.Test.YtdgncngkalgknaaDoorAs
import Derived.Test.YtdgncngkalgknaaDoorFrame
namespace Go.Proofs.YtdgncngkalgknaaDoor
open Go.RowKit Go.Maps
set_option maxRecDepth 100000
set_option linter.unusedVariables false
theorem raw_of2 {P : List Int} {n : Nat} (h : progCode P n = 0) : ∃ m s, n = m + 1 ∧ IsRS P m s ∧ s.cnt ≤ m + 1 ∧ m + 1 ≤ 80 := by
  obtain ⟨⟨hn1, hn80⟩, -, t, ht⟩ := progCode_tree h
  obtain ⟨m, rfl⟩ : ∃ m, n = m + 1 := ⟨n - 1, by omega⟩
  obtain ⟨s, hs, -⟩ := raw_st (show IsSt P m t from ht)
  exact ⟨m, s, rfl, hs, by rw [← RS.cnt_st]; exact root_cnt h hs.is, hn80⟩
section
variable {P : List Int} {n c : Nat} {A : Option Addr} {w : World}
theorem errSame {q : Nat} (h0 : q ≠ 0) (hE : ErrT w) (V : World) (hV : Below w.heap.size w V) : Calls Tryd.prog 23 #[.iface 61 (.int .i64 q), .int .i64 q] V fun e w' => e = .returned (.bool true) ∧ Below V.heap.size V w' := by
  have := Error_is q q true V (hE.next hV) (by simp)
  rw [errVal_pos h0] at this
  exact this
theorem errNil (hE : ErrT w) (V : World) (hV : Below w.heap.size w V) : Calls Tryd.prog 23 #[.nilIface, .int .i64 0] V fun e w' => e = .returned (.bool true) ∧ Below V.heap.size V w' :=
  (Error_is 0 0 true V (hE.next hV) (by simp) : _)
theorem nodesNil (V : World) : NodesAt V none [] 0 := ⟨IntsAt.nil, rfl, by decide⟩
set_option maxHeartbeats 4000000 in
theorem SY_bad {k : Int} {q : Nat} (hE : ErrT w) (h : NodesAt w A P n) (hq : sliceCode P n k = q) (h0 : q ≠ 0) :
    Calls Tryd.prog 4 #[.slice A n c, .int .i64 k] w fun e w' => e = .returned (.bool true) ∧ Below w.heap.size w w' := by
  have CP := RProg_any (c := c) h
  have C1 := Lib.hid (fun V (hV : Below w.heap.size w V) => Cut_bad (c := c) (h.below (B := 0) hV) hq h0)
  have C2 := Lib.hid (fun V (hV : Below w.heap.size w V) => Needs_bad (c := c) (h.below (B := 0) hV) hq h0)
  have CE := Lib.hid (errSame h0 hE)
  have CN := Lib.hid (fun V : World => Nodes_same (c := 0) (d := 0) (nodesNil V) (nodesNil V))
  have dq : ((q : Int) == 0) = false := by simp; omega
  unfold sliceCode at hq
  by_cases hc : progCode P n = 0
  · rw [if_pos hc] at hq
    rw [hc] at CP
    have CP := Lib.hid CP
    by_cases hk : 0 ≤ k ∧ k ≤ 5
    · rw [if_pos hk] at hq; exact absurd hq.symm h0
    · rw [if_neg hk] at hq
      subst hq
      clear h hE
      by_cases hk0 : k < 0
      · have d1 : decide (k < 0) = true := decide_eq_true hk0
        clear hk hk0 hc h0
        go_enter Tryd.func4, Tryd.ntmps4
        go_wp2_with fail
        refine CP.out.mono ?_
        rintro e w1 ⟨rfl, hb1⟩
        go_wp2_with fail
        refine (C1.out _ hb1).mono ?_
        rintro e w2 ⟨rfl, hb2⟩
        have hb2 := hb1.trans (hb2.mono hb1.size)
        go_wp2_with fail
        refine (CE.out _ hb2).mono ?_
        rintro e w3 ⟨rfl, hb3⟩
        have hb3 := hb2.trans (hb3.mono hb2.size)
        go_wp2_with fail
        refine (CN.out _).mono ?_
        rintro e w4 ⟨rfl, z, rfl⟩
        have hb4 := belowD hb3 z
        go_wp2_with fail
        refine (C2.out _ hb4).mono ?_
        rintro e w5 ⟨rfl, hb5⟩
        have hb5 := hb4.trans (hb5.mono hb4.size)
        go_wp2_with fail
        refine (CE.out _ hb5).mono ?_
        rintro e w6 ⟨rfl, hb6⟩
        have hb6 := hb5.trans (hb6.mono hb5.size)
        go_wp2_with fail
        go_ret
        exact ⟨rfl, hb6⟩
      · have d1 : decide (k < 0) = false := decide_eq_false hk0
        have d2 : decide (k > 5) = true := decide_eq_true (by omega)
        clear hk hk0 hc h0
        go_enter Tryd.func4, Tryd.ntmps4
        go_wp2_with fail
        refine CP.out.mono ?_
        rintro e w1 ⟨rfl, hb1⟩
        go_wp2_with fail
        refine (C1.out _ hb1).mono ?_
        rintro e w2 ⟨rfl, hb2⟩
        have hb2 := hb1.trans (hb2.mono hb1.size)
        go_wp2_with fail
        refine (CE.out _ hb2).mono ?_
        rintro e w3 ⟨rfl, hb3⟩
        have hb3 := hb2.trans (hb3.mono hb2.size)
        go_wp2_with fail
        refine (CN.out _).mono ?_
        rintro e w4 ⟨rfl, z, rfl⟩
        have hb4 := belowD hb3 z
        go_wp2_with fail
        refine (C2.out _ hb4).mono ?_
        rintro e w5 ⟨rfl, hb5⟩
        have hb5 := hb4.trans (hb5.mono hb4.size)
        go_wp2_with fail
        refine (CE.out _ hb5).mono ?_
        rintro e w6 ⟨rfl, hb6⟩
        have hb6 := hb5.trans (hb6.mono hb5.size)
        go_wp2_with fail
        go_ret
        exact ⟨rfl, hb6⟩
  · rw [if_neg hc] at hq
    rw [hq] at CP
    have CP := Lib.hid CP
    clear h hE hc hq
    go_enter Tryd.func4, Tryd.ntmps4
    go_wp2_with fail
    refine CP.out.mono ?_
    rintro e w1 ⟨rfl, hb1⟩
    go_wp2_with fail
    refine (C1.out _ hb1).mono ?_
    rintro e w2 ⟨rfl, hb2⟩
    have hb2 := hb1.trans (hb2.mono hb1.size)
    go_wp2_with fail
    refine (CE.out _ hb2).mono ?_
    rintro e w3 ⟨rfl, hb3⟩
    have hb3 := hb2.trans (hb3.mono hb2.size)
    go_wp2_with fail
    refine (CN.out _).mono ?_
    rintro e w4 ⟨rfl, z, rfl⟩
    have hb4 := belowD hb3 z
    go_wp2_with fail
    refine (C2.out _ hb4).mono ?_
    rintro e w5 ⟨rfl, hb5⟩
    have hb5 := hb4.trans (hb5.mono hb4.size)
    go_wp2_with fail
    refine (CE.out _ hb5).mono ?_
    rintro e w6 ⟨rfl, hb6⟩
    have hb6 := hb5.trans (hb6.mono hb5.size)
    go_wp2_with fail
    go_ret
    exact ⟨rfl, hb6⟩
set_option maxHeartbeats 8000000 in
theorem SY_good {k u : Nat} {s : RS} (hE : ErrT w) (h : NodesAt w A P (n + 1)) (hc : progCode P (n + 1) = 0) (hs : IsRS P n s) (hcn : s.cnt ≤ n + 1) (h80 : n + 1 ≤ 80) (hk : k < 6) (hu : 2 ^ k = u) :
    Calls Tryd.prog 4 #[.slice A (n + 1) c, .int .i64 k] w fun e w' => e = .returned (.bool true) ∧ Below w.heap.size w w' := by
  have hu64 : u < 64 := by subst hu; exact Nat.pow_lt_pow_right (n := 6) (by decide) hk
  have CP := RProg_any (c := c) h
  rw [hc] at CP
  have CP := Lib.hid CP
  have CC := Lib.hid (fun V (hV : Below w.heap.size w V) => RCut_any (c := c) (h.below (B := 0) hV) hs hcn h80 hk hu)
  have CT := Lib.hid (fun V => Table_any (A := A) (c := c) h80 V)
  have CPw := Lib.hid (fun V => Pow2_any k V (by omega))
  rw [hu] at CPw
  have CA := Lib.hid (fun (W : World) (tb : Nat) (hW : Below w.heap.size w W) (htb : w.heap.size ≤ tb) (hr : RowB W tb (List.replicate (64 * (n + 1)) (-1))) => rneed_st (c0 := c) (tb := tb) (ct := 64 * (n + 1)) h rfl h80 hs.is (Nat.lt_succ_self n) W _ u (TabAt.new hr htb) hW hu64)
  have C1 := Lib.hid (fun V (hV : Below w.heap.size w V) => Cut_good (c := c) (h.below (B := 0) hV) hc hs hk hu)
  have C2 := Lib.hid (fun V (hV : Below w.heap.size w V) => Needs_good (c := c) (h.below (B := 0) hV) hc hs hk hu)
  have CE := Lib.hid (errNil hE)
  have hki : (k : Int) < 6 := by omega
  have d1 : decide ((k : Int) > 5) = false := by simp; omega
  generalize ((s.cut u).getD .skip).lay 0 = L at *
  generalize ((s.cut u).getD .skip).cnt = cn at *
  generalize (s.st.need u).1 = v at *
  generalize (s.st.need u).2 = fv at *
  clear h hE hc hs hcn hu
  go_enter Tryd.func4, Tryd.ntmps4
  go_wp2_with fail
  refine CP.out.mono ?_
  rintro e w1 ⟨rfl, hb1⟩
  go_wp2_with fail
  refine (CC.out _ hb1).mono ?_
  rintro e w2 ⟨⟨A2, c2, rfl, hA2⟩, hb2⟩
  have hb2 := hb1.trans (hb2.mono hb1.size)
  go_wp2_with fail
  refine (CT.out _).mono ?_
  rintro e w3 ⟨rfl, hr3, hb3⟩
  have hbw3 := hb2.trans (hb3.mono hb2.size)
  have C4 := Lib.hid (CA.out w3 w2.heap.size hbw3 hb2.size hr3)
  go_wp2_with fail
  refine (CPw.out _).mono ?_
  rintro e w4 ⟨rfl, rfl⟩
  go_wp2_with fail
  refine C4.out.mono ?_
  rintro e w4 ⟨rfl, T4, -, hq4⟩
  have hb24 := hq4.to_below (B := w2.heap.size) (fun b hb => Nat.le_of_eq hb.symm) hb3 hb3.size
  have HW := Lib.hid (hA2.below (B := 0) hb24)
  have HB4 := Lib.hid (hb2.trans (hb24.mono hb2.size))
  clear hb1 hb2 hb3 hbw3 hr3 hq4 hb24 hA2 C4 CA CT CPw CC CP
  go_wp2_with fail
  refine (C1.out _ HB4.out).mono ?_
  rintro e w5 ⟨⟨A5, c5, rfl, hA5⟩, hb5⟩
  have HW := Lib.hid (HW.out.below (B := 0) hb5)
  have HA := Lib.hid hA5
  have HB5 := Lib.hid (HB4.out.trans (hb5.mono HB4.out.size))
  clear hA5 hb5 HB4
  go_wp2_with fail
  refine (CE.out _ HB5.out).mono ?_
  rintro e w6 ⟨rfl, hb6⟩
  have C7 := Lib.hid (Nodes_same (c := c5) (d := c2) (HA.out.below (B := 0) hb6) (HW.out.below (B := 0) hb6))
  have HB6 := Lib.hid (HB5.out.trans (hb6.mono HB5.out.size))
  clear hb6 HB5
  go_wp2_with fail
  refine C7.out.mono ?_
  rintro e w7 ⟨rfl, z, rfl⟩
  have HB7 := Lib.hid (belowD HB6.out z)
  go_wp2_with fail
  refine (C2.out _ HB7.out).mono ?_
  rintro e w8 ⟨rfl, hb8⟩
  have HB8 := Lib.hid (HB7.out.trans (hb8.mono HB7.out.size))
  clear hb8
  go_wp2_with fail
  refine (CE.out _ HB8.out).mono ?_
  rintro e w9 ⟨rfl, hb9⟩
  have HB9 := Lib.hid (HB8.out.trans (hb9.mono HB8.out.size))
  clear hb9
  go_wp2_with fail
  go_ret
  exact ⟨rfl, HB9.out⟩
end
theorem SliceSays_walk (n : Nat) (P : List Int) (A : Option Addr) (c : Nat) {W : World} (hn : P.length = n * 5) (h : IntsAt W A P) (s0 : n * 5 < 2 ^ 47) (b0 : ∀ x ∈ P, I64 x) (k : Int) (hk : I64 k)
    (w : World) (hw : w = W) (hE : ErrT W) :
    Calls Tryd.prog 4 #[.slice A n c, .int .i64 k] w fun e w' => e = .returned (.bool true) ∧ Below W.heap.size W w' := by
  subst hw
  have hA : NodesAt w A P n := ⟨h, hn, by omega⟩
  obtain ⟨q, hq⟩ : ∃ q, sliceCode P n k = q := ⟨_, rfl⟩
  by_cases hne : q = 0
  · subst hne
    unfold sliceCode at hq
    split at hq
    · rename_i hc
      split at hq
      · rename_i hk6
        obtain ⟨k', rfl⟩ : ∃ k' : Nat, k = k' := ⟨k.toNat, by omega⟩
        obtain ⟨m, s, rfl, hs, hcn, h80⟩ := raw_of2 hc
        exact SY_good hE hA hc hs hcn h80 (by omega) rfl
      · cases hq
    · rename_i hc; exact absurd hq hc
  · exact SY_bad hE hA hq hne
end Go.Proofs.YtdgncngkalgknaaDoor
