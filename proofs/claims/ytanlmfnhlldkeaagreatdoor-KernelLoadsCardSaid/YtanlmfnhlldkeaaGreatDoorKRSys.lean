/-
  Contracts: quietwingref5.in, op, System.
-/
import Derived.Test.YtanlmfnhlldkeaaGreatDoorKerB
import Derived.Test.YtanlmfnhlldkeaaGreatDoorLoopA
namespace Go.Proofs.YtanlmfnhlldkeaaGreatDoor
open Go.RowKit
set_option maxRecDepth 100000
set_option linter.unusedVariables false

theorem In5_is (n lo hi : Int) (b : Bool) (w : World) (hb : decide (lo ≤ n ∧ n ≤ hi) = b) :
    Calls Tryz.prog 24 #[.int .i64 n, .int .i64 lo, .int .i64 hi] w fun e w' => e = .returned (.bool b) ∧ w = w' := by
  subst hb
  by_cases h0 : lo ≤ n
  · go_enter Tryz.func24, Tryz.ntmps24
    go_wp2
    go_ret
    exact ⟨ret_bool (by simp [h0]), rfl⟩
  · go_enter Tryz.func24, Tryz.ntmps24
    go_wp2
    go_ret
    exact ⟨ret_bool (by simp; omega), rfl⟩

set_option maxHeartbeats 8000000 in
theorem ROp_any {ok : Nat → Prop} {w : World} {Ap Ao At : Option Addr} {P : List Int} {q n m cp co ct : Nat} (hP : IntsIn ok w Ao P) (hl : P.length = q * 2) (hq : q ≤ maxLen) (part : Nat) (k a b : Int) :
    Calls Tryz.prog 25 #[.agg #[.slice Ap n cp, .slice Ao q co, .slice At m ct], .int .i64 part, .agg #[.int .i64 k, .int .i64 a, .int .i64 b]] w
      fun e w' => e = .returned (.int .i64 (opCode P q part k a b)) ∧ Below w.heap.size w w' := by
  have Hcode := Lib.hid (opCode_eq P q part k a b)
  have HR := Lib.hid (fun (n : Int) (V : World) => In5_is n 0 3 (okReg n) V rfl)
  have hB := Lib.hid (two_boxes w (Obj.cells #[.slice Ap n cp, .slice Ao q co, .slice At m ct] 26) (Obj.cells #[.int .i64 k, .int .i64 a, .int .i64 b] 58))
  have hq2 : q ≤ 9223372036854775807 := by unfold maxLen at hq; omega
  by_cases h0 : k = 0
  · subst h0
    have Hok := Lib.hid (show opOk q 0 a b = (okReg a && decide (0 ≤ b ∧ b ≤ 999999)) from rfl)
    have Hbd := Lib.hid (show opBad P part 0 b = false by unfold opBad; simp)
    have K := Lib.hid (fun V => In5_is 0 0 5 true V (by decide))
    have R := Lib.hid (fun V => HR.out a V)
    have W := Lib.hid (fun V => In5_is b 0 999999 _ V rfl)
    clear HR hP
    generalize okReg a = r0 at *
    generalize decide (0 ≤ b ∧ b ≤ 999999) = s at *
    cases r0 <;> cases s <;>
    · have Hc := Hcode.out
      rw [Hok.out, Hbd.out] at Hc
      have Hc := Lib.hid Hc
      clear Hcode Hok Hbd
      go_enter Tryz.func25, Tryz.ntmps25
      go_wp2_with (first | (go_at_call 24; with_reducible refine (K.out _).mono ?_; rintro e w' ⟨rfl, rfl⟩) | (go_at_call 24; with_reducible refine (R.out _).mono ?_; rintro e w' ⟨rfl, rfl⟩) | (go_at_call 24; with_reducible refine (W.out _).mono ?_; rintro e w' ⟨rfl, rfl⟩))
      go_ret
      exact ⟨by rw [Hc.out]; rfl, hB.out⟩
  by_cases h1 : k = 1
  · subst h1
    have Hok := Lib.hid (show opOk q 1 a b = (okReg a && okReg b) from rfl)
    have Hbd := Lib.hid (show opBad P part 1 b = false by unfold opBad; simp)
    have K := Lib.hid (fun V => In5_is 1 0 5 true V (by decide))
    have R := Lib.hid (fun V => HR.out a V)
    have R2 := Lib.hid (fun V => HR.out b V)
    clear HR hP
    generalize okReg a = r0 at *
    generalize okReg b = r1 at *
    cases r0 <;> cases r1 <;>
    · have Hc := Hcode.out
      rw [Hok.out, Hbd.out] at Hc
      have Hc := Lib.hid Hc
      clear Hcode Hok Hbd
      go_enter Tryz.func25, Tryz.ntmps25
      go_wp2_with (first | (go_at_call 24; with_reducible refine (K.out _).mono ?_; rintro e w' ⟨rfl, rfl⟩) | (go_at_call 24; with_reducible refine (R.out _).mono ?_; rintro e w' ⟨rfl, rfl⟩) | (go_at_call 24; with_reducible refine (R2.out _).mono ?_; rintro e w' ⟨rfl, rfl⟩))
      go_ret
      exact ⟨by rw [Hc.out]; rfl, hB.out⟩
  by_cases h4 : k = 4
  · subst h4
    have Hok := Lib.hid (show opOk q 4 a b = (decide (0 ≤ a ∧ a ≤ 12) && okReg b) from rfl)
    have Hbd := Lib.hid (show opBad P part 4 b = false by unfold opBad; simp)
    have K := Lib.hid (fun V => In5_is 4 0 5 true V (by decide))
    have R := Lib.hid (fun V => HR.out b V)
    have W := Lib.hid (fun V => In5_is a 0 12 _ V rfl)
    clear HR hP
    generalize okReg b = r0 at *
    generalize decide (0 ≤ a ∧ a ≤ 12) = s at *
    cases r0 <;> cases s <;>
    · have Hc := Hcode.out
      rw [Hok.out, Hbd.out] at Hc
      have Hc := Lib.hid Hc
      clear Hcode Hok Hbd
      go_enter Tryz.func25, Tryz.ntmps25
      go_wp2_with (first | (go_at_call 24; with_reducible refine (K.out _).mono ?_; rintro e w' ⟨rfl, rfl⟩) | (go_at_call 24; with_reducible refine (R.out _).mono ?_; rintro e w' ⟨rfl, rfl⟩) | (go_at_call 24; with_reducible refine (W.out _).mono ?_; rintro e w' ⟨rfl, rfl⟩))
      go_ret
      exact ⟨by rw [Hc.out]; rfl, hB.out⟩
  by_cases h5 : k = 5
  · subst h5
    have Hok := Lib.hid (show opOk q 5 a b = okReg a from rfl)
    have Hbd := Lib.hid (show opBad P part 5 b = false by unfold opBad; simp)
    have K := Lib.hid (fun V => In5_is 5 0 5 true V (by decide))
    have R := Lib.hid (fun V => HR.out a V)
    clear HR hP
    generalize okReg a = r0 at *
    cases r0 <;>
    · have Hc := Hcode.out
      rw [Hok.out, Hbd.out] at Hc
      have Hc := Lib.hid Hc
      clear Hcode Hok Hbd
      go_enter Tryz.func25, Tryz.ntmps25
      go_wp2_with (first | (go_at_call 24; with_reducible refine (K.out _).mono ?_; rintro e w' ⟨rfl, rfl⟩) | (go_at_call 24; with_reducible refine (R.out _).mono ?_; rintro e w' ⟨rfl, rfl⟩))
      go_ret
      exact ⟨by rw [Hc.out]; rfl, hB.out⟩
  by_cases h2 : k = 2
  · subst h2
    have Hok := Lib.hid (show opOk q 2 a b = (okReg a && decide (0 ≤ b ∧ b ≤ (q : Int) - 1)) from rfl)
    have K := Lib.hid (fun V => In5_is 2 0 5 true V (by decide))
    have R := Lib.hid (fun V => HR.out a V)
    have W := Lib.hid (fun V => In5_is b 0 ((q : Int) - 1) _ V rfl)
    by_cases hb : 0 ≤ b ∧ b ≤ (q : Int) - 1
    · obtain ⟨j, rfl⟩ := Int.eq_ofNat_of_zero_le hb.1
      have hj : j < q := by omega
      have ds : decide (0 ≤ (j : Int) ∧ (j : Int) ≤ (q : Int) - 1) = true := decide_eq_true hb
      rw [ds] at W
      have Hok2 := Hok.out
      rw [ds] at Hok2
      have Hok := Lib.hid Hok2
      obtain ⟨bb, off, rfl, c0, c1⟩ := port_cells hP hl hj
      have c0 := cell_lift2 c0 (Obj.cells #[.slice Ap n cp, .slice (some ⟨bb, off, none⟩) q co, .slice At m ct] 26) (Obj.cells #[.int .i64 2, .int .i64 a, .int .i64 (j : Nat)] 58)
      have c1 := cell_lift2 c1 (Obj.cells #[.slice Ap n cp, .slice (some ⟨bb, off, none⟩) q co, .slice At m ct] 26) (Obj.cells #[.int .i64 2, .int .i64 a, .int .i64 (j : Nat)] 58)
      have Hbd := Lib.hid (show opBad P part 2 (j : Int) = decide (nI P (2 * j) ≠ part) by unfold opBad; rw [Int.toNat_natCast]; simp)
      generalize nI P (2 * j) = x0 at *
      generalize nI P (2 * j + 1) = x1 at *
      have hjq : (j : Int) < q := by omega
      clear HR hP ds hb Hok2
      generalize okReg a = r at *
      by_cases hx : x0 = part
      · have dx : (x0 != (part : Int)) = false := by simpa using hx
        have Hbd2 := Hbd.out
        rw [show decide (x0 ≠ (part : Int)) = false by simpa using hx] at Hbd2
        clear hx
        cases r <;>
        · have Hc := Hcode.out
          rw [Hok.out, Hbd2] at Hc
          have Hc := Lib.hid Hc
          clear Hcode Hok Hbd Hbd2
          go_enter Tryz.func25, Tryz.ntmps25
          go_wp2_with (first | (go_at_call 24; with_reducible refine (K.out _).mono ?_; rintro e w' ⟨rfl, rfl⟩) | (go_at_call 24; with_reducible refine (R.out _).mono ?_; rintro e w' ⟨rfl, rfl⟩) | (go_at_call 24; with_reducible refine (W.out _).mono ?_; rintro e w' ⟨rfl, rfl⟩))
          go_ret
          exact ⟨by rw [Hc.out]; rfl, hB.out⟩
      · have dx : (x0 != (part : Int)) = true := by simpa using hx
        have Hbd2 := Hbd.out
        rw [show decide (x0 ≠ (part : Int)) = true by simpa using hx] at Hbd2
        clear hx
        cases r <;>
        · have Hc := Hcode.out
          rw [Hok.out, Hbd2] at Hc
          have Hc := Lib.hid Hc
          clear Hcode Hok Hbd Hbd2
          go_enter Tryz.func25, Tryz.ntmps25
          go_wp2_with (first | (go_at_call 24; with_reducible refine (K.out _).mono ?_; rintro e w' ⟨rfl, rfl⟩) | (go_at_call 24; with_reducible refine (R.out _).mono ?_; rintro e w' ⟨rfl, rfl⟩) | (go_at_call 24; with_reducible refine (W.out _).mono ?_; rintro e w' ⟨rfl, rfl⟩))
          go_ret
          exact ⟨by rw [Hc.out]; rfl, hB.out⟩
    · have ds : decide (0 ≤ b ∧ b ≤ (q : Int) - 1) = false := decide_eq_false hb
      rw [ds] at W
      have Hc := Hcode.out
      rw [Hok.out, ds, Bool.and_false, if_pos rfl] at Hc
      have Hc := Lib.hid Hc
      clear HR hP ds hb Hok Hcode
      generalize okReg a = r at *
      cases r <;>
      · go_enter Tryz.func25, Tryz.ntmps25
        go_wp2_with (first | (go_at_call 24; with_reducible refine (K.out _).mono ?_; rintro e w' ⟨rfl, rfl⟩) | (go_at_call 24; with_reducible refine (R.out _).mono ?_; rintro e w' ⟨rfl, rfl⟩) | (go_at_call 24; with_reducible refine (W.out _).mono ?_; rintro e w' ⟨rfl, rfl⟩))
        go_ret
        exact ⟨by rw [Hc.out]; rfl, hB.out⟩
  by_cases h3 : k = 3
  · subst h3
    have Hok := Lib.hid (show opOk q 3 a b = (okReg a && decide (0 ≤ b ∧ b ≤ (q : Int) - 1)) from rfl)
    have K := Lib.hid (fun V => In5_is 3 0 5 true V (by decide))
    have R := Lib.hid (fun V => HR.out a V)
    have W := Lib.hid (fun V => In5_is b 0 ((q : Int) - 1) _ V rfl)
    by_cases hb : 0 ≤ b ∧ b ≤ (q : Int) - 1
    · obtain ⟨j, rfl⟩ := Int.eq_ofNat_of_zero_le hb.1
      have hj : j < q := by omega
      have ds : decide (0 ≤ (j : Int) ∧ (j : Int) ≤ (q : Int) - 1) = true := decide_eq_true hb
      rw [ds] at W
      have Hok2 := Hok.out
      rw [ds] at Hok2
      have Hok := Lib.hid Hok2
      obtain ⟨bb, off, rfl, c0, c1⟩ := port_cells hP hl hj
      have c0 := cell_lift2 c0 (Obj.cells #[.slice Ap n cp, .slice (some ⟨bb, off, none⟩) q co, .slice At m ct] 26) (Obj.cells #[.int .i64 3, .int .i64 a, .int .i64 (j : Nat)] 58)
      have c1 := cell_lift2 c1 (Obj.cells #[.slice Ap n cp, .slice (some ⟨bb, off, none⟩) q co, .slice At m ct] 26) (Obj.cells #[.int .i64 3, .int .i64 a, .int .i64 (j : Nat)] 58)
      have Hbd := Lib.hid (show opBad P part 3 (j : Int) = decide (nI P (2 * j + 1) ≠ part) by unfold opBad; rw [Int.toNat_natCast]; simp)
      generalize nI P (2 * j) = x0 at *
      generalize nI P (2 * j + 1) = x1 at *
      have hjq : (j : Int) < q := by omega
      clear HR hP ds hb Hok2
      generalize okReg a = r at *
      by_cases hx : x1 = part
      · have dx : (x1 != (part : Int)) = false := by simpa using hx
        have Hbd2 := Hbd.out
        rw [show decide (x1 ≠ (part : Int)) = false by simpa using hx] at Hbd2
        clear hx
        cases r <;>
        · have Hc := Hcode.out
          rw [Hok.out, Hbd2] at Hc
          have Hc := Lib.hid Hc
          clear Hcode Hok Hbd Hbd2
          go_enter Tryz.func25, Tryz.ntmps25
          go_wp2_with (first | (go_at_call 24; with_reducible refine (K.out _).mono ?_; rintro e w' ⟨rfl, rfl⟩) | (go_at_call 24; with_reducible refine (R.out _).mono ?_; rintro e w' ⟨rfl, rfl⟩) | (go_at_call 24; with_reducible refine (W.out _).mono ?_; rintro e w' ⟨rfl, rfl⟩))
          go_ret
          exact ⟨by rw [Hc.out]; rfl, hB.out⟩
      · have dx : (x1 != (part : Int)) = true := by simpa using hx
        have Hbd2 := Hbd.out
        rw [show decide (x1 ≠ (part : Int)) = true by simpa using hx] at Hbd2
        clear hx
        cases r <;>
        · have Hc := Hcode.out
          rw [Hok.out, Hbd2] at Hc
          have Hc := Lib.hid Hc
          clear Hcode Hok Hbd Hbd2
          go_enter Tryz.func25, Tryz.ntmps25
          go_wp2_with (first | (go_at_call 24; with_reducible refine (K.out _).mono ?_; rintro e w' ⟨rfl, rfl⟩) | (go_at_call 24; with_reducible refine (R.out _).mono ?_; rintro e w' ⟨rfl, rfl⟩) | (go_at_call 24; with_reducible refine (W.out _).mono ?_; rintro e w' ⟨rfl, rfl⟩))
          go_ret
          exact ⟨by rw [Hc.out]; rfl, hB.out⟩
    · have ds : decide (0 ≤ b ∧ b ≤ (q : Int) - 1) = false := decide_eq_false hb
      rw [ds] at W
      have Hc := Hcode.out
      rw [Hok.out, ds, Bool.and_false, if_pos rfl] at Hc
      have Hc := Lib.hid Hc
      clear HR hP ds hb Hok Hcode
      generalize okReg a = r at *
      cases r <;>
      · go_enter Tryz.func25, Tryz.ntmps25
        go_wp2_with (first | (go_at_call 24; with_reducible refine (K.out _).mono ?_; rintro e w' ⟨rfl, rfl⟩) | (go_at_call 24; with_reducible refine (R.out _).mono ?_; rintro e w' ⟨rfl, rfl⟩) | (go_at_call 24; with_reducible refine (W.out _).mono ?_; rintro e w' ⟨rfl, rfl⟩))
        go_ret
        exact ⟨by rw [Hc.out]; rfl, hB.out⟩
  have K := Lib.hid (fun V => In5_is k 0 5 false V (decide_eq_false (by omega)))
  have Hok : opOk q k a b = false := by unfold opOk; rw [if_neg h0, if_neg h1, if_neg (by omega), if_neg h4, if_neg h5]
  have Hc := Hcode.out
  rw [Hok, if_pos rfl] at Hc
  have Hc := Lib.hid Hc
  clear Hcode Hok HR hP h0 h1 h2 h3 h4 h5
  go_enter Tryz.func25, Tryz.ntmps25
  go_wp2_with (first | (go_at_call 24; with_reducible refine (K.out _).mono ?_; rintro e w' ⟨rfl, rfl⟩))
  go_ret
  exact ⟨by rw [Hc.out]; rfl, hB.out⟩

set_option maxHeartbeats 8000000 in
theorem RSystem_any {ok : Nat → Prop} {w : World} {Ap Ao At : Option Addr} {L : List (List Int)} {P T : List Int} {q n m cp co ct : Nat} (hL : RowsIn ok 3 w Ap L) (hP : IntsIn ok w Ao P) (hl : P.length = q * 2) (hT : IntsIn ok w At T)
    (hn : L.length = n) (hm : T.length = m) (nm : n ≤ maxLen) (hq : q ≤ maxLen) (tm : m ≤ maxLen) :
    Calls Tryz.prog 9 #[.agg #[.slice Ap n cp, .slice Ao q co, .slice At m ct]] w
      fun e w' => e = .returned (.int .i64 (sysCode L P q T)) ∧ Below w.heap.size w w' := by
  have hB0 := (Below.refl w.heap.size w).alloc (Nat.le_refl _) (Obj.cells #[.slice Ap n cp, .slice Ao q co, .slice At m ct] 26)
  have nm2 : n ≤ 9223372036854775807 := by unfold maxLen at nm; omega
  have qm2 : q ≤ 9223372036854775807 := by unfold maxLen at hq; omega
  have tm2 : m ≤ 9223372036854775807 := by unfold maxLen at tm; omega
  by_cases h1 : n = 0 ∨ m = 0
  · have Hr := Lib.hid (show sysCode L P q T = 5 by unfold sysCode; dsimp only; rw [if_pos (by rw [hn, hm]; exact h1)])
    have HB := Lib.hid hB0
    clear hL hP hT hB0
    by_cases h0 : n = 0
    · subst h0
      go_enter Tryz.func9, Tryz.ntmps9
      go_wp2_with fail
      go_ret
      exact ⟨by rw [Hr.out]; rfl, HB.out⟩
    · have hm0 : m = 0 := by omega
      subst hm0
      have d0 : ((n : Int) == 0) = false := by simp; omega
      clear h1 h0
      go_enter Tryz.func9, Tryz.ntmps9
      go_wp2_with fail
      go_ret
      exact ⟨by rw [Hr.out]; rfl, HB.out⟩
  have d0 : ((n : Int) == 0) = false := by simp; omega
  have d1 : ((m : Int) == 0) = false := by simp; omega
  by_cases h2 : 5 < n ∨ 6 < q ∨ 12 < m
  · have Hr := Lib.hid (show sysCode L P q T = 4 by unfold sysCode; dsimp only; rw [if_neg (by rw [hn, hm]; exact h1), if_pos (by rw [hn, hm]; exact h2)])
    have HB := Lib.hid hB0
    clear hL hP hT hB0 h1
    by_cases h5 : 5 < n
    · have e1 : decide ((n : Int) > 5) = true := by simp; omega
      clear h2 h5
      go_enter Tryz.func9, Tryz.ntmps9
      go_wp2_with fail
      go_ret
      exact ⟨by rw [Hr.out]; rfl, HB.out⟩
    have e1 : decide ((n : Int) > 5) = false := by simp; omega
    by_cases h6 : 6 < q
    · have e2 : decide ((q : Int) > 6) = true := by simp; omega
      clear h2 h5 h6
      go_enter Tryz.func9, Tryz.ntmps9
      go_wp2_with fail
      go_ret
      exact ⟨by rw [Hr.out]; rfl, HB.out⟩
    · have e2 : decide ((q : Int) > 6) = false := by simp; omega
      have e3 : decide ((m : Int) > 12) = true := by simp; omega
      clear h2 h5 h6
      go_enter Tryz.func9, Tryz.ntmps9
      go_wp2_with fail
      go_ret
      exact ⟨by rw [Hr.out]; rfl, HB.out⟩
  have e1 : decide ((n : Int) > 5) = false := by simp; omega
  have e2 : decide ((q : Int) > 6) = false := by simp; omega
  have e3 : decide ((m : Int) > 12) = false := by simp; omega
  have Hc := Lib.hid (sysCode_rest (L := L) (P := P) (q := q) (T := T) (by rw [hn, hm]; exact h1) (by rw [hn, hm]; exact h2))
  have hbx := BoxN.new w 26 #[.slice Ap n cp, .slice Ao q co, .slice At m ct]
  have bn : 1 ≤ n ∧ n ≤ 5 := by omega
  have bm : 1 ≤ m ∧ m ≤ 12 := by omega
  have bq : q ≤ 6 := by omega
  clear h1 h2 nm2 qm2 tm2
  go_enter Tryz.func9, Tryz.ntmps9
  go_wp2_with fail
  go_loopw [4] (fun i wr => ∃ k : Nat, k ≤ q ∧ i = .int .i64 k ∧ Hid (firstC (portF P L.length) q 0 = firstC (portF P L.length) (q - k) k) ∧ Below w.heap.size w wr ∧ BoxN wr w.heap.size 26 #[.slice Ap n cp, .slice Ao q co, .slice At m ct]) (fun i _ => q - (intOf i).toNat)
  case atStart => exact ⟨0, Nat.zero_le _, rfl, Lib.hid rfl, hB0, hbx⟩
  case round =>
    clear hB0 hbx
    obtain ⟨k, hk, rfl, hfc, hbr, hbx⟩ := hrel
    have s1 := hbx.cell (k := 1) rfl
    have s2 := hbx.cell (k := 2) rfl
    by_cases hlt : k < q
    · obtain ⟨b, off, rfl, c0, c1⟩ := port_cells (hP.below hbr) hl hlt
      have hpc : portF P L.length k = portCode n (nI P (2 * k)) (nI P (2 * k + 1)) := by unfold portF; rw [hn]
      generalize nI P (2 * k) = x0 at *
      generalize nI P (2 * k + 1) = x1 at *
      have HF := Lib.hid (fun (hne : portCode n x0 x1 ≠ 0) => show sysCode L P q T = portCode n x0 x1 by
        rw [Hc.out, hfc.out, firstC_bad hlt (by rw [hpc]; exact hne), hpc, if_pos hne])
      have HG := Lib.hid (fun (he : portCode n x0 x1 = 0) => show firstC (portF P L.length) q 0 = firstC (portF P L.length) (q - (k + 1)) (k + 1) by
        rw [hfc.out, firstC_next hlt (by rw [hpc]; exact he)])
      have hkq : (k : Int) < (q : Int) := by omega
      have hk0 : (0 : Int) ≤ (k : Int) := by omega
      clear hfc hpc
      by_cases hx0 : 0 ≤ x0 ∧ x0 ≤ (n : Int) - 1
      · have W0 := Lib.hid (fun V => In5_is x0 0 ((n : Int) - 1) true V (decide_eq_true hx0))
        by_cases hx1 : 0 ≤ x1 ∧ x1 ≤ (n : Int) - 1
        · have W1 := Lib.hid (fun V => In5_is x1 0 ((n : Int) - 1) true V (decide_eq_true hx1))
          by_cases he : x0 = x1
          · have dx : (x0 == x1) = true := by simpa using he
            have Hr := Lib.hid (show sysCode L P q T = 6 by
              have h6 : portCode n x0 x1 = 6 := by unfold portCode; rw [if_neg (by omega), if_pos he]
              rw [HF.out (by rw [h6]; decide), h6])
            clear HF HG hx0 hx1 he
            go_wp2_with (first | (with_reducible refine (W0.out _).mono ?_; rintro e w' ⟨rfl, rfl⟩) | (with_reducible refine (W1.out _).mono ?_; rintro e w' ⟨rfl, rfl⟩))
            go_quiet (fail)
            go_wp2_with fail
            go_ret
            exact ⟨by rw [Hr.out]; rfl, belowD hbr _⟩
          · have dx : (x0 == x1) = false := by simpa using he
            have Hn := Lib.hid (HG.out (by unfold portCode; rw [if_neg (by omega), if_neg he]))
            clear HF HG hx0 hx1 he
            go_wp2_with (first | (with_reducible refine (W0.out _).mono ?_; rintro e w' ⟨rfl, rfl⟩) | (with_reducible refine (W1.out _).mono ?_; rintro e w' ⟨rfl, rfl⟩))
            go_quiet (fail)
            go_wp2_with fail
            refine ⟨⟨k + 1, ?ya, ?yb, Hn, belowD hbr _, hbx.drewN _⟩, ?yd⟩
            case ya => omega
            case yb => go_num
            case yd => simp [intOf]; omega
        · have W1 := Lib.hid (fun V => In5_is x1 0 ((n : Int) - 1) false V (decide_eq_false hx1))
          have Hr := Lib.hid (show sysCode L P q T = 1 by
            have h6 : portCode n x0 x1 = 1 := by unfold portCode; rw [if_pos (.inr hx1)]
            rw [HF.out (by rw [h6]; decide), h6])
          clear HF HG hx0 hx1
          go_wp2_with (first | (with_reducible refine (W0.out _).mono ?_; rintro e w' ⟨rfl, rfl⟩) | (with_reducible refine (W1.out _).mono ?_; rintro e w' ⟨rfl, rfl⟩))
          go_ret
          exact ⟨by rw [Hr.out]; rfl, hbr⟩
      · have W0 := Lib.hid (fun V => In5_is x0 0 ((n : Int) - 1) false V (decide_eq_false hx0))
        have Hr := Lib.hid (show sysCode L P q T = 1 by
          have h6 : portCode n x0 x1 = 1 := by unfold portCode; rw [if_pos (.inl hx0)]
          rw [HF.out (by rw [h6]; decide), h6])
        clear HF HG hx0
        go_wp2_with (with_reducible refine (W0.out _).mono ?_; rintro e w' ⟨rfl, rfl⟩)
        go_ret
        exact ⟨by rw [Hr.out]; rfl, hbr⟩
    · obtain rfl : k = q := by omega
      have Hc2 := Lib.hid (show sysCode L P k T = if firstC (turnF T L.length) T.length 0 ≠ 0 then firstC (turnF T L.length) T.length 0 else firstC (rowF L P k) L.length 0 by
        rw [Hc.out, if_neg (by rw [hfc.out, firstC_end]; exact fun h => h rfl)])
      have dkk : decide ((k : Int) < (k : Int)) = false := by simp
      clear Hc hfc
      go_wp2_with fail
      go_loopw [5] (fun i wt => ∃ k2 : Nat, k2 ≤ m ∧ i = .int .i64 k2 ∧ Hid (firstC (turnF T L.length) T.length 0 = firstC (turnF T L.length) (T.length - k2) k2) ∧ Below w.heap.size w wt ∧ BoxN wt w.heap.size 26 #[.slice Ap n cp, .slice Ao k co, .slice At m ct]) (fun i _ => m - (intOf i).toNat)
      case atStart => exact ⟨0, Nat.zero_le _, rfl, Lib.hid rfl, hbr, hbx⟩
      case round =>
        clear hbr hbx s1 s2 dkk
        obtain ⟨wt, rfl⟩ : ∃ wt : World, wt = wr := ⟨_, rfl⟩
        obtain ⟨k2, hk2, rfl, hfc, hbr, hbx⟩ := hrel
        have s2 := hbx.cell (k := 2) rfl
        by_cases hlt : k2 < m
        · obtain ⟨b, off, rfl, c0⟩ := turn_cell (hT.below hbr) (i := k2) (by omega)
          have hpc : turnF T L.length k2 = turnCode n (nI T k2) := by unfold turnF; rw [hn]
          generalize nI T k2 = x0 at *
          by_cases hx0 : 0 ≤ x0 ∧ x0 ≤ (n : Int) - 1
          · have W0 := Lib.hid (fun V => In5_is x0 0 ((n : Int) - 1) true V (decide_eq_true hx0))
            have Hn := Lib.hid (show firstC (turnF T L.length) T.length 0 = firstC (turnF T L.length) (T.length - (k2 + 1)) (k2 + 1) by
              rw [hfc.out, firstC_next (by omega) (by rw [hpc]; unfold turnCode; rw [if_neg (fun h => h hx0)])])
            clear hfc hpc hx0
            go_wp2_with (with_reducible refine (W0.out _).mono ?_; rintro e w' ⟨rfl, rfl⟩)
            refine ⟨⟨k2 + 1, ?ya, ?yb, Hn, hbr, hbx⟩, ?yd⟩
            case ya => omega
            case yb => go_num
            case yd => simp [intOf]; omega
          · have W0 := Lib.hid (fun V => In5_is x0 0 ((n : Int) - 1) false V (decide_eq_false hx0))
            have Hr := Lib.hid (show sysCode L P k T = 1 by
              have h6 : turnF T L.length k2 = 1 := by rw [hpc]; unfold turnCode; rw [if_pos hx0]
              rw [Hc2.out, hfc.out, firstC_bad (by omega) (by rw [h6]; decide), h6, if_pos (by decide)])
            clear hfc hpc hx0
            go_wp2_with (with_reducible refine (W0.out _).mono ?_; rintro e w' ⟨rfl, rfl⟩)
            go_ret
            exact ⟨by rw [Hr.out]; rfl, hbr⟩
        · obtain rfl : k2 = m := by omega
          have Hc3 := Lib.hid (show sysCode L P k T = firstC (rowF L P k) L.length 0 by
            rw [Hc2.out, if_neg (by rw [hfc.out, hm, firstC_end]; exact fun h => h rfl)])
          have dkk : decide ((k2 : Int) < (k2 : Int)) = false := by simp
          clear Hc2 hfc
          go_wp2_with fail
          go_loopw [6] (fun i wp => ∃ k3 : Nat, k3 ≤ n ∧ i = .int .i64 k3 ∧ Hid (firstC (rowF L P k) L.length 0 = firstC (rowF L P k) (L.length - k3) k3) ∧ Below w.heap.size w wp ∧ BoxN wp w.heap.size 26 #[.slice Ap n cp, .slice Ao k co, .slice At k2 ct]) (fun i _ => n - (intOf i).toNat)
          case atStart => exact ⟨0, Nat.zero_le _, rfl, Lib.hid rfl, hbr, hbx⟩
          case round =>
            clear hbr hbx s2 dkk
            obtain ⟨wp, rfl⟩ : ∃ wp : World, wp = wr := ⟨_, rfl⟩
            obtain ⟨k3, hk3, rfl, hfc, hbr, hbx⟩ := hrel
            have s0 := hbx.cell (k := 0) rfl
            by_cases hlt : k3 < n
            · obtain ⟨b, off, Ai, ni, ci, rfl, c0, hli, hni, hi⟩ := (hL.below hbr).get (i := k3) (by omega)
              have ni2 : ni ≤ 9223372036854775807 := by unfold maxLen at hni; omega
              have hrow := rowF_eq (P := P) (q := k) (L := L) (i := k3) rfl hli
              have hkn : (k3 : Int) < (n : Int) := by omega
              have hk0 : (0 : Int) ≤ (k3 : Int) := by omega
              generalize L.getD k3 [] = l at *
              by_cases h12 : 12 < ni
              · have e4 : decide ((ni : Int) > 12) = true := by simp; omega
                have Hr := Lib.hid (show sysCode L P k T = 4 by
                  have h6 : rowF L P k k3 = 4 := by rw [hrow, if_pos h12]
                  rw [Hc3.out, hfc.out, firstC_bad (by omega) (by rw [h6]; decide), h6])
                clear hfc hrow h12 hi
                go_wp2_with fail
                go_ret
                exact ⟨by rw [Hr.out]; rfl, hbr⟩
              · have e4 : decide ((ni : Int) > 12) = false := by simp; omega
                rw [if_neg h12] at hrow
                have Hrow := Lib.hid hrow
                have HI := Lib.hid hi
                have Hsz := Lib.hid (Nat.le_refl wp.heap.size)
                obtain ⟨wz, hwz⟩ : ∃ wz : World, wz = wp := ⟨_, rfl⟩
                have hbz : Below wz.heap.size wz wp := by rw [hwz]; exact Below.refl _ _
                have HI : Hid (IntsIn ok wz Ai l) := by rw [hwz]; exact HI
                have hwz0 : Below w.heap.size w wz := by rw [hwz]; exact hbr
                have Hc0 : Hid (wz.cell? ⟨b, off + k3, none⟩ = some (.slice Ai ni ci)) := by rw [hwz]; exact Lib.hid c0
                clear hwz Hsz hi hrow
                go_wp2_with fail
                go_loopw [7] (fun i wo => ∃ j : Nat, j ≤ ni ∧ i = .int .i64 j ∧ Hid (firstC (opF P k k3 l) ni 0 = firstC (opF P k k3 l) (ni - j) j) ∧ Below wz.heap.size wz wo ∧ BoxN wo w.heap.size 26 #[.slice (some ⟨b, off, none⟩) n cp, .slice Ao k co, .slice At k2 ct]) (fun i _ => ni - (intOf i).toNat)
                case atStart => exact ⟨0, Nat.zero_le _, rfl, Lib.hid rfl, hbz, hbx⟩
                case round =>
                  clear hbr hbx hbz c0 s0
                  obtain ⟨wo, rfl⟩ : ∃ wo : World, wo = wr := ⟨_, rfl⟩
                  obtain ⟨j, hj, rfl, hfo, hbo, hbx⟩ := hrel
                  have hbr := hwz0.trans (hbo.mono hwz0.size)
                  have c0 := (hbo.cell (p := ⟨b, off + k3, none⟩) (block_lt Hc0.out)).trans Hc0.out
                  have s0 := hbx.cell (k := 0) rfl
                  by_cases hjl : j < ni
                  · obtain ⟨b3, off3, rfl, o0, o1, o2⟩ := op_cells (HI.out.below hbo) hli hjl
                    have hop : opF P k k3 l j = opCode P k k3 (nI l (3 * j)) (nI l (3 * j + 1)) (nI l (3 * j + 2)) := rfl
                    have HO := Lib.hid (fun V (hV : Below w.heap.size w V) => ROp_any (Ap := some ⟨b, off, none⟩) (At := At) (n := n) (m := k2) (cp := cp) (co := co) (ct := ct) (hP.below hV) hl hq k3 (nI l (3 * j)) (nI l (3 * j + 1)) (nI l (3 * j + 2)))
                    generalize nI l (3 * j) = x0 at *
                    generalize nI l (3 * j + 1) = x1 at *
                    generalize nI l (3 * j + 2) = x2 at *
                    have hjn : (j : Int) < (ni : Int) := by omega
                    have hj0 : (0 : Int) ≤ (j : Int) := by omega
                    have s1 := hbx.cell (k := 1) rfl
                    have s2 := hbx.cell (k := 2) rfl
                    by_cases hz : opCode P k k3 x0 x1 x2 = 0
                    · have Hn := Lib.hid (show firstC (opF P k k3 l) ni 0 = firstC (opF P k k3 l) (ni - (j + 1)) (j + 1) by
                        rw [hfo.out, firstC_next hjl (by rw [hop]; exact hz)])
                      rw [hz] at HO
                      clear hfo hop hz
                      go_wp2_with fail
                      refine wp_still_tailD 10 (by kernel_rfl) (by decide +kernel) ?_
                      simp only [List.take_succ_cons, List.take_zero, List.drop_succ_cons, List.drop_zero]
                      repeat still_step
                      refine wpStill_nil ?_
                      go_wp2_with (with_reducible refine (HO.out _ (belowD hbr 1)).mono ?_; rintro e w3 ⟨rfl, hb3⟩)
                      have hb3' := (belowD (Below.refl wo.heap.size wo) 1).trans hb3
                      refine ⟨⟨j + 1, ?ya, ?yb, Hn, ?yc, ?ye⟩, ?yd⟩
                      case ya => omega
                      case yb => go_num
                      case yc => exact hbo.trans (hb3'.mono hbo.size)
                      case ye => exact hbx.all hb3'
                      case yd => simp [intOf]; omega
                    · have Hr := Lib.hid (show sysCode L P k T = opCode P k k3 x0 x1 x2 by
                        have h6 : rowF L P k k3 = opCode P k k3 x0 x1 x2 := by rw [Hrow.out, hfo.out, firstC_bad hjl (by rw [hop]; exact hz), hop]
                        rw [Hc3.out, hfc.out, firstC_bad (by omega) (by rw [h6]; exact hz), h6])
                      generalize opCode P k k3 x0 x1 x2 = cd at *
                      have dc : ((cd : Int) != 0) = true := by simp; omega
                      have dc2 : decide (cd = 0) = false := by simpa using hz
                      clear hfo hop
                      go_wp2_with fail
                      refine wp_still_tailD 10 (by kernel_rfl) (by decide +kernel) ?_
                      simp only [List.take_succ_cons, List.take_zero, List.drop_succ_cons, List.drop_zero]
                      repeat still_step
                      refine wpStill_nil ?_
                      go_wp2_with (with_reducible refine (HO.out _ (belowD hbr 1)).mono ?_; rintro e w3 ⟨rfl, hb3⟩)
                      have hb3' := (belowD (Below.refl wo.heap.size wo) 1).trans hb3
                      go_ret
                      exact ⟨by rw [Hr.out]; rfl, hbr.trans (hb3'.mono hbr.size)⟩
                  · obtain rfl : j = ni := by omega
                    have Hn := Lib.hid (show firstC (rowF L P k) L.length 0 = firstC (rowF L P k) (L.length - (k3 + 1)) (k3 + 1) by
                      rw [hfc.out, firstC_next (by omega) (by rw [Hrow.out, hfo.out, firstC_end])])
                    have djj : decide ((j : Int) < (j : Int)) = false := by simp
                    clear hfo hfc
                    go_wp2_with fail
                    refine ⟨⟨k3 + 1, ?ya, ?yb, Hn, hbr, hbx⟩, ?yd⟩
                    case ya => omega
                    case yb => go_num
                    case yd => simp [intOf]; omega
            · obtain rfl : k3 = n := by omega
              have Hr := Lib.hid (show sysCode L P k T = 0 by rw [Hc3.out, hfc.out, hn, firstC_end])
              have dkk : decide ((k3 : Int) < (k3 : Int)) = false := by simp
              clear hfc
              go_wp2_with fail
              go_ret
              exact ⟨by rw [Hr.out]; rfl, hbr⟩

end Go.Proofs.YtanlmfnhlldkeaaGreatDoor
