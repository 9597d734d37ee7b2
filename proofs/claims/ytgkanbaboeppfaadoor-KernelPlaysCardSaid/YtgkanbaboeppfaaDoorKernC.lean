/-
  Contracts: kernel.operation.
-/
import Derived.Test.YtgkanbaboeppfaaDoorKernB
import Derived.Test.YtgkanbaboeppfaaDoorGrid
import Derived.Test.YtgkanbaboeppfaaDoorWithin
import Derived.Test.YtgkanbaboeppfaaDoorErr
import Derived.Test.YtgkanbaboeppfaaDoorOver
import Derived.Test.YtgkanbaboeppfaaDoorBox
namespace Go.Proofs.YtgkanbaboeppfaaDoor
open Go.RowKit
set_option maxRecDepth 100000
set_option linter.unusedVariables false

theorem reg_is (n : Int) (b : Bool) (w : World) (hb : okReg n = b) : Calls Tryd.prog 40 #[.int .i64 n] w fun e w' => e = .returned (.bool b) ∧ w = w' := by
  have H := Lib.hid (Within3_is n 0 3 b w hb)
  clear hb
  go_enter Tryd.func40, Tryd.ntmps40
  go_wp2_with (with_reducible refine H.out.mono ?_; rintro e w' ⟨rfl, rfl⟩)
  go_ret
  exact ⟨rfl, rfl⟩

/-- A port's two numbers, as they lie. -/
theorem port_cells {ok : Nat → Prop} {w : World} {A : Option Addr} {P : List Int} {q : Nat} (h : IntsIn ok w A P) (hl : P.length = q * 2) {i : Nat} (hi : i < q) :
    ∃ b off, A = some ⟨b, off, none⟩ ∧ w.cell? ⟨b, off + i * 2, none⟩ = some (.int .i64 (nI P (2 * i))) ∧ w.cell? ⟨b, off + i * 2 + 1, none⟩ = some (.int .i64 (nI P (2 * i + 1))) := by
  obtain ⟨b, off, e, _, hc⟩ := h (by rintro rfl; simp at hl; omega)
  have hg : ∀ j, j < P.length → P[j]? = some (nI P j) := fun j hj => by unfold nI; rw [List.getD_eq_getElem?_getD, List.getElem?_eq_getElem hj]; rfl
  refine ⟨b, off, e, ?_, ?_⟩
  · have := hc (2 * i) _ (hg _ (by omega))
    rwa [show off + 2 * i = off + i * 2 by omega] at this
  · have := hc (2 * i + 1) _ (hg _ (by omega))
    rwa [show off + (2 * i + 1) = off + i * 2 + 1 by omega] at this

theorem cell_lift2 {w : World} {b o : Nat} {v : Value} (h : w.cell? ⟨b, o, none⟩ = some v) (x y : Obj) : ((w.alloc x).alloc y).cell? ⟨b, o, none⟩ = some v := by
  have hlt := block_lt h
  exact ((((Below.refl w.heap.size w).alloc (Nat.le_refl _) x).alloc (by simp) y).cell (p := ⟨b, o, none⟩) hlt).trans h
def opBad (P : List Int) (part : Nat) (k b : Int) : Bool := decide (k = 2 ∧ nI P (2 * b.toNat) ≠ part ∨ k = 3 ∧ nI P (2 * b.toNat + 1) ≠ part)
theorem opCode_eq (P : List Int) (q part : Nat) (k a b : Int) : opCode P q part k a b = if opOk q k a b = false then 1 else if opBad P part k b = true then 7 else 0 := by
  unfold opCode opBad
  split
  · rfl
  · by_cases h : k = 2 ∧ nI P (2 * b.toNat) ≠ part ∨ k = 3 ∧ nI P (2 * b.toNat + 1) ≠ part
    · rw [if_pos h, if_pos (decide_eq_true h)]
    · rw [if_neg h, if_neg (by simpa using h)]

theorem two_boxes (w : World) (a b : Obj) : Below w.heap.size w ((w.alloc a).alloc b) := ((Below.refl _ _).alloc (Nat.le_refl _) _).alloc (by simp) _

set_option maxHeartbeats 4000000 in
theorem operation_any {ok : Nat → Prop} {w : World} {Ap Ao At : Option Addr} {P : List Int} {q n m cp co ct : Nat} (hP : IntsIn ok w Ao P) (hl : P.length = q * 2) (hq : q ≤ maxLen) (part : Nat) (k a b : Int) :
    Calls Tryd.prog 29 #[.agg #[.slice Ap n cp, .slice Ao q co, .slice At m ct], .int .i64 part, .agg #[.int .i64 k, .int .i64 a, .int .i64 b]] w
      fun e w' => e = .returned (errVal (opCode P q part k a b)) ∧ Below w.heap.size w w' := by
  have Hcode := Lib.hid (opCode_eq P q part k a b)
  have HR := Lib.hid (fun (n : Int) (V : World) => reg_is n _ V rfl)
  have HW := Lib.hid (fun (n lo hi : Int) (V : World) => Within3_any n lo hi V)
  have hB := Lib.hid (two_boxes w (Obj.cells #[.slice Ap n cp, .slice Ao q co, .slice At m ct] 26) (Obj.cells #[.int .i64 k, .int .i64 a, .int .i64 b] 72))
  have hq2 : q ≤ 9223372036854775807 := by unfold maxLen at hq; omega
  by_cases h0 : k = 0
  · subst h0
    have Hok := Lib.hid (show opOk q 0 a b = (okReg a && decide (0 ≤ b ∧ b ≤ 999999)) from rfl)
    have Hbd := Lib.hid (show opBad P part 0 b = false by unfold opBad; simp)
    have R := Lib.hid (fun V => HR.out a V)
    have W := Lib.hid (fun V => HW.out b 0 999999 V)
    clear HR HW hP
    generalize okReg a = r at *
    generalize decide (0 ≤ b ∧ b ≤ 999999) = s at *
    cases r <;> cases s <;>
    · have Hc := Hcode.out
      rw [Hok.out, Hbd.out] at Hc
      have Hc := Lib.hid Hc
      clear Hcode Hok Hbd
      go_enter Tryd.func29, Tryd.ntmps29
      go_wp2_with (first | (go_at_call 40; with_reducible refine (R.out _).mono ?_; rintro e w' ⟨rfl, rfl⟩) | (go_at_call 20; with_reducible refine (W.out _).mono ?_; rintro e w' ⟨rfl, rfl⟩))
      go_ret
      exact ⟨by rw [Hc.out]; rfl, hB.out⟩
  by_cases h1 : k = 1
  · subst h1
    have Hok := Lib.hid (show opOk q 1 a b = (okReg a && okReg b) from rfl)
    have Hbd := Lib.hid (show opBad P part 1 b = false by unfold opBad; simp)
    have R := Lib.hid (fun V => HR.out a V)
    have R2 := Lib.hid (fun V => HR.out b V)
    clear HR HW hP
    generalize okReg a = r at *
    generalize okReg b = s at *
    cases r <;> cases s <;>
    · have Hc := Hcode.out
      rw [Hok.out, Hbd.out] at Hc
      have Hc := Lib.hid Hc
      clear Hcode Hok Hbd
      go_enter Tryd.func29, Tryd.ntmps29
      go_wp2_with (first | (go_at_call 40; with_reducible refine (R.out _).mono ?_; rintro e w' ⟨rfl, rfl⟩) | (go_at_call 40; with_reducible refine (R2.out _).mono ?_; rintro e w' ⟨rfl, rfl⟩))
      go_ret
      exact ⟨by rw [Hc.out]; rfl, hB.out⟩
  by_cases h4 : k = 4
  · subst h4
    have Hok := Lib.hid (show opOk q 4 a b = (decide (0 ≤ a ∧ a ≤ 12) && okReg b) from rfl)
    have Hbd := Lib.hid (show opBad P part 4 b = false by unfold opBad; simp)
    have R0 := Lib.hid (fun V => HR.out a V)
    have R := Lib.hid (fun V => HR.out b V)
    have W := Lib.hid (fun V => HW.out a 0 12 V)
    clear HR HW hP
    generalize okReg a = r0 at *
    generalize decide (0 ≤ a ∧ a ≤ 12) = r at *
    generalize okReg b = s at *
    cases r <;> cases s <;>
    · have Hc := Hcode.out
      rw [Hok.out, Hbd.out] at Hc
      have Hc := Lib.hid Hc
      clear Hcode Hok Hbd
      go_enter Tryd.func29, Tryd.ntmps29
      go_wp2_with (first | (go_at_call 40; with_reducible refine (R0.out _).mono ?_; rintro e w' ⟨rfl, rfl⟩) | (go_at_call 40; with_reducible refine (R.out _).mono ?_; rintro e w' ⟨rfl, rfl⟩) | (go_at_call 20; with_reducible refine (W.out _).mono ?_; rintro e w' ⟨rfl, rfl⟩))
      go_ret
      exact ⟨by rw [Hc.out]; rfl, hB.out⟩
  by_cases h5 : k = 5
  · subst h5
    have Hok := Lib.hid (show opOk q 5 a b = okReg a from rfl)
    have Hbd := Lib.hid (show opBad P part 5 b = false by unfold opBad; simp)
    have R := Lib.hid (fun V => HR.out a V)
    clear HR HW hP
    generalize okReg a = r at *
    cases r <;>
    · have Hc := Hcode.out
      rw [Hok.out, Hbd.out] at Hc
      have Hc := Lib.hid Hc
      clear Hcode Hok Hbd
      go_enter Tryd.func29, Tryd.ntmps29
      go_wp2_with (first | (go_at_call 40; with_reducible refine (R.out _).mono ?_; rintro e w' ⟨rfl, rfl⟩))
      go_ret
      exact ⟨by rw [Hc.out]; rfl, hB.out⟩
  by_cases h2 : k = 2
  · subst h2
    have Hok := Lib.hid (show opOk q 2 a b = (okReg a && decide (0 ≤ b ∧ b ≤ (q : Int) - 1)) from rfl)
    have R := Lib.hid (fun V => HR.out a V)
    have W := Lib.hid (fun V => HW.out b 0 ((q : Int) - 1) V)
    by_cases hb : 0 ≤ b ∧ b ≤ (q : Int) - 1
    · obtain ⟨j, rfl⟩ := Int.eq_ofNat_of_zero_le hb.1
      have hj : j < q := by omega
      have ds : decide (0 ≤ (j : Int) ∧ (j : Int) ≤ (q : Int) - 1) = true := decide_eq_true hb
      rw [ds] at W
      have Hok2 := Hok.out
      rw [ds] at Hok2
      have Hok := Lib.hid Hok2
      obtain ⟨bb, off, rfl, c0, c1⟩ := port_cells hP hl hj
      have c0 := cell_lift2 c0 (Obj.cells #[.slice Ap n cp, .slice (some ⟨bb, off, none⟩) q co, .slice At m ct] 26) (Obj.cells #[.int .i64 2, .int .i64 a, .int .i64 (j : Nat)] 72)
      have c1 := cell_lift2 c1 (Obj.cells #[.slice Ap n cp, .slice (some ⟨bb, off, none⟩) q co, .slice At m ct] 26) (Obj.cells #[.int .i64 2, .int .i64 a, .int .i64 (j : Nat)] 72)
      have Hbd := Lib.hid (show opBad P part 2 (j : Int) = decide (nI P (2 * j) ≠ part) by unfold opBad; rw [Int.toNat_natCast]; simp)
      generalize nI P (2 * j) = x0 at *
      generalize nI P (2 * j + 1) = x1 at *
      have hjq : (j : Int) < q := by omega
      clear HR HW hP ds hb Hok2
      generalize okReg a = r at *
      by_cases hx : x0 = part
      · have dx : (x0 != (part : Int)) = false := by simpa using hx
        have Hbd2 := Hbd.out
        rw [show decide (x0 ≠ (part : Int)) = false by simpa using hx] at Hbd2
        clear hx
        cases r <;>
        · have Hc := Hcode.out
          rw [Hok.out, Hbd2] at Hc
          have Hc := Lib.hid Hc
          clear Hcode Hok Hbd Hbd2
          go_enter Tryd.func29, Tryd.ntmps29
          go_wp2_with (first | (go_at_call 40; with_reducible refine (R.out _).mono ?_; rintro e w' ⟨rfl, rfl⟩) | (go_at_call 20; with_reducible refine (W.out _).mono ?_; rintro e w' ⟨rfl, rfl⟩))
          go_ret
          exact ⟨by rw [Hc.out]; rfl, hB.out⟩
      · have dx : (x0 != (part : Int)) = true := by simpa using hx
        have Hbd2 := Hbd.out
        rw [show decide (x0 ≠ (part : Int)) = true by simpa using hx] at Hbd2
        clear hx
        cases r <;>
        · have Hc := Hcode.out
          rw [Hok.out, Hbd2] at Hc
          have Hc := Lib.hid Hc
          clear Hcode Hok Hbd Hbd2
          go_enter Tryd.func29, Tryd.ntmps29
          go_wp2_with (first | (go_at_call 40; with_reducible refine (R.out _).mono ?_; rintro e w' ⟨rfl, rfl⟩) | (go_at_call 20; with_reducible refine (W.out _).mono ?_; rintro e w' ⟨rfl, rfl⟩))
          go_ret
          exact ⟨by rw [Hc.out]; rfl, hB.out⟩
    · have ds : decide (0 ≤ b ∧ b ≤ (q : Int) - 1) = false := decide_eq_false hb
      rw [ds] at W
      have Hc := Hcode.out
      rw [Hok.out, ds, Bool.and_false, if_pos rfl] at Hc
      have Hc := Lib.hid Hc
      clear HR HW hP ds hb Hok Hcode
      generalize okReg a = r at *
      cases r <;>
      · go_enter Tryd.func29, Tryd.ntmps29
        go_wp2_with (first | (go_at_call 40; with_reducible refine (R.out _).mono ?_; rintro e w' ⟨rfl, rfl⟩) | (go_at_call 20; with_reducible refine (W.out _).mono ?_; rintro e w' ⟨rfl, rfl⟩))
        go_ret
        exact ⟨by rw [Hc.out]; rfl, hB.out⟩
  by_cases h3 : k = 3
  · subst h3
    have Hok := Lib.hid (show opOk q 3 a b = (okReg a && decide (0 ≤ b ∧ b ≤ (q : Int) - 1)) from rfl)
    have R := Lib.hid (fun V => HR.out a V)
    have W := Lib.hid (fun V => HW.out b 0 ((q : Int) - 1) V)
    by_cases hb : 0 ≤ b ∧ b ≤ (q : Int) - 1
    · obtain ⟨j, rfl⟩ := Int.eq_ofNat_of_zero_le hb.1
      have hj : j < q := by omega
      have ds : decide (0 ≤ (j : Int) ∧ (j : Int) ≤ (q : Int) - 1) = true := decide_eq_true hb
      rw [ds] at W
      have Hok2 := Hok.out
      rw [ds] at Hok2
      have Hok := Lib.hid Hok2
      obtain ⟨bb, off, rfl, c0, c1⟩ := port_cells hP hl hj
      have c0 := cell_lift2 c0 (Obj.cells #[.slice Ap n cp, .slice (some ⟨bb, off, none⟩) q co, .slice At m ct] 26) (Obj.cells #[.int .i64 3, .int .i64 a, .int .i64 (j : Nat)] 72)
      have c1 := cell_lift2 c1 (Obj.cells #[.slice Ap n cp, .slice (some ⟨bb, off, none⟩) q co, .slice At m ct] 26) (Obj.cells #[.int .i64 3, .int .i64 a, .int .i64 (j : Nat)] 72)
      have Hbd := Lib.hid (show opBad P part 3 (j : Int) = decide (nI P (2 * j + 1) ≠ part) by unfold opBad; rw [Int.toNat_natCast]; simp)
      generalize nI P (2 * j) = x0 at *
      generalize nI P (2 * j + 1) = x1 at *
      have hjq : (j : Int) < q := by omega
      clear HR HW hP ds hb Hok2
      generalize okReg a = r at *
      by_cases hx : x1 = part
      · have dx : (x1 != (part : Int)) = false := by simpa using hx
        have Hbd2 := Hbd.out
        rw [show decide (x1 ≠ (part : Int)) = false by simpa using hx] at Hbd2
        clear hx
        cases r <;>
        · have Hc := Hcode.out
          rw [Hok.out, Hbd2] at Hc
          have Hc := Lib.hid Hc
          clear Hcode Hok Hbd Hbd2
          go_enter Tryd.func29, Tryd.ntmps29
          go_wp2_with (first | (go_at_call 40; with_reducible refine (R.out _).mono ?_; rintro e w' ⟨rfl, rfl⟩) | (go_at_call 20; with_reducible refine (W.out _).mono ?_; rintro e w' ⟨rfl, rfl⟩))
          go_ret
          exact ⟨by rw [Hc.out]; rfl, hB.out⟩
      · have dx : (x1 != (part : Int)) = true := by simpa using hx
        have Hbd2 := Hbd.out
        rw [show decide (x1 ≠ (part : Int)) = true by simpa using hx] at Hbd2
        clear hx
        cases r <;>
        · have Hc := Hcode.out
          rw [Hok.out, Hbd2] at Hc
          have Hc := Lib.hid Hc
          clear Hcode Hok Hbd Hbd2
          go_enter Tryd.func29, Tryd.ntmps29
          go_wp2_with (first | (go_at_call 40; with_reducible refine (R.out _).mono ?_; rintro e w' ⟨rfl, rfl⟩) | (go_at_call 20; with_reducible refine (W.out _).mono ?_; rintro e w' ⟨rfl, rfl⟩))
          go_ret
          exact ⟨by rw [Hc.out]; rfl, hB.out⟩
    · have ds : decide (0 ≤ b ∧ b ≤ (q : Int) - 1) = false := decide_eq_false hb
      rw [ds] at W
      have Hc := Hcode.out
      rw [Hok.out, ds, Bool.and_false, if_pos rfl] at Hc
      have Hc := Lib.hid Hc
      clear HR HW hP ds hb Hok Hcode
      generalize okReg a = r at *
      cases r <;>
      · go_enter Tryd.func29, Tryd.ntmps29
        go_wp2_with (first | (go_at_call 40; with_reducible refine (R.out _).mono ?_; rintro e w' ⟨rfl, rfl⟩) | (go_at_call 20; with_reducible refine (W.out _).mono ?_; rintro e w' ⟨rfl, rfl⟩))
        go_ret
        exact ⟨by rw [Hc.out]; rfl, hB.out⟩
  have d0 : (k == 0) = false := by simpa using h0
  have d1 : (k == 1) = false := by simpa using h1
  have d2 : (k == 2) = false := by simpa using h2
  have d3 : (k == 3) = false := by simpa using h3
  have d4 : (k == 4) = false := by simpa using h4
  have d5 : (k == 5) = false := by simpa using h5
  have Hok : opOk q k a b = false := by unfold opOk; rw [if_neg h0, if_neg h1, if_neg (by omega), if_neg h4, if_neg h5]
  have Hc := Hcode.out
  rw [Hok, if_pos rfl] at Hc
  have Hc := Lib.hid Hc
  have R := Lib.hid (fun V => HR.out a V)
  clear Hcode Hok HR HW hP h0 h1 h2 h3 h4 h5
  generalize okReg a = r at *
  go_enter Tryd.func29, Tryd.ntmps29
  go_wp2_with (go_at_call 40; with_reducible refine (R.out _).mono ?_; rintro e w' ⟨rfl, rfl⟩)
  go_ret
  exact ⟨by rw [Hc.out]; rfl, hB.out⟩
end Go.Proofs.YtgkanbaboeppfaaDoor
