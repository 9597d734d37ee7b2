/-
  The walk of KernelTurns: all its ways.
-/
import Derived.Test.YtgkanbaboeppfaaDoorKernelTurns
namespace Go.Proofs.YtgkanbaboeppfaaDoor
open Go.RowKit
set_option maxRecDepth 100000
set_option linter.unusedVariables false

set_option maxHeartbeats 8000000 in
theorem KernelTurns_bad {L : List (List Int)} {P T : List Int} {q : Nat} {a b : Int} {Ap Ao At : Option Addr} {cp co ct : Nat} {w : World} (hL : RowsIn anyB 3 w Ap L) (hP : IntsIn anyB w Ao P) (hl : P.length = q * 2) (hT : IntsIn anyB w At T) (nL : L.length ≤ maxLen) (nq : q ≤ maxLen) (nT : T.length ≤ maxLen)
    (hc : sysCode L P q T ≠ 0) :
    Calls Tryd.prog 3 #[.agg #[.slice Ap L.length cp, .slice Ao q co, .slice At T.length ct], .int .i64 a, .int .i64 b] w fun e w' => e = .returned (.bool true) ∧ Below w.heap.size w w' := by
  have hb0 := BoxN.new w 26 #[.slice Ap L.length cp, .slice Ao q co, .slice At T.length ct]
  have hbW := (Below.refl w.heap.size w).alloc (Nat.le_refl _) (.cells #[.slice Ap L.length cp, .slice Ao q co, .slice At T.length ct] 26)
  go_enter Tryd.func3, Tryd.ntmps3
  go_wp2_with fail
  generalize w.alloc (.cells #[.slice Ap L.length cp, .slice Ao q co, .slice At T.length ct] 26) = W0 at *
  refine (kernelFact_true W0).mono ?_
  rintro e w1 ⟨rfl, hb1⟩
  have hbx1 := hb0.all hb1
  have hbw1 := hbW.trans (hb1.mono hbW.size)
  clear hb0 hb1 hbW
  have x0 := hbx1.cell (k := 0) rfl
  have x1 := hbx1.cell (k := 1) rfl
  have x2 := hbx1.cell (k := 2) rfl
  have HN := Lib.hid (fun V (hV : Below w1.heap.size w1 V) => New_bad (cp := cp) (co := co) (ct := ct) ((hL.below hbw1).below hV) ((hP.below hbw1).below hV) hl ((hT.below hbw1).below hV) rfl rfl nL nq nT rfl hc)
  generalize sysCode L P q T = k at *
  go_wp2_with fail
  refine (HN.out _ (Below.refl _ _)).mono ?_
  rintro e w2 ⟨rfl, hb2⟩
  have hbx2 := hbx1.all hb2
  have hbw2 := hbw1.trans (hb2.mono hbw1.size)
  clear x0 x1 x2
  have x0 := hbx2.cell (k := 0) rfl
  have x1 := hbx2.cell (k := 1) rfl
  have x2 := hbx2.cell (k := 2) rfl
  go_wp2_with fail
  refine (HN.out _ hb2).mono ?_
  rintro e w3 ⟨rfl, hb3⟩
  have hbw3 := hbw2.trans (hb3.mono hbw2.size)
  go_wp2_with fail
  go_ret
  exact ⟨rfl, hbw3⟩

set_option maxHeartbeats 8000000 in
theorem KernelTurns_out {L : List (List Int)} {P T : List Int} {q : Nat} {a b : Int} {Ap Ao At : Option Addr} {cp co ct : Nat} {w : World} (hL : RowsIn anyB 3 w Ap L) (hP : IntsIn anyB w Ao P) (hl : P.length = q * 2) (hT : IntsIn anyB w At T) (nL : L.length ≤ maxLen) (nq : q ≤ maxLen) (nT : T.length ≤ maxLen)
    (hc : sysCode L P q T = 0) (hab : ¬ (0 ≤ a ∧ a ≤ 150 ∧ 0 ≤ b ∧ b ≤ 150)) :
    Calls Tryd.prog 3 #[.agg #[.slice Ap L.length cp, .slice Ao q co, .slice At T.length ct], .int .i64 a, .int .i64 b] w fun e w' => e = .returned (.bool true) ∧ Below w.heap.size w w' := by
  have hb0 := BoxN.new w 26 #[.slice Ap L.length cp, .slice Ao q co, .slice At T.length ct]
  have hbW := (Below.refl w.heap.size w).alloc (Nat.le_refl _) (.cells #[.slice Ap L.length cp, .slice Ao q co, .slice At T.length ct] 26)
  have Hab := Lib.hid hab
  clear hab
  go_enter Tryd.func3, Tryd.ntmps3
  go_wp2_with fail
  generalize w.alloc (.cells #[.slice Ap L.length cp, .slice Ao q co, .slice At T.length ct] 26) = W0 at *
  refine (kernelFact_true W0).mono ?_
  rintro e w1 ⟨rfl, hb1⟩
  have hbx1 := hb0.all hb1
  have hbw1 := hbW.trans (hb1.mono hbW.size)
  clear hb0 hb1 hbW
  have x0 := hbx1.cell (k := 0) rfl
  have x1 := hbx1.cell (k := 1) rfl
  have x2 := hbx1.cell (k := 2) rfl
  have HN := Lib.hid (fun V (hV : Below w1.heap.size w1 V) => New_ok (cp := cp) (co := co) (ct := ct) ((hL.below hbw1).below hV) ((hP.below hbw1).below hV) hl ((hT.below hbw1).below hV) rfl rfl nL nq nT hc)
  go_wp2_with fail
  refine (HN.out _ (Below.refl _ _)).mono ?_
  rintro e w2 ⟨⟨p, rfl, -⟩, hb2⟩
  have hbx2 := hbx1.all hb2
  have hbw2 := hbw1.trans (hb2.mono hbw1.size)
  clear x0 x1 x2
  have x0 := hbx2.cell (k := 0) rfl
  have x1 := hbx2.cell (k := 1) rfl
  have x2 := hbx2.cell (k := 2) rfl
  go_wp2_with fail
  refine (HN.out _ hb2).mono ?_
  rintro e w3 ⟨⟨p2, rfl, -⟩, hb3⟩
  have hbw3 := hbw2.trans (hb3.mono hbw2.size)
  clear x0 x1 x2 HN
  have go : ∀ Q : Prop, (decide (a < 0) = true → Q) → (decide (a < 0) = false → decide (a > 150) = true → Q) → (decide (a < 0) = false → decide (a > 150) = false → decide (b < 0) = true → Q) → (decide (a < 0) = false → decide (a > 150) = false → decide (b < 0) = false → decide (b > 150) = true → Q) → Q := fun Q h1 h2 h3 h4 => by
    by_cases c1 : a < 0
    · exact h1 (decide_eq_true c1)
    by_cases c2 : a > 150
    · exact h2 (decide_eq_false c1) (decide_eq_true c2)
    by_cases c3 : b < 0
    · exact h3 (decide_eq_false c1) (decide_eq_false c2) (decide_eq_true c3)
    · exact h4 (decide_eq_false c1) (decide_eq_false c2) (decide_eq_false c3) (decide_eq_true (by have := Hab.out; omega))
  refine go _ (fun d1 => ?_) (fun d1 d2 => ?_) (fun d1 d2 d3 => ?_) (fun d1 d2 d3 d4 => ?_)
  all_goals
    go_wp2_with fail
    go_ret
    exact ⟨rfl, hbw3⟩

theorem KernelTurns_walk (L : List (List Int)) (P T : List Int) (q : Nat) (Ap Ao At : Option Addr) (cp co ct : Nat) {W : World} (hL : RowsIn anyB 3 W Ap L) (hP : IntsIn anyB W Ao P) (hl : P.length = q * 2) (hT : IntsIn anyB W At T) (nL : L.length ≤ maxLen) (nq : q ≤ maxLen) (nT : T.length ≤ maxLen)
    (a : Int) (_ : I64 a) (b : Int) (_ : I64 b) (w : World) (hw : w = W) (hP10 : Pow10 W.heap.size W) :
    Calls Tryd.prog 3 #[.agg #[.slice Ap L.length cp, .slice Ao q co, .slice At T.length ct], .int .i64 a, .int .i64 b] w fun e w' => e = .returned (.bool true) ∧ Below W.heap.size W w' := by
  subst hw
  by_cases hc : sysCode L P q T = 0
  · by_cases hab : 0 ≤ a ∧ a ≤ 150 ∧ 0 ≤ b ∧ b ≤ 150
    · obtain ⟨an, rfl⟩ := Int.eq_ofNat_of_zero_le hab.1
      obtain ⟨bn, rfl⟩ := Int.eq_ofNat_of_zero_le hab.2.2.1
      exact KernelTurns_in hL hP hl hT nL nq nT (by omega) (by omega) hc hP10
    · exact KernelTurns_out hL hP hl hT nL nq nT hc hab
  · exact KernelTurns_bad hL hP hl hT nL nq nT hc
end Go.Proofs.YtgkanbaboeppfaaDoor
