/-
  Contract: core.Many, quietwingref1.Many: how many a set of 8 things has.
-/
import Derived.Test.YtpfmllpodjcldaaDoorCntN
namespace Go.Proofs.YtpfmllpodjcldaaDoor
open Go.RowKit
set_option maxRecDepth 100000
set_option linter.unusedVariables false

def oA (x : Nat) : Nat := (x / 2 &&& 6148914691236517205) + (x &&& 6148914691236517205)
def oB (x : Nat) : Nat := (oA x / 4 &&& 3689348814741910323) + (oA x &&& 3689348814741910323)
def oC (x : Nat) : Nat := (oB x / 16 + oB x) &&& 1085102592571150095
theorem o1 : ∀ x : Nat, x < 256 → IntKind.u64.wrap (bits .and .u64 ((x : Int) / 2) 6148914691236517205 + bits .and .u64 (x : Int) 6148914691236517205) = (oA x : Nat) := by decide +kernel
theorem o2 : ∀ x : Nat, x < 256 → IntKind.u64.wrap (bits .and .u64 (((oA x : Nat) : Int) / 4) 3689348814741910323 + bits .and .u64 ((oA x : Nat) : Int) 3689348814741910323) = (oB x : Nat) := by decide +kernel
theorem o3 : ∀ x : Nat, x < 256 → bits .and .u64 (IntKind.u64.wrap (((oB x : Nat) : Int) / 16 + ((oB x : Nat) : Int))) 1085102592571150095 = (oC x : Nat) := by decide +kernel
theorem o4 : ∀ x : Nat, x < 256 → oC x = cnt 8 x := by decide +kernel
theorem cnt8_le (x : Nat) : cnt 8 x ≤ 8 := cnt_le 8 x
theorem o5 : ∀ y : Nat, y < 9 → bits .and .i64 (y : Int) 127 = (y : Int) := by decide +kernel

set_option maxHeartbeats 1000000 in
theorem Ones_any (x : Nat) (hx : x < 256) (w : World) : Calls Tryd.prog 79 #[.int .u64 x] w fun e w' => e = .returned (.int .i64 (cnt 8 x : Nat)) ∧ w = w' := by
  have h1 := o1 x hx
  have h2 := o2 x hx
  have h3 := o3 x hx
  rw [o4 x hx] at h3
  have h5 := o5 (cnt 8 x) (by have := cnt8_le x; omega)
  have h6 := cnt8_le x
  generalize oA x = a at *
  generalize oB x = b at *
  generalize cnt 8 x = c at *
  have h7 : (c : Int) / 256 = 0 := by omega
  have h8 : (c : Int) / 65536 = 0 := by omega
  have h9 : (c : Int) / 4294967296 = 0 := by omega
  go_enter Tryd.func79, Tryd.ntmps79
  go_wp2
  go_ret
  exact ⟨rfl, rfl⟩
theorem OnesC_any (x : Nat) (hx : x < 256) (w : World) : Calls Tryd.prog 70 #[.int .u64 x] w fun e w' => e = .returned (.int .i64 (cnt 8 x : Nat)) ∧ w = w' := by
  have H := Lib.hid (Ones_any x hx)
  generalize cnt 8 x = c at *
  go_enter Tryd.func70, Tryd.ntmps70
  go_wp2_with fail
  refine (H.out _).mono ?_
  rintro e w' ⟨rfl, rfl⟩
  go_wp2_with fail
  go_ret
  exact ⟨rfl, rfl⟩
theorem CMany_any (x : Nat) (hx : x < 256) (w : World) : Calls Tryd.prog 52 #[.int .i64 x] w fun e w' => e = .returned (.int .i64 (cnt 8 x : Nat)) ∧ w = w' := by
  have H := Lib.hid (OnesC_any x hx)
  generalize cnt 8 x = c at *
  go_enter Tryd.func52, Tryd.ntmps52
  go_wp2_with fail
  refine (H.out _).mono ?_
  rintro e w' ⟨rfl, rfl⟩
  go_wp2_with fail
  go_ret
  exact ⟨rfl, rfl⟩
theorem cnt_same {s j k : Nat} (hj : s < 2 ^ j) (h : j ≤ k) : cnt k s = cnt j s := by
  induction k with
  | zero => obtain rfl : j = 0 := by omega
            rfl
  | succ k ih =>
    rcases Nat.lt_or_ge j (k + 1) with h1 | h1
    · have hb : s.testBit k = false := Nat.testBit_lt_two_pow (Nat.lt_of_lt_of_le hj (Nat.pow_le_pow_right (by decide) (by omega)))
      rw [cnt, hb, ih (by omega)]; rfl
    · obtain rfl : j = k + 1 := by omega
      rfl
theorem cnt_at {s j : Nat} (h8 : s < 256) (hj : s / 2 ^ j = 0) : cnt j s = cnt 8 s := by
  have h1 : s < 2 ^ j := (Nat.div_eq_zero_iff_lt (Nat.two_pow_pos j)).1 hj
  rcases Nat.le_total j 8 with h | h
  · exact (cnt_same h1 h).symm
  · exact cnt_same (j := 8) h8 h
end Go.Proofs.YtpfmllpodjcldaaDoor
