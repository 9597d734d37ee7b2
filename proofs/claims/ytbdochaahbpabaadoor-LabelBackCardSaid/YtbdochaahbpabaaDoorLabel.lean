/-
  Contracts: label.Check, both, Below, Join, Meet.
-/
import Derived.Test.YtbdochaahbpabaaDoorLeaf
import Derived.Test.YtbdochaahbpabaaDoorRel
namespace Go.Proofs.YtbdochaahbpabaaDoor
open Go.RowKit
set_option maxRecDepth 100000

theorem Within3_any (n lo hi : Int) (w : World) :
    Calls Tryd.prog 60 #[.int .i64 n, .int .i64 lo, .int .i64 hi] w fun e w' => e = .returned (.bool (decide (lo ≤ n ∧ n ≤ hi))) ∧ w = w' := by
  by_cases h0 : lo ≤ n
  · go_enter Tryd.func60, Tryd.ntmps60
    go_wp2
    go_ret
    exact ⟨ret_bool (by simp [h0]), rfl⟩
  · go_enter Tryd.func60, Tryd.ntmps60
    go_wp2
    go_ret
    exact ⟨ret_bool (by simp; omega), rfl⟩
theorem Within3_is (n lo hi : Int) (b : Bool) (w : World) (hb : decide (lo ≤ n ∧ n ≤ hi) = b) :
    Calls Tryd.prog 60 #[.int .i64 n, .int .i64 lo, .int .i64 hi] w fun e w' => e = .returned (.bool b) ∧ w = w' := by
  subst hb; exact Within3_any n lo hi w

/-- a without b -/
def diff (a b : Nat) : Nat := a ^^^ (a &&& b)
theorem diff_bit (a b j : Nat) : (diff a b).testBit j = (a.testBit j && !b.testBit j) := by
  unfold diff
  rw [Nat.testBit_xor, Nat.testBit_and]
  cases a.testBit j <;> cases b.testBit j <;> rfl
theorem diff_le (a b : Nat) : diff a b ≤ a := by
  have h : diff a b = a &&& diff a b := Nat.eq_of_testBit_eq fun j => by
    rw [Nat.testBit_and, diff_bit]; cases a.testBit j <;> simp
  rw [h]; exact Nat.and_le_left
theorem bits_andNot_nat (a b : Nat) (ha : a < 2 ^ 62) (hb : b < 2 ^ 62) : bits .andNot .i64 (a : Int) (b : Int) = ((diff a b : Nat) : Int) := by
  have h1 : ∀ x : Nat, x < 2 ^ 62 → (BitVec.ofInt 64 (x : Int)).toNat = x := fun x hx => by
    rw [BitVec.ofInt_natCast, BitVec.toNat_ofNat]; exact Nat.mod_eq_of_lt (by omega)
  have h2 : (BitVec.ofInt 64 (a : Int) &&& ~~~ BitVec.ofInt 64 (b : Int)).toNat = diff a b := by
    apply Nat.eq_of_testBit_eq
    intro j
    rw [diff_bit, BitVec.toNat_and, Nat.testBit_and, h1 a ha]
    by_cases hj : j < 64
    · rw [BitVec.testBit_toNat, BitVec.getLsbD_not, ← BitVec.testBit_toNat, h1 b hb]; simp [hj]
    · rw [Nat.testBit_lt_two_pow (Nat.lt_of_lt_of_le ha (Nat.pow_le_pow_right (by decide) (by omega)))]; simp
  show IntKind.i64.wrap ((BitVec.ofInt 64 (a : Int) &&& ~~~ BitVec.ofInt 64 (b : Int)).toNat : Int) = _
  rw [h2, IntKind.wrap_i64]
  have := diff_le a b
  omega
theorem diff_zero (a b : Nat) : (diff a b == 0) = within a b := by
  rw [Bool.eq_iff_iff, beq_iff_eq, within_iff]
  constructor
  · intro h i hi
    have := diff_bit a b i
    rw [h, hi, Nat.zero_testBit] at this
    simpa using this.symm
  · intro h
    apply Nat.eq_of_testBit_eq
    intro i
    rw [diff_bit, Nat.zero_testBit]
    cases hi : a.testBit i
    · rfl
    · rw [h i hi]; rfl

/-- A label as a value. -/
def labV (v s : Int) : Value := .agg #[.int .i64 v, .int .i64 s]
def labOk (v s : Int) : Prop := 0 ≤ v ∧ v ≤ 7 ∧ 0 ≤ s ∧ s < 256
instance (v s : Int) : Decidable (labOk v s) := by unfold labOk; infer_instance

set_option maxHeartbeats 400000 in
theorem LabCheck_ok (v s : Int) (w : World) (h : labOk v s) :
    Calls Tryd.prog 36 #[.agg #[.int .i64 v, .int .i64 s]] w fun e w' => e = .returned .nilIface ∧ Below w.heap.size w w' := by
  have H1 := Lib.hid (show decide ((0 : Int) ≤ v ∧ v ≤ 7) = true from decide_eq_true ⟨h.1, h.2.1⟩)
  have H2 := Lib.hid (show decide ((0 : Int) ≤ s ∧ s < ((2 ^ 8 : Nat) : Int)) = true from decide_eq_true ⟨h.2.2.1, by have := h.2.2.2; omega⟩)
  clear h
  go_enter Tryd.func36, Tryd.ntmps36
  go_wp2_with (first | (go_at_call 60; refine (Within3_is _ _ _ true _ H1.out).mono ?_; rintro e w' ⟨rfl, rfl⟩) | (go_at_call 64; refine (Mask_is _ 8 true _ (by decide) H2.out).mono ?_; rintro e w' ⟨rfl, rfl⟩))
  go_ret
  exact ⟨rfl, (Below.refl _ _).alloc (Nat.le_refl _) _⟩
set_option maxHeartbeats 400000 in
theorem LabCheck_bad (v s : Int) (w : World) (h : ¬ labOk v s) :
    Calls Tryd.prog 36 #[.agg #[.int .i64 v, .int .i64 s]] w fun e w' => e = .returned (.iface 72 (.int .i64 1)) ∧ Below w.heap.size w w' := by
  by_cases h1 : 0 ≤ v ∧ v ≤ 7
  · have H1 := Lib.hid (show decide ((0 : Int) ≤ v ∧ v ≤ 7) = true from decide_eq_true h1)
    have H2 := Lib.hid (show decide ((0 : Int) ≤ s ∧ s < ((2 ^ 8 : Nat) : Int)) = false from decide_eq_false (fun h2 => h ⟨h1.1, h1.2, h2.1, by have := h2.2; omega⟩))
    clear h h1
    go_enter Tryd.func36, Tryd.ntmps36
    go_wp2_with (first | (go_at_call 60; refine (Within3_is _ _ _ true _ H1.out).mono ?_; rintro e w' ⟨rfl, rfl⟩) | (go_at_call 64; refine (Mask_is _ 8 false _ (by decide) H2.out).mono ?_; rintro e w' ⟨rfl, rfl⟩))
    go_ret
    exact ⟨rfl, (Below.refl _ _).alloc (Nat.le_refl _) _⟩
  · have H1 := Lib.hid (show decide ((0 : Int) ≤ v ∧ v ≤ 7) = false from decide_eq_false h1)
    clear h h1
    go_enter Tryd.func36, Tryd.ntmps36
    go_wp2_with (go_at_call 60; refine (Within3_is _ _ _ false _ H1.out).mono ?_; rintro e w' ⟨rfl, rfl⟩)
    go_ret
    exact ⟨rfl, (Below.refl _ _).alloc (Nat.le_refl _) _⟩

set_option maxHeartbeats 400000 in
theorem both_ok (v s v' s' : Int) (w : World) (h : labOk v s) (h' : labOk v' s') :
    Calls Tryd.prog 50 #[.agg #[.int .i64 v, .int .i64 s], .agg #[.int .i64 v', .int .i64 s']] w fun e w' => e = .returned .nilIface ∧ Below w.heap.size w w' := by
  have H1 := Lib.hid (fun W => LabCheck_ok v s W h)
  have H2 := Lib.hid (fun W => LabCheck_ok v' s' W h')
  clear h h'
  go_enter Tryd.func50, Tryd.ntmps50
  go_wp2_with fail
  refine (H1.out _).mono ?_
  rintro e w1 ⟨rfl, hb1⟩
  obtain ⟨hc, hf⟩ := bcell2 hb1
  go_wp2_with fail
  refine (H2.out _).mono ?_
  rintro e w2 ⟨rfl, hb2⟩
  go_wp2_with fail
  go_ret
  exact ⟨rfl, (((Below.refl _ w).alloc (Nat.le_refl _) _).alloc (by simp) _).trans ((hb1.mono (by simp; omega)).trans (hb2.mono (by have := hb1.size; simp at this; omega)))⟩
end Go.Proofs.YtbdochaahbpabaaDoor
