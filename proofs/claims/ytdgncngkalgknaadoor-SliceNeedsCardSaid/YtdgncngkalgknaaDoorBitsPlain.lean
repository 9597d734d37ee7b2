/-
  Plain law: the bits of a number, rising. No Go in sight.
-/
import Derived.Test.YtdgncngkalgknaaDoorLeaf
import Derived.Lib.TrailingZeros
namespace Go.Proofs.YtdgncngkalgknaaDoor

/-- The bits of a number, rising. -/
def bitsOf (r : Nat) : List Nat := (List.range 64).filter fun i => r.testBit i
theorem bitsOf_zero : bitsOf 0 = [] := by
  unfold bitsOf; rw [List.filter_eq_nil_iff]; intro i _; simp
theorem length_bitsOf (r : Nat) : (bitsOf r).length ≤ 64 := by
  unfold bitsOf
  have := List.length_filter_le (fun i => r.testBit i) (List.range 64)
  rwa [List.length_range] at this
theorem mem_bitsOf {r i : Nat} (hr : r < 2 ^ 64) : i ∈ bitsOf r ↔ r.testBit i = true := by
  unfold bitsOf
  rw [List.mem_filter, List.mem_range]
  refine ⟨fun h => h.2, fun h => ⟨?_, h⟩⟩
  rcases Nat.lt_or_ge i 64 with h1 | h1
  · exact h1
  · rw [Nat.testBit_lt_two_pow (Nat.lt_of_lt_of_le hr (Nat.pow_le_pow_right (by decide) h1))] at h; cases h

theorem low_bits (r : Nat) (h0 : r ≠ 0) (h : r < 2 ^ 64) :
    Lib.ctz 64 r < 64 ∧ r.testBit (Lib.ctz 64 r) = true ∧ (∀ j, j < Lib.ctz 64 r → r.testBit j = false) ∧
      ∀ j, (r &&& (r - 1)).testBit j = (r.testBit j && decide (j ≠ Lib.ctz 64 r)) := by
  obtain ⟨m, hm, hk⟩ := Lib.ctzFrom_spec 64 r (by omega) h
  have e : Lib.ctz 64 r = Lib.ctzFrom 64 r := by simp [Lib.ctz, h0]
  rw [e]
  generalize Lib.ctzFrom 64 r = k at *
  have hp := Nat.two_pow_pos k
  have t1 : ∀ j, r.testBit j = if j < k then false else (2 * m + 1).testBit (j - k) := fun j => by
    have := Nat.testBit_two_pow_mul_add (2 * m + 1) (b := 0) hp j
    rw [Nat.add_zero, ← hm] at this
    rw [this]; simp
  have e1 : r - 1 = 2 ^ k * (2 * m) + (2 ^ k - 1) := by rw [hm, Nat.mul_add]; omega
  have t2 : ∀ j, (r - 1).testBit j = if j < k then (2 ^ k - 1).testBit j else (2 * m).testBit (j - k) := fun j => by
    rw [e1]; exact Nat.testBit_two_pow_mul_add (2 * m) (by omega) j
  refine ⟨hk, ?_, fun j hj => by rw [t1, if_pos hj], fun j => ?_⟩
  · rw [t1, if_neg (by omega), Nat.sub_self, Nat.testBit_zero]; simp
  · rw [Nat.testBit_and, t1, t2]
    by_cases hj : j < k
    · rw [if_pos hj]; simp
    · rw [if_neg hj, if_neg hj]
      by_cases he : j = k
      · subst he
        rw [Nat.sub_self, Nat.testBit_zero, Nat.testBit_zero]; simp
      · obtain ⟨i, rfl⟩ : ∃ i, j = k + (i + 1) := ⟨j - k - 1, by omega⟩
        rw [show k + (i + 1) - k = i + 1 from by omega, Nat.testBit_succ, Nat.testBit_succ]
        rw [show (2 * m + 1) / 2 = m from by omega, show 2 * m / 2 = m from by omega]
        simp

theorem bitsOf_step (r : Nat) (h0 : r ≠ 0) (h : r < 2 ^ 64) : bitsOf r = Lib.ctz 64 r :: bitsOf (r &&& (r - 1)) := by
  obtain ⟨hk, h1, h2, h3⟩ := low_bits r h0 h
  generalize Lib.ctz 64 r = k at *
  have hr : List.range 64 = List.range k ++ (List.range (64 - k)).map (k + ·) := by
    rw [← List.range_add]; congr 1; omega
  have hr2 : List.range (64 - k) = 0 :: (List.range (63 - k)).map Nat.succ := by
    rw [show 64 - k = (63 - k) + 1 from by omega, List.range_succ_eq_map]
  unfold bitsOf
  rw [hr, hr2, List.filter_append, List.filter_append, List.map_cons, List.filter_cons, List.filter_cons]
  have f1 : (List.range k).filter (fun i => r.testBit i) = [] := by
    rw [List.filter_eq_nil_iff]; intro i hi; rw [h2 i (List.mem_range.1 hi)]; simp
  have f2 : (List.range k).filter (fun i => (r &&& (r - 1)).testBit i) = [] := by
    rw [List.filter_eq_nil_iff]; intro i hi; rw [h3, h2 i (List.mem_range.1 hi)]; simp
  rw [f1, f2, Nat.add_zero, if_pos h1, if_neg (by rw [h3]; simp)]
  simp only [List.nil_append]
  congr 1
  refine List.filter_congr fun i hi => ?_
  rw [h3]
  obtain ⟨j, hj, rfl⟩ := List.mem_map.1 hi
  obtain ⟨j', _, rfl⟩ := List.mem_map.1 hj
  simp
theorem and_pred_lt (r : Nat) (h0 : r ≠ 0) : r &&& (r - 1) < r := Nat.lt_of_le_of_lt Nat.and_le_right (by omega)

theorem tz_key (x a : Nat) (hx : x < 18446744073709551616) (hx0 : x ≠ 0) (hlow : x &&& (18446744073709551616 - x) = a) :
    IntKind.u64.wrap (bits BinOp.and IntKind.u64 (x : Int) (IntKind.u64.wrap (-(x : Int))) * 285870213051353865) / 288230376151711744 = ((a * 285870213051353865 % 18446744073709551616 / 288230376151711744 : Nat) : Int) := by
  have e1 : IntKind.u64.wrap (-(x : Int)) = ((18446744073709551616 - x : Nat) : Int) := by rw [IntKind.wrap_u64]; omega
  rw [e1, bits_and_u64_nat x _ hx (by omega), hlow, IntKind.wrap_u64]
  omega
end Go.Proofs.YtdgncngkalgknaaDoor
