/-
  Plain laws on roles: what all of a set are; roles with other users.
-/
import Derived.Test.YtpfmllpodjcldaaDoorRoleH
namespace Go.Proofs.YtpfmllpodjcldaaDoor
set_option linter.unusedVariables false

section
variable {r M : List Nat} {s t : Nat}
theorem lt64 {n s : Nat} (hn : n ≤ 8) (hs : s < 2 ^ n) : s < 2 ^ 64 := Nat.lt_of_lt_of_le hs (Nat.pow_le_pow_right (by decide) (by omega))
theorem allS_bit (hn : r.length ≤ 8) (hs : s < 2 ^ r.length) {j : Nat} : (allS r s).testBit j = true ↔ ∃ i, s.testBit i = true ∧ (row (closed r) i).testBit j = true := by
  unfold allS
  rw [orAll_bit]
  constructor
  · rintro ⟨i, hi, h⟩; exact ⟨i, (mem_bitsOf (lt64 hn hs)).1 hi, h⟩
  · rintro ⟨i, hi, h⟩; exact ⟨i, (mem_bitsOf (lt64 hn hs)).2 hi, h⟩
theorem bit_in {n s i : Nat} (hs : s < 2 ^ n) (h : s.testBit i = true) : i < n := by
  rcases Nat.lt_or_ge i n with h1 | h1
  · exact h1
  · rw [Nat.testBit_lt_two_pow (Nat.lt_of_lt_of_le hs (Nat.pow_le_pow_right (by decide) h1))] at h; cases h
theorem allS_self (hn : r.length ≤ 8) (hs : s < 2 ^ r.length) : Sub s (allS r s) := fun j hj =>
  (allS_bit hn hs).2 ⟨j, hj, (closed_inv r).self j (bit_in hs hj)⟩
theorem allS_mono (hn : r.length ≤ 8) (hs : s < 2 ^ r.length) (ht : t < 2 ^ r.length) (h : Sub s t) : Sub (allS r s) (allS r t) := fun j hj => by
  obtain ⟨i, hi, hb⟩ := (allS_bit hn hs).1 hj
  exact (allS_bit hn ht).2 ⟨i, h i hi, hb⟩
theorem allS_all (hn : r.length ≤ 8) (hb : Bd r.length r) (hs : s < 2 ^ r.length) : allS r (allS r s) = allS r s := by
  refine Nat.eq_of_testBit_eq fun j => ?_
  rw [Bool.eq_iff_iff, allS_bit hn (allS_lt hn hb s)]
  constructor
  · rintro ⟨i, hi, h⟩
    obtain ⟨k, hk, h2⟩ := (allS_bit hn hs).1 hi
    have hi' := bit_in (allS_lt hn hb s) hi
    exact (allS_bit hn hs).2 ⟨k, hk, (closed_inv r).trans k i (bit_in hs hk) hi' hi' h2 j h⟩
  · intro h
    have := bit_in (allS_lt hn hb s) h
    exact ⟨j, h, (closed_inv r).self j this⟩
theorem taskS_all (hn : r.length ≤ 8) (hb : Bd r.length r) (hs : s < 2 ^ r.length) : taskS r M (allS r s) = taskS r M s := by
  unfold taskS; rw [allS_all hn hb hs]
theorem orAll_mono {f : Nat → Nat} {a b : Nat} (ha : a < 2 ^ 64) (hb : b < 2 ^ 64) (h : Sub a b) : Sub (orAll f (bitsOf a)) (orAll f (bitsOf b)) := fun j hj => by
  obtain ⟨i, hi, hf⟩ := orAll_bit.1 hj
  exact orAll_bit.2 ⟨i, (mem_bitsOf hb).2 (h i ((mem_bitsOf ha).1 hi)), hf⟩
theorem taskS_mono (hn : r.length ≤ 8) (hb : Bd r.length r) (hs : s < 2 ^ r.length) (ht : t < 2 ^ r.length) (h : Sub s t) : Sub (taskS r M s) (taskS r M t) :=
  orAll_mono (lt64 hn (allS_lt hn hb s)) (lt64 hn (allS_lt hn hb t)) (allS_mono hn hs ht h)
theorem taskS_lt (hM : ∀ i, row M i < 2 ^ 10) : taskS r M s < 2 ^ 10 := orAll_lt hM _
end

theorem cast_isSet {n : Nat} {l : List Nat} (h : ∀ i, row l i < 2 ^ n) : (castL l).all (isSet n) = true := by
  rw [List.all_eq_true]
  intro x hx
  unfold castL at hx
  obtain ⟨y, hy, rfl⟩ := List.mem_map.1 hx
  obtain ⟨i, hi⟩ := List.getElem?_of_mem hy
  have := h i
  unfold row at this
  rw [hi] at this
  unfold isSet
  refine decide_eq_true ⟨Int.natCast_nonneg y, ?_⟩
  have h2 : y < 2 ^ n := this
  show ((y : Nat) : Int) < ((2 ^ n : Nat) : Int)
  exact Int.ofNat_lt.2 h2
/-- The same roles, other users, at most 8. -/
theorem ROk.other {U A M : List Int} {few most : Int} {r Un Mn : List Nat} {fN : Nat} (h : ROk U A M few most r Un Mn fN) (Un' : List Nat) (hl : Un'.length ≤ 8) (hb : ∀ i, row Un' i < 2 ^ r.length) (f' : Nat) (hf : f' < 2 ^ r.length) :
    ROk (castL Un') A M f' 8 r Un' Mn f' ∧ rolesCode (castL Un') A M f' 8 = 0 := by
  have hc : ∀ x : Nat, (cnt 8 x : Int) ≤ 8 := fun x => by have := cnt8_le x; omega
  refine ⟨⟨h.a, rfl, h.m, rfl, hl, h.la, h.lm, h.ba, hb, h.bm, hf, by omega, h.ord, fun i _ => hc _⟩, ?_⟩
  have hla := h.la
  have hA : A.length = r.length := by rw [h.a, length_castL]
  have hM : M.length = r.length := by rw [h.m, length_castL, h.lm]
  have hrc : relCode A = 0 := by rw [h.a]; exact relCode_cast (by omega) h.ba
  have hn : natL A = r := by rw [h.a, natL_cast]
  unfold rolesCode
  rw [if_neg (by rw [length_castL]; omega), if_neg (by omega), if_neg (by rw [hA, cast_isSet hb]; decide), if_neg (by omega), hn, if_neg (by rw [h.ord]; decide), if_neg (by rw [h.m, cast_isSet h.bm]; decide), if_neg ?_, if_neg ?_]
  · rw [Bool.not_eq_false, List.all_eq_true]
    intro x _
    exact decide_eq_true (hc _)
  · rw [hA]
    have : isSet r.length (f' : Int) = true := by
      unfold isSet
      refine decide_eq_true ⟨Int.natCast_nonneg f', ?_⟩
      exact_mod_cast hf
    rw [this]; simp
end Go.Proofs.YtpfmllpodjcldaaDoor
