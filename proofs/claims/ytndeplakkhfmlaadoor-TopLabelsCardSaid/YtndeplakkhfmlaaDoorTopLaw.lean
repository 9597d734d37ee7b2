/-
  Labels of which no two are the same: who is below whom is an order, its bounds the labels' own. A plain law; no program of Go in sight.
-/
import Derived.Test.YtndeplakkhfmlaaDoorLatLaw3
import Derived.Test.YtndeplakkhfmlaaDoorWithN
namespace Go.Proofs.YtndeplakkhfmlaaDoor
set_option linter.unusedVariables false

/-- Label i is below label j. -/
def belL (v s : Nat → Nat) (i j : Nat) : Bool := decide (v i ≤ v j) && within (s i) (s j)
theorem within_or (a b c : Nat) : within (a ||| b) c = true ↔ within a c = true ∧ within b c = true := by
  rw [within_iff, within_iff, within_iff]
  constructor
  · intro h
    exact ⟨fun i hi => h i (by rw [tb_or, hi]; rfl), fun i hi => h i (by rw [tb_or, hi]; simp)⟩
  · rintro ⟨h, k⟩ i hi
    rw [tb_or, Bool.or_eq_true] at hi
    exact hi.elim (h i) (k i)
theorem within_and (a b c : Nat) : within c (a &&& b) = true ↔ within c a = true ∧ within c b = true := by
  rw [within_iff, within_iff, within_iff]
  constructor
  · intro h
    refine ⟨fun i hi => ?_, fun i hi => ?_⟩
    · have := h i hi; rw [Nat.testBit_and, Bool.and_eq_true] at this; exact this.1
    · have := h i hi; rw [Nat.testBit_and, Bool.and_eq_true] at this; exact this.2
  · rintro ⟨h, k⟩ i hi
    rw [Nat.testBit_and, h i hi, k i hi]; rfl
theorem within_anti {a b : Nat} (h : within a b = true) (k : within b a = true) : a = b := by
  rw [within_iff] at h k
  exact Nat.eq_of_testBit_eq fun i => by
    cases e : a.testBit i with
    | true => exact (h i e).symm
    | false =>
      cases e2 : b.testBit i with
      | false => rfl
      | true => rw [k i e2] at e; cases e
section
variable {v s : Nat → Nat} {n : Nat}
theorem belL_iff (i j : Nat) : belL v s i j = true ↔ v i ≤ v j ∧ within (s i) (s j) = true := by
  unfold belL; rw [Bool.and_eq_true, decide_eq_true_eq]
theorem belL_refl (i : Nat) : belL v s i i = true := (belL_iff i i).2 ⟨Nat.le_refl _, (within_iff _ _).2 fun _ h => h⟩
theorem belL_trans {i j k : Nat} (h : belL v s i j = true) (h' : belL v s j k = true) : belL v s i k = true := by
  rw [belL_iff] at *
  exact ⟨Nat.le_trans h.1 h'.1, (within_iff _ _).2 fun x hx => (within_iff _ _).1 h'.2 x ((within_iff _ _).1 h.2 x hx)⟩
/-- The relation. -/
def topR (v s : Nat → Nat) (n : Nat) : List Nat := (List.range n).map fun i => maskN (belL v s i) n
theorem topR_len : (topR v s n).length = n := by unfold topR; simp
theorem topR_bit {i : Nat} (hi : i < n) (j : Nat) : (row (topR v s n) i).testBit j = (decide (j < n) && belL v s i j) := testBit_relN _ n i j hi
theorem topR_row {i : Nat} (hi : i < n) : row (topR v s n) i = maskN (belL v s i) n := by
  unfold row topR; rw [List.getElem?_map, List.getElem?_range hi]; rfl
theorem maskN_bd (p : Nat → Bool) (n : Nat) : maskN p n < 2 ^ n := Nat.lt_pow_two_of_testBit _ fun j hj => by
  rw [testBit_maskN, decide_eq_false (by omega)]; rfl
theorem topR_bd : Bd (topR v s n).length (topR v s n) := by
  rw [topR_len]
  intro i
  rcases Nat.lt_or_ge i n with h | h
  · rw [topR_row h]; exact maskN_bd _ _
  · rw [row_out _ _ (by rw [topR_len]; exact h)]; exact Nat.two_pow_pos _
theorem closed_top : closed (topR v s n) = topR v s n := by
  have hi := closed_inv (topR v s n)
  refine row_ext (length_closed _) fun i hi' => ?_
  rw [length_closed, topR_len] at hi'
  have h1 : Sub (row (closed (topR v s n)) i) (row (topR v s n) i) := hi.least (topR v s n) (fun k hk => by
    rw [topR_len] at hk
    refine ⟨by rw [topR_bit hk, decide_eq_true hk, belL_refl]; rfl, fun _ h => h, fun j hj hkj x hx => ?_⟩
    rw [topR_len] at hj
    rw [topR_bit hk, Bool.and_eq_true] at hkj
    rw [topR_bit hj, Bool.and_eq_true] at hx
    rw [topR_bit hk, Bool.and_eq_true]
    exact ⟨hx.1, belL_trans hkj.2 hx.2⟩) i (by rw [topR_len]; exact hi')
  have h2 := hi.more i (by rw [topR_len]; exact hi')
  refine Nat.eq_of_testBit_eq fun j => ?_
  rw [Bool.eq_iff_iff]
  exact ⟨h1 j, h2 j⟩
theorem order_top (hn : n ≤ 12) (hd : ∀ i j, i < n → j < n → i ≠ j → ¬ (v i = v j ∧ s i = s j)) : orderB (closed (topR v s n)) = true := by
  rw [closed_top]
  refine (orderB_iff (by rw [topR_len]; omega) topR_bd).2 fun i j hi hj hne hij => ?_
  rw [topR_len] at hi hj
  rw [topR_bit hi, Bool.and_eq_true, belL_iff] at hij
  rw [topR_bit hj, decide_eq_true hi, Bool.true_and]
  cases e : belL v s j i with
  | false => rfl
  | true =>
    rw [belL_iff] at e
    exact absurd ⟨Nat.le_antisymm hij.2.1 e.1, within_anti hij.2.2 e.2⟩ (hd i j hi hj hne)
theorem up_top (m : Bool) {i j : Nat} (hi : i < n) (hj : j < n) : (row (upOf m (closed (topR v s n))) i).testBit j = if m then belL v s j i else belL v s i j := by
  rw [upOf_bit m (by rw [topR_len]; exact hi) (by rw [topR_len]; exact hj), closed_top, topR_bit hi, topR_bit hj, decide_eq_true hi, decide_eq_true hj]
  rfl
theorem up_lt (m : Bool) {i k : Nat} (h : (row (upOf m (closed (topR v s n))) i).testBit k = true) : k < n := by
  have hbu : Bd n (upOf m (closed (topR v s n))) := by
    have := bd_upOf m (c := closed (topR v s n)) (by rw [length_closed]; exact closed_lt _ topR_bd)
    rwa [length_closed, topR_len] at this
  exact bit_of (hbu i) h
theorem join_top (hn : n ≤ 12) (hd : ∀ i j, i < n → j < n → i ≠ j → ¬ (v i = v j ∧ s i = s j)) {i j a : Nat} (hi : i < n) (hj : j < n) (ha : a < n) (hv : v a = max (v i) (v j)) (hs : s a = s i ||| s j) :
    boundV (castL (topR v s n)) false i j = ((a : Int), 0) := by
  have hl := topR_len (v := v) (s := s) (n := n)
  refine bound_is false (by rw [hl]; exact hn) topR_bd (order_top hn hd) (by rw [hl]; exact hi) (by rw [hl]; exact hj) ?_ ?_ fun k h1 h2 => ?_
  · rw [up_top false hi ha]
    exact (belL_iff i a).2 ⟨by rw [hv]; exact Nat.le_max_left _ _, by rw [hs]; exact ((within_or _ _ _).1 ((within_iff _ _).2 fun _ h => h)).1⟩
  · rw [up_top false hj ha]
    exact (belL_iff j a).2 ⟨by rw [hv]; exact Nat.le_max_right _ _, by rw [hs]; exact ((within_or _ _ _).1 ((within_iff _ _).2 fun _ h => h)).2⟩
  · have hk := up_lt false h1
    rw [up_top false hi hk] at h1
    rw [up_top false hj hk] at h2
    rw [up_top false ha hk]
    have h1 := (belL_iff i k).1 h1
    have h2 := (belL_iff j k).1 h2
    exact (belL_iff a k).2 ⟨by rw [hv]; exact Nat.max_le.2 ⟨h1.1, h2.1⟩, by rw [hs]; exact (within_or _ _ _).2 ⟨h1.2, h2.2⟩⟩
theorem meet_top (hn : n ≤ 12) (hd : ∀ i j, i < n → j < n → i ≠ j → ¬ (v i = v j ∧ s i = s j)) {i j a : Nat} (hi : i < n) (hj : j < n) (ha : a < n) (hv : v a = min (v i) (v j)) (hs : s a = s i &&& s j) :
    boundV (castL (topR v s n)) true i j = ((a : Int), 0) := by
  have hl := topR_len (v := v) (s := s) (n := n)
  refine bound_is true (by rw [hl]; exact hn) topR_bd (order_top hn hd) (by rw [hl]; exact hi) (by rw [hl]; exact hj) ?_ ?_ fun k h1 h2 => ?_
  · rw [up_top true hi ha]
    exact (belL_iff a i).2 ⟨by rw [hv]; exact Nat.min_le_left _ _, by rw [hs]; exact ((within_and _ _ _).1 ((within_iff _ _).2 fun _ h => h)).1⟩
  · rw [up_top true hj ha]
    exact (belL_iff a j).2 ⟨by rw [hv]; exact Nat.min_le_right _ _, by rw [hs]; exact ((within_and _ _ _).1 ((within_iff _ _).2 fun _ h => h)).2⟩
  · have hk := up_lt true h1
    rw [up_top true hi hk] at h1
    rw [up_top true hj hk] at h2
    rw [up_top true ha hk]
    have h1 := (belL_iff k i).1 h1
    have h2 := (belL_iff k j).1 h2
    exact (belL_iff k a).2 ⟨by rw [hv]; exact Nat.le_min.2 ⟨h1.1, h2.1⟩, by rw [hs]; exact (within_and _ _ _).2 ⟨h1.2, h2.2⟩⟩
end
end Go.Proofs.YtndeplakkhfmlaaDoor
