/-
  Plain laws: bounds in an order.
-/
import Derived.Test.YtndeplakkhfmlaaDoorLatLaw2
namespace Go.Proofs.YtndeplakkhfmlaaDoor
set_option linter.unusedVariables false

theorem leastI_eq {u : List Nat} {n s x : Nat} (hs64 : s < 2 ^ 64) (hsn : s < 2 ^ n) (hx : s.testBit x = true) (hw : ∀ k, s.testBit k = true → (row u x).testBit k = true)
    (anti : ∀ i j, i < n → j < n → (row u i).testBit j = true → (row u j).testBit i = true → i = j) : leastI u s = (x : Int) := by
  unfold leastI
  cases hf : (bitsOf s).find? (fun i => within s (row u i)) with
  | none =>
    rw [List.find?_eq_none] at hf
    have := hf x ((mem_bitsOf hs64).2 hx)
    rw [(within_iff _ _).2 hw] at this
    simp at this
  | some y =>
    have hy := (mem_bitsOf hs64).1 (List.mem_of_find?_eq_some hf)
    have hyw : within s (row u y) = true := by simpa using List.find?_some hf
    rw [anti y x (bit_of hsn hy) (bit_of hsn hx) ((within_iff _ _).1 hyw x hx) (hw y hy)]

theorem order_anti {r : List Nat} (h1 : r.length ≤ 12) (h2 : Bd r.length r) (ho : orderB (closed r) = true) (i j : Nat) (hi : i < r.length) (hj : j < r.length)
    (hij : (row (closed r) i).testBit j = true) (hji : (row (closed r) j).testBit i = true) : i = j := by
  have hcn := length_closed r
  rw [orderB_iff (by omega) (by rw [hcn]; exact closed_lt r h2), hcn] at ho
  apply Classical.byContradiction
  intro hne
  have := ho i j hi hj hne hij
  rw [hji] at this
  cases this
theorem upOf_bit {r : List Nat} (m : Bool) {i j : Nat} (hi : i < r.length) (hj : j < r.length) : (row (upOf m (closed r)) i).testBit j = if m then (row (closed r) j).testBit i else (row (closed r) i).testBit j := by
  have hcn := length_closed r
  cases m
  · rfl
  · exact turnL_bit (by omega) (by omega)
theorem up_anti {r : List Nat} (m : Bool) (h1 : r.length ≤ 12) (h2 : Bd r.length r) (ho : orderB (closed r) = true) (i j : Nat) (hi : i < r.length) (hj : j < r.length)
    (hij : (row (upOf m (closed r)) i).testBit j = true) (hji : (row (upOf m (closed r)) j).testBit i = true) : i = j := by
  rw [upOf_bit m hi hj] at hij
  rw [upOf_bit m hj hi] at hji
  cases m
  · exact order_anti h1 h2 ho i j hi hj hij hji
  · exact order_anti h1 h2 ho i j hi hj hji hij
theorem up_self {r : List Nat} (m : Bool) (i : Nat) (hi : i < r.length) : (row (upOf m (closed r)) i).testBit i = true := by
  rw [upOf_bit m hi hi]
  have := (closed_inv r).self i hi
  cases m <;> exact this
theorem up_trans {r : List Nat} (m : Bool) (i j k : Nat) (hi : i < r.length) (hj : j < r.length) (hk : k < r.length) (h : (row (upOf m (closed r)) i).testBit j = true) (h' : (row (upOf m (closed r)) j).testBit k = true) :
    (row (upOf m (closed r)) i).testBit k = true := by
  rw [upOf_bit m hi hj] at h
  rw [upOf_bit m hj hk] at h'
  rw [upOf_bit m hi hk]
  cases m
  · exact (closed_inv r).trans i j hi hj hj h k h'
  · exact (closed_inv r).trans k j hk hj hj h' i h

theorem boundV_in {r : List Nat} (m : Bool) (h1 : r.length ≤ 12) (h2 : Bd r.length r) (ho : orderB (closed r) = true) {a b : Nat} (ha : a < r.length) (hb : b < r.length) :
    boundV (castL r) m a b = if 0 ≤ boundI m (closed r) a b then (boundI m (closed r) a b, 0) else (0, 5) := by
  unfold boundV
  rw [length_castL, toNat_castL, latCode_cast h1 h2, ho]
  rw [if_neg (by simp), if_pos ⟨⟨by omega, by omega⟩, by omega, by omega⟩]
  simp only [Int.toNat_natCast]
/-- Whatever is above both, and below whatever is above both, is the bound. -/
theorem bound_is {r : List Nat} (m : Bool) (h1 : r.length ≤ 12) (h2 : Bd r.length r) (ho : orderB (closed r) = true) {a b x : Nat} (ha : a < r.length) (hb : b < r.length)
    (hax : (row (upOf m (closed r)) a).testBit x = true) (hbx : (row (upOf m (closed r)) b).testBit x = true)
    (hl : ∀ k, (row (upOf m (closed r)) a).testBit k = true → (row (upOf m (closed r)) b).testBit k = true → (row (upOf m (closed r)) x).testBit k = true) :
    boundV (castL r) m a b = ((x : Int), 0) := by
  have hcn := length_closed r
  have hbu : Bd r.length (upOf m (closed r)) := by
    have := bd_upOf m (c := closed r) (by rw [hcn]; exact closed_lt r h2)
    rwa [hcn] at this
  have hand : row (upOf m (closed r)) a &&& row (upOf m (closed r)) b < 2 ^ r.length := Nat.and_lt_two_pow _ (hbu b)
  have e : boundI m (closed r) a b = (x : Int) := by
    unfold boundI
    refine leastI_eq (n := r.length) (Nat.lt_of_lt_of_le hand (Nat.pow_le_pow_right (by decide) (by omega))) hand (by rw [Nat.testBit_and, hax, hbx]; rfl) (fun k hk => ?_) (up_anti m h1 h2 ho)
    rw [Nat.testBit_and, Bool.and_eq_true] at hk
    exact hl k hk.1 hk.2
  rw [boundV_in m h1 h2 ho ha hb, e, if_pos (by omega)]
theorem bound_right {r : List Nat} (m : Bool) (h1 : r.length ≤ 12) (h2 : Bd r.length r) (ho : orderB (closed r) = true) {a b : Nat} (ha : a < r.length) (hb : b < r.length) (h : (row (upOf m (closed r)) a).testBit b = true) :
    boundV (castL r) m a b = ((b : Int), 0) := bound_is m h1 h2 ho ha hb h (up_self m b hb) fun k _ h => h
theorem bound_left {r : List Nat} (m : Bool) (h1 : r.length ≤ 12) (h2 : Bd r.length r) (ho : orderB (closed r) = true) {a b : Nat} (ha : a < r.length) (hb : b < r.length) (h : (row (upOf m (closed r)) b).testBit a = true) :
    boundV (castL r) m a b = ((a : Int), 0) := bound_is m h1 h2 ho ha hb (up_self m a ha) h fun k h _ => h
/-- What LatticeOrder tells. -/
theorem above_true {r : List Nat} (h1 : r.length ≤ 12) (h2 : Bd r.length r) (ho : orderB (closed r) = true) {a b : Nat} (ha : a < r.length) (hb : b < r.length) (h : (row (closed r) a).testBit b = true) :
    boundV (castL r) false a b = ((b : Int), 0) ∧ boundV (castL r) true a b = ((a : Int), 0) :=
  ⟨bound_right false h1 h2 ho ha hb h, bound_left true h1 h2 ho ha hb (by rw [upOf_bit true hb ha]; exact h)⟩
theorem above_false {r : List Nat} (h1 : r.length ≤ 12) (h2 : Bd r.length r) {a b : Nat} (ha : a < r.length) (hb : b < r.length) (h : (row (closed r) a).testBit b = false) :
    ((boundV (castL r) false a b).2 = 0 → (boundV (castL r) false a b).1 ≠ (b : Int)) ∧ ((boundV (castL r) true a b).2 = 0 → (boundV (castL r) true a b).1 ≠ (a : Int)) := by
  constructor
  · intro e hv
    obtain ⟨x, hx, _, h3, _⟩ := join_spec h1 h2 ha hb (v := (boundV (castL r) false a b).1) (by rw [← e])
    rw [hv] at hx
    obtain rfl : b = x := by omega
    rw [h3] at h; cases h
  · intro e hv
    obtain ⟨x, hx, _, _, h4, _⟩ := meet_spec h1 h2 ha hb (v := (boundV (castL r) true a b).1) (by rw [← e])
    rw [hv] at hx
    obtain rfl : a = x := by omega
    rw [h4] at h; cases h
end Go.Proofs.YtndeplakkhfmlaaDoor
