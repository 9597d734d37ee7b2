/-
  Plain laws: what flows where, and which levels fit.
-/
import Derived.Test.YthaaekpnemhjoaaDoorFlowC
import Derived.Test.YthaaekpnemhjoaaDoorOrderLaw
namespace Go.Proofs.YthaaekpnemhjoaaDoor
set_option linter.unusedVariables false

theorem list_of_rows {a b : List Nat} (hl : a.length = b.length) (h : ∀ i, i < a.length → row a i = row b i) : a = b := by
  refine List.ext_getElem hl fun i h1 h2 => ?_
  have := h i h1
  unfold row at this
  rw [List.getElem?_eq_getElem h1, List.getElem?_eq_getElem h2] at this
  exact this
theorem sub_eq {a b : Nat} (h : Sub a b) (k : Sub b a) : a = b := Nat.eq_of_testBit_eq fun j => by
  cases ha : a.testBit j with
  | true => rw [h j ha]
  | false =>
    cases hb : b.testBit j with
    | true => rw [k j hb] at ha; cases ha
    | false => rfl
theorem closed_closed {r : List Nat} (hb : Bd r.length r) : closed (closed r) = closed r := by
  have hl := length_closed r
  have h1 := closed_inv r
  have h2 := closed_inv (closed r)
  refine list_of_rows (length_closed _) fun i hi => ?_
  rw [length_closed, hl] at hi
  refine sub_eq (h2.least (closed r) (fun i hi => ?_) i (by rw [hl]; exact hi)) (h2.more i (by rw [hl]; exact hi))
  rw [hl] at hi
  exact ⟨h1.self i hi, Sub.refl _, fun j hj hij => h1.trans i j hi (by rw [hl] at hj; exact hj) (by rw [hl] at hj; exact hj) hij⟩

section
variable {s : St} {L : List Int}
theorem fromL_len (s : St) : (fromL s).length = 6 := by unfold fromL; rw [length_closed, length_rowsOf]
theorem fromL_bd (hs : s.ok) : Bd 6 (fromL s) := by
  have h : Bd (rowsOf (s.sets 0)).length (rowsOf (s.sets 0)) := fun i => by rw [length_rowsOf]; exact rowsOf_bd (fun p hp => sets_lt hs (by decide) p hp) i
  have := h.closedTo (rowsOf (s.sets 0)).length
  rw [length_rowsOf] at this
  unfold fromL closed
  rw [length_rowsOf]
  exact this
theorem fromL_closed (hs : s.ok) : closed (fromL s) = fromL s := by
  unfold fromL
  exact closed_closed (fun i => by rw [length_rowsOf]; exact rowsOf_bd (fun p hp => sets_lt hs (by decide) p hp) i)
theorem fromL_more (hs : s.ok) {p : Nat × Nat} (hp : p ∈ s.sets 0) {j : Nat} (hj : p.2.testBit j = true) : (row (fromL s) p.1).testBit j = true := by
  have h := closed_inv (rowsOf (s.sets 0))
  have h6 := (sets_lt hs (by decide) p hp).1
  exact h.more p.1 (by rw [length_rowsOf]; exact h6) j ((rowsOf_bit fun q hq => (sets_lt hs (by decide) q hq).1).2 ⟨p, hp, rfl, hj⟩)
theorem fromL_self (s : St) {i : Nat} (hi : i < 6) : (row (fromL s) i).testBit i = true := (closed_inv (rowsOf (s.sets 0))).self i (by rw [length_rowsOf]; exact hi)
theorem fromL_trans (s : St) {i m j : Nat} (hi : i < 6) (hm : m < 6) (h : (row (fromL s) i).testBit m = true) (hj : (row (fromL s) m).testBit j = true) : (row (fromL s) i).testBit j = true :=
  (closed_inv (rowsOf (s.sets 0))).trans i m (by rw [length_rowsOf]; exact hi) (by rw [length_rowsOf]; exact hm) (by rw [length_rowsOf]; exact hm) h j hj
/-- Whatever relation holds of each setting, of each with itself, and goes on, holds of all that flows. -/
theorem fromL_least (hs : s.ok) (R : Nat → Nat → Bool) (h0 : ∀ i, i < 6 → R i i = true) (h1 : ∀ p ∈ s.sets 0, ∀ j, p.2.testBit j = true → R p.1 j = true) (h2 : ∀ i j k, i < 6 → j < 6 → k < 6 → R i j = true → R j k = true → R i k = true)
    {i j : Nat} (hi : i < 6) (h : (row (fromL s) i).testBit j = true) : R i j = true := by
  have hl := length_rowsOf (s.sets 0)
  have hp := fun q hq => sets_lt hs (by decide) (u := 0) q hq
  have := (closed_inv (rowsOf (s.sets 0))).least (relN R 6) (fun i hi => by
    rw [hl] at hi
    refine ⟨by rw [testBit_relN R 6 i i hi, h0 i hi]; simp [hi], fun j hj => ?_, fun j hj hij k hk => ?_⟩
    · obtain ⟨q, hq, rfl, hb⟩ := (rowsOf_bit fun q hq => (hp q hq).1).1 hj
      have hj6 := bit_below (n := 6) (hp q hq).2 hb
      rw [testBit_relN R 6 _ j hi, h1 q hq j hb]
      simp [hj6]
    · rw [hl] at hj
      rw [testBit_relN R 6 i j hi] at hij
      rw [testBit_relN R 6 j k hj] at hk
      simp only [Bool.and_eq_true, decide_eq_true_eq] at hij hk
      rw [testBit_relN R 6 i k hi, h2 i j k hi hj hk.1 hij.2 hk.2]
      simp [hk.1]) i (by rw [hl]; exact hi) j h
  rw [testBit_relN R 6 i j hi] at this
  simp only [Bool.and_eq_true, decide_eq_true_eq] at this
  exact this.2
/-- Levels fit just if nothing flows down. -/
theorem fitB_iff (hs : s.ok) (h0 : ∀ i, i < 6 → 0 ≤ gI L i) : fitB L (s.sets 0) = true ↔ ∀ i j, i < 6 → j < 6 → (row (fromL s) i).testBit j = true → gI L j ≤ gI L i := by
  have hp := fun q hq => sets_lt hs (by decide) (u := 0) q hq
  unfold fitB
  rw [List.all_eq_true]
  constructor
  · intro h i j hi hj hij
    have := fromL_least hs (fun i j => decide (gI L j ≤ gI L i)) (fun i _ => by simp) (fun p hpp j hb => by
      have h1 := of_decide_eq_true (h p hpp)
      rw [hiI_le] at h1
      exact decide_eq_true (h1.2 j ((mem_bitsOf (by have := (hp p hpp).2; omega)).2 hb))) (fun i j k _ _ _ h1 h2 => by
      have h1 := of_decide_eq_true h1
      have h2 := of_decide_eq_true h2
      exact decide_eq_true (by omega)) hi hij
    exact of_decide_eq_true this
  · intro h p hpp
    have hp6 := hp p hpp
    refine decide_eq_true (hiI_le.2 ⟨h0 _ hp6.1, fun j hj => ?_⟩)
    have hb := (mem_bitsOf (by omega)).1 hj
    exact h p.1 j hp6.1 (bit_below (n := 6) hp6.2 hb) (fromL_more hs hpp hb)
end

/-- Of one variable: is none of those before j that flow into it above it? -/
def rowFine (L : List Int) (r : List Nat) (i j : Nat) : Bool := (List.range j).all fun b => !(row r i).testBit b || decide (gI L b ≤ gI L i)
def fineTo (L : List Int) (r : List Nat) (i : Nat) : Bool := (List.range i).all fun a => rowFine L r a 6
theorem rowFine_succ (L : List Int) (r : List Nat) (i j : Nat) : rowFine L r i (j + 1) = (rowFine L r i j && (!(row r i).testBit j || decide (gI L j ≤ gI L i))) := by unfold rowFine; rw [List.range_succ, List.all_append]; simp
theorem fineTo_succ (L : List Int) (r : List Nat) (i : Nat) : fineTo L r (i + 1) = (fineTo L r i && rowFine L r i 6) := by unfold fineTo; rw [List.range_succ, List.all_append]; simp
theorem fineTo_fits {s : St} {L : List Int} (hs : s.ok) (h0 : ∀ i, i < 6 → 0 ≤ gI L i) : fitB L (s.sets 0) = fineTo L (fromL s) 6 := by
  rw [Bool.eq_iff_iff, fitB_iff hs h0]
  unfold fineTo rowFine
  simp only [List.all_eq_true, List.mem_range, Bool.or_eq_true, Bool.not_eq_true', decide_eq_true_eq]
  constructor
  · intro h a ha b hb
    cases hab : (row (fromL s) a).testBit b with
    | false => exact .inl rfl
    | true => exact .inr (h a b ha hb hab)
  · intro h i j hi hj hij
    rcases h i hi j hj with h1 | h1
    · rw [hij] at h1; cases h1
    · exact h1
end Go.Proofs.YthaaekpnemhjoaaDoor
