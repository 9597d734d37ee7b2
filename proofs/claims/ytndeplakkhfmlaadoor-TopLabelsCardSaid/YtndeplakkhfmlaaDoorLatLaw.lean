/-
  Plain laws on bounds. No program in sight.
-/
import Derived.Test.YtndeplakkhfmlaaDoorOrderLaw
namespace Go.Proofs.YtndeplakkhfmlaaDoor
set_option linter.unusedVariables false

theorem row_ext {p q : List Nat} (hl : p.length = q.length) (h : ∀ i, i < p.length → row p i = row q i) : p = q := by
  refine List.ext_getElem? fun i => ?_
  rcases Nat.lt_or_ge i p.length with hi | hi
  · have := h i hi
    unfold row at this
    rw [List.getElem?_eq_getElem hi, List.getElem?_eq_getElem (by omega)] at this ⊢
    simp at this
    rw [this]
  · rw [List.getElem?_eq_none hi, List.getElem?_eq_none (by omega)]
theorem length_relN (p : Nat → Nat → Bool) (n : Nat) : (relN p n).length = n := by unfold relN; simp
def turnL (u : List Nat) : List Nat := relN (fun b a => (row u a).testBit b) u.length
theorem turned_eq {u D : List Nat} {n : Nat} (hu : u.length = n) (hl : D.length = n) (hb : Bd n D) (h : Turned n u D) : D = turnL u := by
  refine row_ext (by rw [hl]; unfold turnL; rw [length_relN, hu]) fun i hi => ?_
  refine Nat.eq_of_testBit_eq fun j => ?_
  unfold turnL
  rw [hu, testBit_relN _ _ _ _ (by omega)]
  rcases Nat.lt_or_ge j n with hj | hj
  · rw [Bool.eq_iff_iff, h j i hj (by omega)]; simp [hj]
  · have : (row D i).testBit j = false := Nat.testBit_lt_two_pow (Nat.lt_of_lt_of_le (hb i) (Nat.pow_le_pow_right (by decide) hj))
    rw [this]; simp; omega
theorem length_turnL (u : List Nat) : (turnL u).length = u.length := length_relN _ _
theorem turnL_bit {u : List Nat} {a b : Nat} (ha : a < u.length) (hb : b < u.length) : (row (turnL u) b).testBit a = (row u a).testBit b := by
  unfold turnL; rw [testBit_relN _ _ _ _ hb]; simp [ha]
theorem row_nil_out {l : List Nat} {i : Nat} (h : l.length ≤ i) : row l i = 0 := row_out l i h
theorem bd_turnL (u : List Nat) : Bd u.length (turnL u) := fun i => by
  rcases Nat.lt_or_ge i u.length with hi | hi
  · refine Nat.lt_pow_two_of_testBit _ fun j hj => ?_
    unfold turnL; rw [testBit_relN _ _ _ _ hi]; simp; omega
  · rw [row_out _ _ (by rw [length_turnL]; exact hi)]; exact Nat.two_pow_pos _
def upOf (turn : Bool) (c : List Nat) : List Nat := if turn then turnL c else c
theorem length_upOf (turn : Bool) (c : List Nat) : (upOf turn c).length = c.length := by unfold upOf; split <;> simp [length_turnL]
theorem bd_upOf (turn : Bool) {c : List Nat} (h : Bd c.length c) : Bd c.length (upOf turn c) := by unfold upOf; split <;> simp_all [bd_turnL]
end Go.Proofs.YtndeplakkhfmlaaDoor
