/-
  There is a way just where the closure says so. A plain law; no program of Go in sight.
-/
import Derived.Test.YtndeplakkhfmlaaDoorStepsLaw
import Derived.Test.YtndeplakkhfmlaaDoorOrderLaw
namespace Go.Proofs.YtndeplakkhfmlaaDoor
set_option linter.unusedVariables false

theorem way_append {E : Nat → Nat → Prop} {a b : Nat} {p q : List Nat} {c : Nat} (h : WayTo E a p b) (k : WayTo E b q c) : WayTo E a (p ++ q.tail) c := by
  induction k with
  | start => simpa using h
  | @more q z x hq he ih =>
    have e : (q ++ [x]).tail = q.tail ++ [x] := by
      cases q with
      | nil => have := hq.pos; simp at this
      | cons y q => rfl
    rw [e, ← List.append_assoc]
    exact .more ih he
section
variable {r : List Nat}
theorem way_bit {a b : Nat} {p : List Nat} (h : WayTo (rE r) a p b) : (a < r.length) → (row (closed r) a).testBit b = true := by
  intro ha
  have hi := closed_inv r
  induction h with
  | start => exact hi.self a ha
  | @more p z x hp he ih => exact hi.trans a z ha he.1 he.1 ih x (hi.more z he.1 x he.2.2)
open Classical in
theorem bit_way (hb : Bd r.length r) {a b : Nat} (ha : a < r.length) (h : (row (closed r) a).testBit b = true) : ∃ p, WayTo (rE r) a p b := by
  have hrow : ∀ i j, i < r.length → ((row (relN (fun i j => decide (∃ p, WayTo (rE r) i p j)) r.length) i).testBit j = true ↔ j < r.length ∧ ∃ p, WayTo (rE r) i p j) := fun i j hi => by
    have e : row (relN (fun i j => decide (∃ p, WayTo (rE r) i p j)) r.length) i = maskN (fun j => decide (∃ p, WayTo (rE r) i p j)) r.length := by
      unfold row relN; rw [List.getElem?_map, List.getElem?_range hi]; rfl
    rw [e, testBit_maskN, Bool.and_eq_true, decide_eq_true_eq, decide_eq_true_eq]
  have := (closed_inv r).least (relN (fun i j => decide (∃ p, WayTo (rE r) i p j)) r.length) (fun i hi => ?_) a ha b h
  · exact ((hrow a b ha).1 this).2
  · refine ⟨(hrow i i hi).2 ⟨hi, _, .start⟩, fun j hj => ?_, fun j hj hij k hk => ?_⟩
    · have hjn : j < r.length := by
        rcases Nat.lt_or_ge j r.length with h1 | h1
        · exact h1
        · rw [Nat.testBit_lt_two_pow (Nat.lt_of_lt_of_le (hb i) (Nat.pow_le_pow_right (by decide) h1))] at hj; cases hj
      exact (hrow i j hi).2 ⟨hjn, _, .more .start ⟨hi, hjn, hj⟩⟩
    · obtain ⟨hk1, q, hq⟩ := (hrow j k hj).1 hk
      obtain ⟨_, p, hp⟩ := (hrow i j hi).1 hij
      exact (hrow i k hi).2 ⟨hk1, _, way_append hp hq⟩
end
end Go.Proofs.YtndeplakkhfmlaaDoor
