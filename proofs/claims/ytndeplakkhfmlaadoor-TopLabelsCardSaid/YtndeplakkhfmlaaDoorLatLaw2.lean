/-
  Plain laws on what Join and Meet answer.
-/
import Derived.Test.YtndeplakkhfmlaaDoorLatC
namespace Go.Proofs.YtndeplakkhfmlaaDoor
set_option linter.unusedVariables false

theorem leastI_spec {u : List Nat} {s : Nat} (hs : s < 2 ^ 64) (h : 0 ≤ leastI u s) : ∃ x : Nat, leastI u s = (x : Int) ∧ s.testBit x = true ∧ within s (row u x) = true := by
  unfold leastI at h ⊢
  cases hf : (bitsOf s).find? (fun i => within s (row u i)) with
  | none => rw [hf] at h; simp at h
  | some x => exact ⟨x, rfl, (mem_bitsOf hs).1 (List.mem_of_find?_eq_some hf), by simpa using List.find?_some hf⟩

theorem boundV_ok {r : List Nat} {m : Bool} {a b : Nat} {v : Int} (h1 : r.length ≤ 12) (h2 : Bd r.length r) (ha : a < r.length) (hb : b < r.length) (h : boundV (castL r) m a b = (v, 0)) :
    orderB (closed r) = true ∧ ∃ x : Nat, v = (x : Int) ∧ x < r.length ∧ (row (upOf m (closed r)) a).testBit x = true ∧ (row (upOf m (closed r)) b).testBit x = true ∧
      ∀ k, (row (upOf m (closed r)) a).testBit k = true → (row (upOf m (closed r)) b).testBit k = true → (row (upOf m (closed r)) x).testBit k = true := by
  unfold boundV at h
  rw [length_castL, toNat_castL] at h
  by_cases hc : latCode (castL r) = 0
  · rw [if_neg (by simpa using hc), if_pos ⟨⟨by omega, by omega⟩, by omega, by omega⟩] at h
    simp only [Int.toNat_natCast] at h
    rw [latCode_cast h1 h2] at hc
    have ho : orderB (closed r) = true := by
      cases e : orderB (closed r) with
      | true => rfl
      | false => rw [e] at hc; cases hc
    refine ⟨ho, ?_⟩
    split at h
    · rename_i h0
      injection h with h _
      subst h
      have hcn := length_closed r
      have hbu : Bd r.length (upOf m (closed r)) := by
        have := bd_upOf m (c := closed r) (by rw [hcn]; exact closed_lt r h2)
        rwa [hcn] at this
      have hand : row (upOf m (closed r)) a &&& row (upOf m (closed r)) b < 2 ^ r.length := Nat.and_lt_two_pow _ (hbu b)
      obtain ⟨x, hx, hbit, hw⟩ := leastI_spec (u := upOf m (closed r)) (Nat.lt_of_lt_of_le hand (Nat.pow_le_pow_right (by decide) (by omega))) h0
      rw [Nat.testBit_and, Bool.and_eq_true] at hbit
      refine ⟨x, hx, bit_of (hbu a) hbit.1, hbit.1, hbit.2, fun k h3 h4 => (within_iff _ _).1 hw k (by rw [Nat.testBit_and, h3, h4]; rfl)⟩
    · cases h
  · rw [if_pos hc] at h
    injection h with _ h
    exact absurd h hc

theorem join_spec {r : List Nat} {a b : Nat} {v : Int} (h1 : r.length ≤ 12) (h2 : Bd r.length r) (ha : a < r.length) (hb : b < r.length) (h : boundV (castL r) false a b = (v, 0)) :
    ∃ x : Nat, v = (x : Int) ∧ x < r.length ∧ (row (closed r) a).testBit x = true ∧ (row (closed r) b).testBit x = true ∧
      ∀ k, (row (closed r) a).testBit k = true → (row (closed r) b).testBit k = true → (row (closed r) x).testBit k = true :=
  (boundV_ok h1 h2 ha hb h).2
theorem meet_spec {r : List Nat} {a b : Nat} {v : Int} (h1 : r.length ≤ 12) (h2 : Bd r.length r) (ha : a < r.length) (hb : b < r.length) (h : boundV (castL r) true a b = (v, 0)) :
    ∃ x : Nat, v = (x : Int) ∧ x < r.length ∧ (row (closed r) x).testBit a = true ∧ (row (closed r) x).testBit b = true ∧
      ∀ k, k < r.length → (row (closed r) k).testBit a = true → (row (closed r) k).testBit b = true → (row (closed r) k).testBit x = true := by
  obtain ⟨_, x, hv, hx, h3, h4, h5⟩ := boundV_ok h1 h2 ha hb h
  have hcn := length_closed r
  have e : ∀ i j, i < r.length → j < r.length → (row (upOf true (closed r)) i).testBit j = (row (closed r) j).testBit i := fun i j hi hj => turnL_bit (by omega) (by omega)
  rw [e a x ha hx] at h3
  rw [e b x hb hx] at h4
  exact ⟨x, hv, hx, h3, h4, fun k hk h6 h7 => by
    have := h5 k (by rw [e a k ha hk]; exact h6) (by rw [e b k hb hk]; exact h7)
    rwa [e x k hx hk] at this⟩
end Go.Proofs.YtndeplakkhfmlaaDoor
