/-
  Plain law: the path by which a user has the right. No program in sight.
-/
import Derived.Test.YtdnkknggnhihgaaDoorGrantG
namespace Go.Proofs.YtdnkknggnhihgaaDoor
set_option linter.unusedVariables false

/-- The path by the first n grants to a user. -/
inductive GWay (G : List Int) : Nat → Int → List Int → Prop
  | zero (n : Nat) : GWay G n 0 [0]
  | step {n i : Nat} {u : Int} {p : List Int} (hu : u ≠ 0) (hi : i < n) (ht : gTo G i = u) (hn : ∀ j, j < i → gTo G j ≠ u) (h : GWay G i (gFr G i) p) : GWay G n u (p ++ [u])
section
variable {G : List Int} {n : Nat} {u : Int} {p q : List Int}
theorem GWay.one (h : GWay G n u p) : ∀ {q}, GWay G n u q → p = q := by
  induction h with
  | zero n =>
    intro q h2
    cases h2 with
    | zero => rfl
    | step hu => exact absurd rfl hu
  | step hu hi ht hn h ih =>
    intro q h2
    cases h2 with
    | zero => exact absurd rfl hu
    | step hu2 hi2 ht2 hn2 h3 =>
      rename_i i _ _ j _
      have e : i = j := by
        rcases Nat.lt_trichotomy i j with h4 | h4 | h4
        · exact absurd ht (hn2 i h4)
        · exact h4
        · exact absurd ht2 (hn j h4)
      subst e
      rw [ih h3]
theorem GWay.ne (h : GWay G n u p) : p ≠ [] := by cases h <;> simp
theorem GWay.len (h : GWay G n u p) : p.length ≤ n + 1 := by
  induction h with
  | zero n => simp
  | step hu hi ht hn h ih => rw [List.length_append]; simp; omega
theorem GWay.first (h : GWay G n u p) : gI p 0 = 0 := by
  induction h with
  | zero n => rfl
  | step hu hi ht hn h ih =>
    have := h.ne
    unfold gI at *
    rw [List.getD_eq_getElem?_getD, List.getElem?_append_left (List.length_pos_iff.2 this), ← List.getD_eq_getElem?_getD]
    exact ih
theorem GWay.last (h : GWay G n u p) : gI p (p.length - 1) = u := by
  cases h with
  | zero => rfl
  | step hu hi ht hn h =>
    unfold gI
    rw [List.length_append, List.getD_eq_getElem?_getD]
    simp
/-- There is one just to those who have the right. -/
theorem GWay.ex {users : Int} (h : ∀ i, i < n → gBad users G i = 0) : ∀ m u, m ≤ n → gHeld G m u = true → ∃ p, GWay G m u p := by
  intro m
  induction m using Nat.strongRecOn with
  | ind m ih =>
    intro u hm hh
    by_cases hu : u = 0
    · subst hu; exact ⟨_, .zero m⟩
    · rcases gHeld_iff.1 hh with e | ⟨i, hi, ht⟩
      · exact absurd e hu
      · -- the first one
        have hex : ∃ k, k < m ∧ gTo G k = u ∧ ∀ j, j < k → gTo G j ≠ u := by
          induction i using Nat.strongRecOn with
          | ind i ihi =>
            by_cases hc : ∃ j, j < i ∧ gTo G j = u
            · obtain ⟨j, hj, e⟩ := hc
              exact ihi j hj (by omega) e
            · exact ⟨i, hi, ht, fun j hj e => hc ⟨j, hj, e⟩⟩
        obtain ⟨k, hk, htk, hnk⟩ := hex
        have hb := (gBad_zero.1 (h k (by omega))).2.2
        obtain ⟨p, hp⟩ := ih k hk (gFr G k) (by omega) hb
        exact ⟨_, .step hu hk htk hnk hp⟩
theorem GWay.held (h : GWay G n u p) : gHeld G n u = true := by
  cases h with
  | zero => rfl
  | step hu hi ht hn h => exact gHeld_iff.2 (.inr ⟨_, hi, ht⟩)
/-- Along it each was granted it by the one ahead, at rising times. -/
theorem GWay.along (h : GWay G n u p) : ∃ idx : Nat → Nat, (∀ k, 1 ≤ k → k < p.length → idx k < n ∧ gFr G (idx k) = gI p (k - 1) ∧ gTo G (idx k) = gI p k) ∧ ∀ k, 2 ≤ k → k < p.length → idx (k - 1) < idx k := by
  induction h with
  | zero n => exact ⟨fun _ => 0, fun k h1 h2 => by simp at h2; omega, fun k h1 h2 => by simp at h2; omega⟩
  | step hu hi ht hn h ih =>
    rename_i n i u p
    obtain ⟨idx, h1, h2⟩ := ih
    have hp := List.length_pos_iff.2 h.ne
    have hL : ∀ k, k < p.length → gI (p ++ [u]) k = gI p k := fun k hk => by
      unfold gI
      rw [List.getD_eq_getElem?_getD, List.getElem?_append_left hk, ← List.getD_eq_getElem?_getD]
    have hR : gI (p ++ [u]) p.length = u := by
      unfold gI
      rw [List.getD_eq_getElem?_getD]; simp
    refine ⟨fun k => if k < p.length then idx k else i, fun k hk1 hk2 => ?_, fun k hk1 hk2 => ?_⟩
    · rw [List.length_append, List.length_singleton] at hk2
      dsimp only
      by_cases hlt : k < p.length
      · rw [if_pos hlt, hL k hlt, hL (k - 1) (by omega)]
        obtain ⟨a, b, c⟩ := h1 k hk1 hlt
        exact ⟨by omega, b, c⟩
      · obtain rfl : k = p.length := by omega
        rw [if_neg hlt, hR, hL _ (by omega), h.last]
        exact ⟨hi, rfl, ht⟩
    · rw [List.length_append, List.length_singleton] at hk2
      dsimp only
      by_cases hlt : k < p.length
      · rw [if_pos hlt, if_pos (by omega)]; exact h2 k hk1 hlt
      · rw [if_neg hlt, if_pos (by omega)]
        exact (h1 (k - 1) (by omega) (by omega)).1
end
end Go.Proofs.YtdnkknggnhihgaaDoor
