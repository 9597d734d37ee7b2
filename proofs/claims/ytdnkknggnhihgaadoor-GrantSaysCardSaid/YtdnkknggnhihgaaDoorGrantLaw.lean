/-
  Plain laws on grants and what is left of them. No program in sight.
-/
import Derived.Test.YtdnkknggnhihgaaDoorBase
namespace Go.Proofs.YtdnkknggnhihgaaDoor
set_option linter.unusedVariables false

/-- Grant number i stays: it is not one of those that are revoked, and who gave it had the right by grants that stay. -/
def kept (fr to : Nat → Int) (P : Nat → Bool) (i : Nat) : Bool :=
  !P i && (fr i == 0 || (List.range i).attach.any (fun ⟨j, hj⟩ => kept fr to P j && to j == fr i))
termination_by i
decreasing_by exact List.mem_range.1 hj

section
variable {fr to : Nat → Int} {P : Nat → Bool}
theorem kept_iff (i : Nat) : kept fr to P i = true ↔ P i = false ∧ (fr i = 0 ∨ ∃ j, j < i ∧ kept fr to P j = true ∧ to j = fr i) := by
  rw [kept]
  simp only [Bool.and_eq_true, Bool.or_eq_true, Bool.not_eq_true', beq_iff_eq, List.any_eq_true]
  constructor
  · rintro ⟨h1, h2⟩
    refine ⟨h1, ?_⟩
    rcases h2 with h2 | ⟨⟨j, hj⟩, _, h3, h4⟩
    · exact .inl h2
    · exact .inr ⟨j, List.mem_range.1 hj, h3, h4⟩
  · rintro ⟨h1, h2⟩
    refine ⟨h1, ?_⟩
    rcases h2 with h2 | ⟨j, hj, h3, h4⟩
    · exact .inl h2
    · exact .inr ⟨⟨j, List.mem_range.2 hj⟩, List.mem_attach _ _, h3, h4⟩

/-- One step of the revoking: what may go, goes. -/
theorem kept_no {n i : Nat} {gone : Nat → Bool} (hi : i < n) (hb : ∀ j, j < n → gone j = true → kept fr to P j = false) (h0 : fr i ≠ 0) (hn : ∀ j, j < i → gone j = false → to j ≠ fr i) : kept fr to P i = false := by
  cases h : kept fr to P i with
  | false => rfl
  | true =>
    rcases ((kept_iff i).1 h).2 with e | ⟨j, hj, hk, ht⟩
    · exact absurd e h0
    · cases hg : gone j with
      | true => rw [hb j (by omega) hg] at hk; cases hk
      | false => exact absurd ht (hn j hj hg)
/-- Where nothing more goes, what has gone is what does not stay. -/
theorem gone_kept {n : Nat} {gone : Nat → Bool} (ha : ∀ i, i < n → P i = true → gone i = true) (hb : ∀ i, i < n → gone i = true → kept fr to P i = false)
    (hc : ∀ i, i < n → gone i = false → fr i = 0 ∨ ∃ j, j < i ∧ gone j = false ∧ to j = fr i) : ∀ i, i < n → gone i = !kept fr to P i := by
  intro i
  induction i using Nat.strongRecOn with
  | ind i ih =>
    intro hi
    cases hg : gone i with
    | true => rw [hb i hi hg]; rfl
    | false =>
      have hP : P i = false := by
        cases h : P i with
        | false => rfl
        | true => rw [ha i hi h] at hg; cases hg
      have : kept fr to P i = true := by
        rw [kept_iff]
        refine ⟨hP, ?_⟩
        rcases hc i hi hg with e | ⟨j, hj, hgj, ht⟩
        · exact .inl e
        · refine .inr ⟨j, hj, ?_, ht⟩
          have := ih j hj (by omega)
          rw [hgj] at this
          cases hk : kept fr to P j with
          | true => rfl
          | false => rw [hk] at this; cases this
      rw [this]; rfl
/-- To revoke more leaves less. -/
theorem kept_mono {P' : Nat → Bool} (h : ∀ i, P i = true → P' i = true) : ∀ i, kept fr to P' i = true → kept fr to P i = true := by
  intro i
  induction i using Nat.strongRecOn with
  | ind i ih =>
    intro hk
    rw [kept_iff] at hk ⊢
    refine ⟨?_, ?_⟩
    · cases hP : P i with
      | false => rfl
      | true => rw [h i hP] at hk; cases hk.1
    · rcases hk.2 with e | ⟨j, hj, h1, h2⟩
      · exact .inl e
      · exact .inr ⟨j, hj, ih j hj h1, h2⟩
/-- Nothing revoked: all stay, where each was given by one who had the right. -/
theorem kept_all {n : Nat} (h : ∀ i, i < n → fr i = 0 ∨ ∃ j, j < i ∧ to j = fr i) : ∀ i, i < n → kept fr to (fun _ => false) i = true := by
  intro i
  induction i using Nat.strongRecOn with
  | ind i ih =>
    intro hi
    rw [kept_iff]
    refine ⟨rfl, ?_⟩
    rcases h i hi with e | ⟨j, hj, ht⟩
    · exact .inl e
    · exact .inr ⟨j, hj, ih j hj (by omega), ht⟩
/-- One revoked behind the other is both revoked at once. -/
theorem kept_two {Q : Nat → Bool} : ∀ i, (kept fr to P i && kept fr to (fun j => Q j || !kept fr to P j) i) = kept fr to (fun j => P j || Q j) i := by
  have hA : ∀ i, kept fr to (fun j => P j || Q j) i = true → kept fr to (fun j => Q j || !kept fr to P j) i = true := by
    intro i
    induction i using Nat.strongRecOn with
    | ind i ih =>
      intro hk
      have hp := kept_mono (P := P) (P' := fun j => P j || Q j) (fun j hj => by simp [hj]) i hk
      rw [kept_iff] at hk ⊢
      refine ⟨?_, ?_⟩
      · have := hk.1
        simp only [Bool.or_eq_false_iff] at this
        simp [this.2, hp]
      · rcases hk.2 with e | ⟨j, hj, h1, h2⟩
        · exact .inl e
        · exact .inr ⟨j, hj, ih j hj h1, h2⟩
  have hB : ∀ i, kept fr to (fun j => Q j || !kept fr to P j) i = true → kept fr to (fun j => P j || Q j) i = true := by
    intro i
    induction i using Nat.strongRecOn with
    | ind i ih =>
      intro hk
      rw [kept_iff] at hk ⊢
      obtain ⟨h1, h2⟩ := hk
      simp only [Bool.or_eq_false_iff, Bool.not_eq_false'] at h1
      refine ⟨?_, ?_⟩
      · have := ((kept_iff i).1 h1.2).1
        simp [this, h1.1]
      · rcases h2 with e | ⟨j, hj, h3, h4⟩
        · exact .inl e
        · exact .inr ⟨j, hj, ih j hj h3, h4⟩
  intro i
  cases h : kept fr to (fun j => P j || Q j) i with
  | true => rw [hA i h, kept_mono (P := P) (P' := fun j => P j || Q j) (fun j hj => by simp [hj]) i h]; rfl
  | false =>
    cases h2 : kept fr to (fun j => Q j || !kept fr to P j) i with
    | false => simp
    | true => rw [hB i h2] at h; cases h
end
end Go.Proofs.YtdnkknggnhihgaaDoor
