/-
  Plain laws for GrantNever, GrantLeft, GrantOrder. No program in sight.
-/
import Derived.Test.YtdnkknggnhihgaaDoorGrantF
namespace Go.Proofs.YtdnkknggnhihgaaDoor
set_option linter.unusedVariables false
section
variable {G : List Int} {k : Nat → Bool} {users : Int} {P Q : Nat → Bool}
/-- One by one: the next stays if it is not revoked and who gave it has the right then. -/
theorem kept_step (i : Nat) : kept (gFr G) (gTo G) P i = (!P i && gHeld (gFilt G (kept (gFr G) (gTo G) P) i) (gCount (kept (gFr G) (gTo G) P) i) (gFr G i)) := by
  rw [Bool.eq_iff_iff, kept_iff, Bool.and_eq_true, Bool.not_eq_true', gFilt_held]
/-- What does not stay is not the next one of those that do. -/
theorem gFilt_skip {i n : Nat} (h : ∀ i, i < n → gBad users G i = 0) (hi : i < n) (hk : k i = false) (hc : gCount k i < gCount k n) : gTm G i < gTm (gFilt G k n) (gCount k i) := by
  obtain ⟨j, hj, hkj, e⟩ := gCount_at hc
  rw [← e, (gFilt_at (G := G) hj hkj).2.2]
  refine gTm_rise h i j ?_ hj
  rcases Nat.lt_or_ge i j with h1 | h1
  · exact h1
  · exfalso
    rcases Nat.lt_or_ge j i with h2 | h2
    · have := gCount_lt h2 hkj; omega
    · obtain rfl : i = j := by omega
      rw [hk] at hkj; cases hkj
theorem gCount_less {n : Nat} (h : ∃ i, i < n ∧ k i = false) : gCount k n < n := by
  obtain ⟨i, hi, hk⟩ := h
  have h1 : gCount k (i + 1) = gCount k i := by
    show (if k i then gCount k i + 1 else gCount k i) = _
    rw [hk]; rfl
  have h2 := gCount_le (k := k) i
  have h3 : ∀ m, i + 1 ≤ m → gCount k m + 1 ≤ m := by
    intro m
    induction m with
    | zero => intro hm; omega
    | succ m ih =>
      intro hm
      rcases Nat.lt_or_ge i m with h4 | h4
      · have := ih (by omega)
        show (if k m then gCount k m + 1 else gCount k m) + 1 ≤ m + 1
        split <;> omega
      · obtain rfl : i = m := by omega
        omega
  exact h3 n (by omega)
/-- Those that stay of those that stay. -/
theorem gFilt_filt {k' : Nat → Bool} {N : Nat} : ∀ n, n ≤ N → gFilt (gFilt G k N) k' (gCount k n) = gFilt G (fun i => k i && k' (gCount k i)) n := by
  intro n
  induction n with
  | zero => intro _; rfl
  | succ n ih =>
    intro hn
    have ih := ih (by omega)
    cases hk : k n with
    | false =>
      have h1 : gCount k (n + 1) = gCount k n := by
        show (if k n then gCount k n + 1 else gCount k n) = _
        rw [hk]; rfl
      rw [h1, ih]
      show _ = if (k n && k' (gCount k n)) = true then _ else _
      rw [hk]; rfl
    | true =>
      have h1 : gCount k (n + 1) = gCount k n + 1 := by
        show (if k n then gCount k n + 1 else gCount k n) = _
        rw [hk]; rfl
      obtain ⟨e1, e2, e3⟩ := gFilt_at (G := G) (k := k) (show n < N by omega) hk
      rw [h1]
      show (if k' (gCount k n) = true then gFilt (gFilt G k N) k' (gCount k n) ++ [gFr (gFilt G k N) (gCount k n), gTo (gFilt G k N) (gCount k n), gTm (gFilt G k N) (gCount k n)] else gFilt (gFilt G k N) k' (gCount k n)) = if (k n && k' (gCount k n)) = true then _ else _
      rw [hk, Bool.true_and, ih, e1, e2, e3]
theorem gCount_inj {i j : Nat} (hi : k i = true) (hj : k j = true) (h : gCount k i < gCount k j) : i < j := by
  rcases Nat.lt_or_ge i j with h1 | h1
  · exact h1
  · have := gCount_mono (k := k) h1; omega
/-- To revoke in what stays. -/
theorem kept_filt {n : Nat} {QX : Nat → Bool} (hQ : ∀ j, j < n → kept (gFr G) (gTo G) P j = true → QX (gCount (kept (gFr G) (gTo G) P) j) = Q j) : ∀ i, i < n → kept (gFr G) (gTo G) P i = true →
    kept (gFr (gFilt G (kept (gFr G) (gTo G) P) n)) (gTo (gFilt G (kept (gFr G) (gTo G) P) n)) QX (gCount (kept (gFr G) (gTo G) P) i) = kept (gFr G) (gTo G) (fun j => Q j || !kept (gFr G) (gTo G) P j) i := by
  intro i
  induction i using Nat.strongRecOn with
  | ind i ih =>
    intro hi hk
    obtain ⟨e1, e2, e3⟩ := gFilt_at (G := G) hi hk
    rw [Bool.eq_iff_iff, kept_iff, kept_iff, hQ i hi hk, e1, hk]
    simp only [Bool.not_true, Bool.or_false]
    constructor
    · rintro ⟨h1, h2⟩
      refine ⟨h1, ?_⟩
      rcases h2 with e | ⟨x, hx, hkx, ht⟩
      · exact .inl e
      · obtain ⟨j, hj, hkj, rfl⟩ := gCount_at hx
        rw [ih j hj (by omega) hkj] at hkx
        rw [(gFilt_at (G := G) (show j < n by omega) hkj).2.1] at ht
        exact .inr ⟨j, hj, hkx, ht⟩
    · rintro ⟨h1, h2⟩
      refine ⟨h1, ?_⟩
      rcases h2 with e | ⟨j, hj, hkj, ht⟩
      · exact .inl e
      · have hkP : kept (gFr G) (gTo G) P j = true := by
          have := ((kept_iff j).1 hkj).1
          simp only [Bool.or_eq_false_iff, Bool.not_eq_false'] at this
          exact this.2
        exact .inr ⟨_, gCount_lt hj hkP, by rw [ih j hj (by omega) hkP]; exact hkj, by rw [(gFilt_at (G := G) (show j < n by omega) hkP).2.1]; exact ht⟩
theorem gFilt_congr {k' : Nat → Bool} {n : Nat} (h : ∀ i, i < n → k i = k' i) : gFilt G k n = gFilt G k' n := by
  induction n with
  | zero => rfl
  | succ n ih =>
    unfold gFilt
    rw [ih (fun i hi => h i (by omega)), h n (by omega)]
/-- It does not matter which goes first. -/
theorem gFilt_two {n : Nat} {QX : Nat → Bool} (hQ : ∀ j, j < n → kept (gFr G) (gTo G) P j = true → QX (gCount (kept (gFr G) (gTo G) P) j) = Q j) :
    gFilt (gFilt G (kept (gFr G) (gTo G) P) n) (kept (gFr (gFilt G (kept (gFr G) (gTo G) P) n)) (gTo (gFilt G (kept (gFr G) (gTo G) P) n)) QX) (gCount (kept (gFr G) (gTo G) P) n) = gFilt G (kept (gFr G) (gTo G) (fun j => P j || Q j)) n := by
  rw [gFilt_filt n (Nat.le_refl _)]
  refine gFilt_congr fun i hi => ?_
  rw [← kept_two]
  cases hk : kept (gFr G) (gTo G) P i with
  | false => rfl
  | true => rw [kept_filt hQ i hi hk]
/-- Nobody gains. -/
theorem gFilt_sub {n : Nat} {u : Int} (h : gHeld (gFilt G k n) (gCount k n) u = true) : gHeld G n u = true := by
  rw [gFilt_held] at h
  rw [gHeld_iff]
  rcases h with e | ⟨i, hi, _, e⟩
  · exact .inl e
  · exact .inr ⟨i, hi, e⟩
theorem gSet_sub {n : Nat} (h : ∀ i, i < n → 0 ≤ gTo G i) (j : Nat) (hj : (gSet (gFilt G k n) (gCount k n)).testBit j = true) : (gSet G n).testBit j = true := by
  have e : (j : Int).toNat = j := by simp
  have hx : ∀ x, x < gCount k n → 0 ≤ gTo (gFilt G k n) x := fun x hx => by
    obtain ⟨i, hi, hk, rfl⟩ := gCount_at hx
    rw [(gFilt_at hi hk).2.1]
    exact h i hi
  rw [← e, gSet_held (by omega) hx] at hj
  rw [← e, gSet_held (by omega) h]
  exact gFilt_sub hj
/-- Revoked again there is nothing. -/
theorem gFilt_none {n : Nat} {PX : Nat → Bool} (hP : ∀ j, j < n → kept (gFr G) (gTo G) P j = true → PX (gCount (kept (gFr G) (gTo G) P) j) = P j) : ∀ x, x < gCount (kept (gFr G) (gTo G) P) n → PX x = false := fun x hx => by
  obtain ⟨i, hi, hk, rfl⟩ := gCount_at hx
  rw [hP i hi hk]
  exact ((kept_iff i).1 hk).1
end
end Go.Proofs.YtdnkknggnhihgaaDoor
