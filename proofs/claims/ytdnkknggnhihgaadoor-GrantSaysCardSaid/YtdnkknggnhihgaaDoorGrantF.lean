/-
  Plain laws on the grants that stay, as a list. No program in sight.
-/
import Derived.Test.YtdnkknggnhihgaaDoorGrantW
namespace Go.Proofs.YtdnkknggnhihgaaDoor
set_option linter.unusedVariables false

/-- Those of the first n grants that stay, three numbers each. -/
def gFilt (G : List Int) (k : Nat → Bool) : Nat → List Int
  | 0 => []
  | i + 1 => if k i then gFilt G k i ++ [gFr G i, gTo G i, gTm G i] else gFilt G k i
/-- How many of the first n stay. -/
def gCount (k : Nat → Bool) : Nat → Nat
  | 0 => 0
  | i + 1 => if k i then gCount k i + 1 else gCount k i
section
variable {G : List Int} {k : Nat → Bool} {users : Int}
theorem length_gFilt (n : Nat) : (gFilt G k n).length = gCount k n * 3 := by
  induction n with
  | zero => rfl
  | succ n ih =>
    unfold gFilt gCount
    split
    · rw [List.length_append, ih]; simp; omega
    · exact ih
theorem gCount_le (n : Nat) : gCount k n ≤ n := by
  induction n with
  | zero => exact Nat.le_refl _
  | succ n ih => unfold gCount; split <;> omega
theorem gCount_step (n : Nat) : gCount k n ≤ gCount k (n + 1) := by
  show gCount k n ≤ if k n then gCount k n + 1 else gCount k n
  split <;> omega
theorem gCount_mono {i n : Nat} (h : i ≤ n) : gCount k i ≤ gCount k n := by
  induction n with
  | zero => obtain rfl : i = 0 := by omega
            exact Nat.le_refl _
  | succ n ih =>
    rcases Nat.lt_or_ge i (n + 1) with h1 | h1
    · exact Nat.le_trans (ih (by omega)) (gCount_step n)
    · obtain rfl : i = n + 1 := by omega
      exact Nat.le_refl _
theorem gCount_lt {i n : Nat} (h : i < n) (hk : k i = true) : gCount k i < gCount k n := by
  have h1 : gCount k (i + 1) = gCount k i + 1 := by
    show (if k i then gCount k i + 1 else gCount k i) = _
    rw [if_pos hk]
  have := gCount_mono (k := k) (show i + 1 ≤ n by omega)
  omega
theorem gCount_at {x n : Nat} (h : x < gCount k n) : ∃ i, i < n ∧ k i = true ∧ gCount k i = x := by
  induction n with
  | zero => unfold gCount at h; omega
  | succ n ih =>
    unfold gCount at h
    split at h
    · rename_i hk
      rcases Nat.lt_or_ge x (gCount k n) with h1 | h1
      · obtain ⟨i, hi, r⟩ := ih h1
        exact ⟨i, by omega, r⟩
      · exact ⟨n, by omega, hk, by omega⟩
    · obtain ⟨i, hi, r⟩ := ih h
      exact ⟨i, by omega, r⟩
theorem gI_left {l m : List Int} {i : Nat} (h : i < l.length) : gI (l ++ m) i = gI l i := by
  unfold gI
  rw [List.getD_eq_getElem?_getD, List.getD_eq_getElem?_getD, List.getElem?_append_left h]
theorem gI_right {l m : List Int} {i j : Nat} (h : i = l.length + j) : gI (l ++ m) i = gI m j := by
  subst h
  unfold gI
  rw [List.getD_eq_getElem?_getD, List.getD_eq_getElem?_getD, List.getElem?_append_right (by omega)]
  congr 2
  omega
theorem gFilt_at {i n : Nat} (h : i < n) (hk : k i = true) : gFr (gFilt G k n) (gCount k i) = gFr G i ∧ gTo (gFilt G k n) (gCount k i) = gTo G i ∧ gTm (gFilt G k n) (gCount k i) = gTm G i := by
  induction n with
  | zero => omega
  | succ n ih =>
    have hl := length_gFilt (G := G) (k := k) n
    rcases Nat.lt_or_ge i n with h1 | h1
    · have hc := gCount_lt h1 hk
      obtain ⟨e1, e2, e3⟩ := ih h1
      unfold gFilt
      split
      · unfold gFr gTo gTm at *
        rw [gI_left (by omega), gI_left (by omega), gI_left (by omega)]
        exact ⟨e1, e2, e3⟩
      · exact ⟨e1, e2, e3⟩
    · obtain rfl : i = n := by omega
      unfold gFilt
      rw [if_pos hk]
      unfold gFr gTo gTm
      rw [gI_right (j := 0) (by omega), gI_right (j := 1) (by omega), gI_right (j := 2) (by omega)]
      exact ⟨rfl, rfl, rfl⟩
/-- Who has the right by what stays of the first n. -/
theorem gFilt_held {n : Nat} {u : Int} : gHeld (gFilt G k n) (gCount k n) u = true ↔ u = 0 ∨ ∃ i, i < n ∧ k i = true ∧ gTo G i = u := by
  rw [gHeld_iff]
  constructor
  · rintro (e | ⟨x, hx, e⟩)
    · exact .inl e
    · obtain ⟨i, hi, hk, rfl⟩ := gCount_at hx
      rw [(gFilt_at hi hk).2.1] at e
      exact .inr ⟨i, hi, hk, e⟩
  · rintro (e | ⟨i, hi, hk, e⟩)
    · exact .inl e
    · exact .inr ⟨_, gCount_lt hi hk, by rw [(gFilt_at hi hk).2.1]; exact e⟩
/-- Times rise. -/
theorem gTm_rise {n : Nat} (h : ∀ i, i < n → gBad users G i = 0) : ∀ i j, i < j → j < n → gTm G i < gTm G j := by
  intro i j
  induction j with
  | zero => intro h1; omega
  | succ j ih =>
    intro h1 h2
    have hs := (gBad_zero.1 (h (j + 1) h2)).2.1 (by omega)
    simp only [Nat.add_sub_cancel] at hs
    rcases Nat.lt_or_ge i j with h3 | h3
    · have := ih h3 (by omega); omega
    · obtain rfl : i = j := by omega
      exact hs
/-- What stays is well granted, up to any grant. -/
theorem gFilt_ok {P : Nat → Bool} {n : Nat} (h : ∀ i, i < n → gBad users G i = 0) : ∀ x, x < gCount (kept (gFr G) (gTo G) P) n → gBad users (gFilt G (kept (gFr G) (gTo G) P) n) x = 0 := by
  intro x hx
  obtain ⟨i, hi, hk, rfl⟩ := gCount_at hx
  obtain ⟨e1, e2, e3⟩ := gFilt_at (G := G) hi hk
  have hb := gBad_zero.1 (h i hi)
  rw [gBad_zero]
  refine ⟨?_, fun h0 => ?_, ?_⟩
  · unfold gIn
    rw [e1, e2, e3]
    exact hb.1
  · obtain ⟨j, hj, hkj, ej⟩ := gCount_at (k := kept (gFr G) (gTo G) P) (n := i) (x := gCount (kept (gFr G) (gTo G) P) i - 1) (by omega)
    rw [← ej, (gFilt_at (G := G) (by omega) hkj).2.2, e3]
    exact gTm_rise h j i hj hi
  · rw [e1, gHeld_iff]
    rcases ((kept_iff i).1 hk).2 with e | ⟨j, hj, hkj, e⟩
    · exact .inl e
    · exact .inr ⟨_, gCount_lt hj hkj, by rw [(gFilt_at (G := G) (by omega) hkj).2.1]; exact e⟩
end
end Go.Proofs.YtdnkknggnhihgaaDoor
