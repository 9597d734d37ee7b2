/-
  A least way has no thing twice; steps as they lie in memory. Plain laws.
-/
import Derived.Test.YtpfmllpodjcldaaDoorPlanLaw2
import Derived.Test.YtpfmllpodjcldaaDoorTakeQ
namespace Go.Proofs.YtpfmllpodjcldaaDoor
set_option linter.unusedVariables false

section
variable {E : Nat → Nat → Prop} {a : Nat}
theorem way_prefix {p : List Nat} {z : Nat} (h : WayTo E a p z) : ∀ x ∈ p, ∃ r, WayTo E a r x ∧ r <+: p := by
  induction h with
  | start => intro x hx; rw [List.mem_singleton] at hx; subst hx; exact ⟨_, .start, List.prefix_refl _⟩
  | @more p z y h e ih =>
    intro x hx
    rcases List.mem_append.1 hx with h1 | h1
    · obtain ⟨r, h2, h3⟩ := ih x h1
      exact ⟨r, h2, h3.trans (List.prefix_append _ _)⟩
    · rw [List.mem_singleton] at h1
      subst h1
      exact ⟨_, .more h e, List.prefix_refl _⟩
theorem way_short : ∀ (m : Nat) {p : List Nat} {x : Nat}, p.length ≤ m → WayTo E a p x → ∃ r, WayTo E a r x ∧ r.Nodup ∧ r.length ≤ p.length ∧ (r.length = p.length → r = p) := by
  intro m
  induction m with
  | zero => intro p x hm h; have := h.pos; omega
  | succ m ih =>
    intro p x hm h
    cases h with
    | start => exact ⟨[a], .start, by simp, Nat.le_refl _, fun _ => rfl⟩
    | @more q z _ h e =>
      rw [List.length_append, List.length_singleton] at hm
      obtain ⟨r, h1, h2, h3, h4⟩ := ih (by omega) h
      by_cases hx : x ∈ r
      · obtain ⟨s, k1, k2⟩ := way_prefix h1 x hx
        have := k2.length_le
        exact ⟨s, k1, k2.sublist.nodup h2, by rw [List.length_append, List.length_singleton]; omega, fun e => by rw [List.length_append, List.length_singleton] at e; omega⟩
      · refine ⟨r ++ [x], .more h1 e, ?_, by simp; omega, fun e => ?_⟩
        · rw [List.nodup_append]
          exact ⟨h2, by simp, fun u hu v hv => by rw [List.mem_singleton] at hv; subst hv; rintro rfl; exact hx hu⟩
        · rw [h4 (by simpa using e)]
theorem least_nodup {good : Nat → Prop} {p : List Nat} {x : Nat} (h : WayTo E a p x) (hx : good x) (hl : ∀ p' x', WayTo E a p' x' → good x' → SLe p p') : p.Nodup := by
  obtain ⟨r, h1, h2, h3, h4⟩ := way_short p.length (Nat.le_refl _) h
  have := (hl r x h1 hx).length
  rw [← h4 (by omega)]; exact h2
theorem way_lt {n : Nat} (ha : a < n) (hE : ∀ x y, E x y → y < n) {p : List Nat} {x : Nat} (h : WayTo E a p x) : ∀ y ∈ p, y < n := by
  induction h with
  | start => intro y hy; rw [List.mem_singleton] at hy; subst hy; exact ha
  | more h e ih =>
    intro y hy
    rcases List.mem_append.1 hy with h1 | h1
    · exact ih y h1
    · rw [List.mem_singleton] at h1; subst h1; exact hE _ _ e
end
theorem nodup_getD {p : List Nat} (h : p.Nodup) {i j : Nat} (hi : i < p.length) (hj : j < p.length) (e : p.getD i 0 = p.getD j 0) : i = j := by
  rw [List.getD_eq_getElem?_getD, List.getD_eq_getElem?_getD, List.getElem?_eq_getElem hi, List.getElem?_eq_getElem hj] at e
  have e : p[i] = p[j] := e
  have hp := List.pairwise_iff_getElem.1 h
  rcases Nat.lt_trichotomy i j with h1 | h1 | h1
  · exact absurd e (hp i j hi hj h1)
  · exact h1
  · exact absurd e.symm (hp j i hj hi h1)

theorem flat_at : ∀ (S : List GStep) (i : Nat), i < S.length → stepAt (flatS S) i = S.getD i ⟨0, 0, 0, 0, 0⟩
  | [], i, h => by simp at h
  | s :: S, 0, _ => rfl
  | s :: S, i + 1, h => by
    have ih := flat_at S i (by simpa using h)
    have hc : ∀ j, nI (flatS (s :: S)) ((i + 1) * 5 + j) = nI (flatS S) (i * 5 + j) := fun j => by
      have e : flatS (s :: S) = s.k :: s.w :: s.o :: s.t :: s.r :: flatS S := rfl
      rw [e, show (i + 1) * 5 + j = i * 5 + j + 1 + 1 + 1 + 1 + 1 by omega]
      rfl
    rw [List.getD_cons_succ, ← ih]
    unfold stepAt
    rw [hc 1, hc 2, hc 3, hc 4, show nI (flatS (s :: S)) ((i + 1) * 5) = nI (flatS S) (i * 5) from hc 0]
theorem play_take (L : List (List Int)) (S : List GStep) : ∀ k, k ≤ S.length → playG L (flatS S) k = runS L (S.take k)
  | 0, _ => by simp [playG, runS]
  | k + 1, h => by
    rw [playG, play_take L S k (by omega), flat_at S k (by omega)]
    have e : S.take (k + 1) = S.take k ++ [S.getD k ⟨0, 0, 0, 0, 0⟩] := by
      rw [List.take_add_one, List.getD_eq_getElem?_getD, List.getElem?_eq_getElem (by omega)]; rfl
    rw [e, runS_append, runS_one]
theorem okS_at : ∀ (S : List GStep) (G : List (List Int)), okS G S → ∀ k, k < S.length → stCode (runS G (S.take k)) (S.getD k ⟨0, 0, 0, 0, 0⟩) = 0
  | [], G, _, k, h => by simp at h
  | s :: S, G, h, 0, _ => h.1
  | s :: S, G, h, k + 1, hk => by
    have := okS_at S (stDo G s) h.2 k (by simpa using hk)
    rw [List.getD_cons_succ, List.take_succ_cons]
    exact this
theorem play_ok {L : List (List Int)} {S : List GStep} (h : okS L S) : (∀ j, j < S.length → playCode L (flatS S) j = 0) ∧ playG L (flatS S) S.length = runS L S := by
  refine ⟨fun j hj => ?_, by rw [play_take L S _ (Nat.le_refl _), List.take_length]⟩
  unfold playCode
  rw [play_take L S j (by omega), flat_at S j hj]
  exact okS_at S L h j hj
end Go.Proofs.YtpfmllpodjcldaaDoor
