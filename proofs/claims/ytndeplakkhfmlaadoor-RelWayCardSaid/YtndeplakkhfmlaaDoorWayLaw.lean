/-
  A least way has no thing twice. Plain laws; no program of Go in sight.
-/
import Derived.Test.YtndeplakkhfmlaaDoorBfs
namespace Go.Proofs.YtndeplakkhfmlaaDoor
set_option linter.unusedVariables false

section
variable {E : Nat → Nat → Prop} {a : Nat}
theorem way_prefix {p : List Nat} {z : Nat} (h : WayTo E a p z) : ∀ x ∈ p, ∃ r, WayTo E a r x ∧ r <+: p := by
  induction h with
  | start => intro x hx; rw [List.mem_singleton] at hx; subst hx; exact ⟨_, .start, List.prefix_refl _⟩
  | @more p z y h e ih =>
    intro x hx
    rcases List.mem_append.1 hx with h1 | h1
    · obtain ⟨r, h2, h3⟩ := ih x h1
      exact ⟨r, h2, h3.trans (List.prefix_append _ _)⟩
    · rw [List.mem_singleton] at h1
      subst h1
      exact ⟨_, .more h e, List.prefix_refl _⟩
theorem way_short : ∀ (m : Nat) {p : List Nat} {x : Nat}, p.length ≤ m → WayTo E a p x → ∃ r, WayTo E a r x ∧ r.Nodup ∧ r.length ≤ p.length ∧ (r.length = p.length → r = p) := by
  intro m
  induction m with
  | zero => intro p x hm h; have := h.pos; omega
  | succ m ih =>
    intro p x hm h
    cases h with
    | start => exact ⟨[a], .start, by simp, Nat.le_refl _, fun _ => rfl⟩
    | @more q z _ h e =>
      rw [List.length_append, List.length_singleton] at hm
      obtain ⟨r, h1, h2, h3, h4⟩ := ih (by omega) h
      by_cases hx : x ∈ r
      · obtain ⟨s, k1, k2⟩ := way_prefix h1 x hx
        have := k2.length_le
        exact ⟨s, k1, k2.sublist.nodup h2, by rw [List.length_append, List.length_singleton]; omega, fun e => by rw [List.length_append, List.length_singleton] at e; omega⟩
      · refine ⟨r ++ [x], .more h1 e, ?_, by simp; omega, fun e => ?_⟩
        · rw [List.nodup_append]
          exact ⟨h2, by simp, fun u hu v hv => by rw [List.mem_singleton] at hv; subst hv; rintro rfl; exact hx hu⟩
        · rw [h4 (by simpa using e)]
theorem least_nodup {good : Nat → Prop} {p : List Nat} {x : Nat} (h : WayTo E a p x) (hx : good x) (hl : ∀ p' x', WayTo E a p' x' → good x' → SLe p p') : p.Nodup := by
  obtain ⟨r, h1, h2, h3, h4⟩ := way_short p.length (Nat.le_refl _) h
  have := (hl r x h1 hx).length
  rw [← h4 (by omega)]; exact h2
theorem way_lt {n : Nat} (ha : a < n) (hE : ∀ x y, E x y → y < n) {p : List Nat} {x : Nat} (h : WayTo E a p x) : ∀ y ∈ p, y < n := by
  induction h with
  | start => intro y hy; rw [List.mem_singleton] at hy; subst hy; exact ha
  | more h e ih =>
    intro y hy
    rcases List.mem_append.1 hy with h1 | h1
    · exact ih y h1
    · rw [List.mem_singleton] at h1; subst h1; exact hE _ _ e
end
theorem nodup_getD {p : List Nat} (h : p.Nodup) {i j : Nat} (hi : i < p.length) (hj : j < p.length) (e : p.getD i 0 = p.getD j 0) : i = j := by
  rw [List.getD_eq_getElem?_getD, List.getD_eq_getElem?_getD, List.getElem?_eq_getElem hi, List.getElem?_eq_getElem hj] at e
  have e : p[i] = p[j] := e
  have hp := List.pairwise_iff_getElem.1 h
  rcases Nat.lt_trichotomy i j with h1 | h1 | h1
  · exact absurd e (hp i j hi hj h1)
  · exact h1
  · exact absurd e.symm (hp j i hj hi h1)
end Go.Proofs.YtndeplakkhfmlaaDoor
