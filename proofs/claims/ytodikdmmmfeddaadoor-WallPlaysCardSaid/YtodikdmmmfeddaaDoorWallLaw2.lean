/-
  Plain laws: what the reference asks of a wall is what is asked of it. No program in sight.
-/
import Derived.Test.YtodikdmmmfeddaaDoorWallLaw
namespace Go.Proofs.YtodikdmmmfeddaaDoor
set_option linter.unusedVariables false

/-- Does a firm that was seen stand against it? -/
def rDeny (T : List Int) (s f : Nat) (k : Int) (x : Nat) : Bool := s.testBit x && decide (x ≠ f) && decide (gI T x ≠ 0) && (decide (k = 1) || decide (gI T x = gI T f))
/-- What is joined of the first n. -/
def joinR (Ho : List Nat) (f s n : Nat) : Nat := joinTo Ho f ((List.range n).filter fun i => s.testBit i)
theorem joinR_succ (Ho : List Nat) (f s n : Nat) : joinR Ho f s (n + 1) = if s.testBit n then joinR Ho f s n ||| row Ho n else joinR Ho f s n := by
  unfold joinR
  rw [List.range_succ, List.filter_append]
  cases h : s.testBit n with
  | true => rw [if_pos rfl, ← joinTo_snoc]; simp [h]
  | false => simp [h]
section
variable {T : List Int} {S : WS} {u f : Nat}
theorem wAsk_deny (h : WInv T S) (hu : u < S.Saw.length) (hf : f < T.length) {k : Int} (hk : 0 ≤ k ∧ k ≤ 1) {x : Nat} (hd : rDeny T (row S.Saw u) f k x = true) : wAsk T S k (u : Int) (f : Int) = (S, 7) := by
  have hs64 := lt64 (h.bs u) h.ln
  unfold rDeny at hd
  simp only [Bool.and_eq_true, Bool.or_eq_true, decide_eq_true_eq] at hd
  obtain ⟨⟨⟨h1, h2⟩, h3⟩, h4⟩ := hd
  unfold wAsk
  rw [if_pos ⟨hk, by omega, by omega⟩]
  simp only [Int.toNat_natCast]
  by_cases hs : others T (row S.Saw u) f (sameT T f) = true
  · rw [if_pos hs]
  · rw [if_neg hs]
    rcases h4 with h4 | h4
    · rw [if_neg (by omega), if_pos ((others_iff hs64).2 ⟨x, h1, h2, h3, rfl⟩)]
    · exact absurd ((others_iff hs64).2 ⟨x, h1, h2, h3, by unfold sameT; exact decide_eq_true h4⟩) hs
theorem wAsk_pass (h : WInv T S) (hu : u < S.Saw.length) (hf : f < T.length) {k : Int} (hk : 0 ≤ k ∧ k ≤ 1) (hd : ∀ x, x < T.length → rDeny T (row S.Saw u) f k x = false) :
    wAsk T S k (u : Int) (f : Int) = if k = 0 then ({ S with Saw := S.Saw.set u (row S.Saw u ||| 2 ^ f) }, 0) else ({ S with Ho := S.Ho.set f (joinR S.Ho f (row S.Saw u) T.length) }, 0) := by
  have hs64 := lt64 (h.bs u) h.ln
  have hlt : ∀ i, (row S.Saw u).testBit i = true → i < T.length := fun i hi => by
    rcases Nat.lt_or_ge i T.length with h1 | h1
    · exact h1
    · rw [Nat.testBit_lt_two_pow (Nat.lt_of_lt_of_le (h.bs u) (Nat.pow_le_pow_right (by decide) h1))] at hi; cases hi
  unfold wAsk
  rw [if_pos ⟨hk, by omega, by omega⟩]
  simp only [Int.toNat_natCast]
  rw [if_neg (fun ho => by
    obtain ⟨i, h1, h2, h3, h4⟩ := (others_iff hs64).1 ho
    have := hd i (hlt i h1)
    unfold rDeny at this
    unfold sameT at h4
    have h5 := of_decide_eq_true h4
    rw [h1, decide_eq_true h2, decide_eq_true h3, decide_eq_true h5] at this
    simp at this)]
  by_cases hk0 : k = 0
  · rw [if_pos hk0, if_pos hk0]
  · rw [if_neg hk0, if_neg hk0, if_neg (fun ho => by
      obtain ⟨i, h1, h2, h3, _⟩ := (others_iff hs64).1 ho
      have := hd i (hlt i h1)
      unfold rDeny at this
      obtain rfl : k = 1 := by omega
      simp [h1, h2, h3] at this)]
    unfold joinR
    rw [joinTo_range _ _ _ _ (h.bs u) (by have := h.ln; omega)]
end
end Go.Proofs.YtodikdmmmfeddaaDoor
