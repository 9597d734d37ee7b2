/-
  Words on grants: what is wrong with them, who has the right. No program in sight.
-/
import Derived.Test.YtdnkknggnhihgaaDoorBibaLaw
import Derived.Test.YtdnkknggnhihgaaDoorClose
import Derived.Test.YtdnkknggnhihgaaDoorGrantLaw
namespace Go.Proofs.YtdnkknggnhihgaaDoor
set_option linter.unusedVariables false

/-- Of a list of grants, three numbers each: by whom, to whom, when. -/
def gFr (G : List Int) (i : Nat) : Int := gI G (i * 3)
def gTo (G : List Int) (i : Nat) : Int := gI G (i * 3 + 1)
def gTm (G : List Int) (i : Nat) : Int := gI G (i * 3 + 2)
/-- Who has the right behind the first n grants, as a set. -/
def gSet (G : List Int) : Nat → Nat
  | 0 => 1
  | i + 1 => gSet G i ||| 2 ^ (gTo G i).toNat
/-- Has a user the right behind the first n? -/
def gHeld (G : List Int) (n : Nat) (u : Int) : Bool := u == 0 || (List.range n).any (fun i => gTo G i == u)
def gIn (users : Int) (G : List Int) (i : Nat) : Prop := (0 ≤ gFr G i ∧ gFr G i < users) ∧ (0 ≤ gTo G i ∧ gTo G i < users) ∧ (0 ≤ gTm G i ∧ gTm G i ≤ 999999)
instance (users : Int) (G : List Int) (i : Nat) : Decidable (gIn users G i) := by unfold gIn; infer_instance
/-- What is wrong with grant number i. -/
def gBad (users : Int) (G : List Int) (i : Nat) : Nat := if gIn users G i then if 0 < i ∧ gTm G i ≤ gTm G (i - 1) then 3 else if gHeld G i (gFr G i) then 0 else 7 else 1
/-- What is wrong first. -/
def gScan (users : Int) (G : List Int) : Nat → Nat
  | 0 => 0
  | i + 1 => if gScan users G i = 0 then gBad users G i else gScan users G i
def gCode (users : Int) (G : List Int) (n : Nat) : Nat := if 1 ≤ users ∧ users ≤ 8 then if 40 < n then 4 else gScan users G n else 1
section
variable {users : Int} {G : List Int}
theorem gHeld_iff {n : Nat} {u : Int} : gHeld G n u = true ↔ u = 0 ∨ ∃ i, i < n ∧ gTo G i = u := by
  unfold gHeld
  simp only [Bool.or_eq_true, beq_iff_eq, List.any_eq_true, List.mem_range]
theorem gScan_zero {n : Nat} : gScan users G n = 0 ↔ ∀ i, i < n → gBad users G i = 0 := by
  induction n with
  | zero => exact ⟨fun _ i hi => by omega, fun _ => rfl⟩
  | succ n ih =>
    unfold gScan
    by_cases h : gScan users G n = 0
    · rw [if_pos h]
      constructor
      · intro hb i hi
        rcases Nat.lt_or_ge i n with h1 | h1
        · exact ih.1 h i h1
        · obtain rfl : i = n := by omega
          exact hb
      · intro ha
        exact ha n (by omega)
    · rw [if_neg h]
      exact ⟨fun e => absurd e h, fun ha => absurd (ih.2 fun i hi => ha i (by omega)) h⟩
theorem gBad_zero {i : Nat} : gBad users G i = 0 ↔ gIn users G i ∧ (0 < i → gTm G (i - 1) < gTm G i) ∧ gHeld G i (gFr G i) = true := by
  unfold gBad
  split
  · rename_i h
    split
    · rename_i h1
      exact ⟨fun e => by omega, fun ⟨_, h2, _⟩ => by have := h2 h1.1; omega⟩
    · rename_i h1
      split
      · rename_i h2
        exact ⟨fun _ => ⟨h, fun hi => by omega, h2⟩, fun _ => rfl⟩
      · rename_i h2
        exact ⟨fun e => by omega, fun ⟨_, _, h3⟩ => absurd h3 h2⟩
  · rename_i h
    exact ⟨fun e => by omega, fun ⟨h1, _⟩ => absurd h1 h⟩
theorem gCode_ok {n : Nat} (h : gCode users G n = 0) : (1 ≤ users ∧ users ≤ 8) ∧ n ≤ 40 ∧ ∀ i, i < n → gBad users G i = 0 := by
  unfold gCode at h
  split at h
  · rename_i h1
    split at h
    · cases h
    · exact ⟨h1, by omega, gScan_zero.1 h⟩
  · cases h
theorem gSet_held {n : Nat} {u : Int} (hu : 0 ≤ u) (h : ∀ i, i < n → 0 ≤ gTo G i) : (gSet G n).testBit u.toNat = gHeld G n u := by
  induction n with
  | zero =>
    unfold gSet gHeld
    rw [show (1 : Nat) = 2 ^ 0 from rfl, tb_pow]
    by_cases e : u = 0
    · subst e; rfl
    · have h1 : ¬ 0 = u.toNat := by omega
      simp [h1, e]
  | succ n ih =>
    unfold gSet
    rw [tb_or, tb_pow, ih (fun i hi => h i (by omega))]
    have hn := h n (by omega)
    unfold gHeld
    rw [List.range_succ, List.any_append]
    have : decide ((gTo G n).toNat = u.toNat) = (gTo G n == u) := by
      by_cases e : gTo G n = u
      · simp [e]
      · have h1 : ¬ (gTo G n).toNat = u.toNat := by omega
        simp [h1, e]
    rw [this]
    simp [Bool.or_assoc]
theorem gSet_lt {n : Nat} (h : ∀ i, i < n → gTo G i < 8) : gSet G n < 256 := by
  induction n with
  | zero => unfold gSet; omega
  | succ n ih =>
    have hn := h n (by omega)
    have hp : 2 ^ (gTo G n).toNat < 2 ^ 8 := Nat.pow_lt_pow_right (by decide) (by omega)
    exact Nat.or_lt_two_pow (n := 8) (ih fun i hi => h i (by omega)) hp
end
end Go.Proofs.YtdnkknggnhihgaaDoor
