/-
  How much a run burns does not hang on how much there is: plain laws.
-/
import Derived.Test.YtfpghfmdkbdojaaGreatDoorPgTree
namespace Go.Proofs.YtfpghfmdkbdojaaGreatDoor
set_option linter.unusedVariables false

def burnt (v' : List Nat) (b m : Nat) : Option (List Nat × Nat) := if b ≤ m then some (v', m - b) else none
theorem St.burns {s : St} : ∀ {v : List Nat} {n : Nat} {v' : List Nat} {n' : Nat}, s.run v n = some (v', n') → ∀ m, s.run v m = burnt v' (n - n') m := by
  unfold burnt
  induction s with
  | skip =>
    intro v n v' n' h m
    rw [St.run] at h ⊢
    injection h with h; injection h with h1 h2
    subst h1; subst h2
    rw [if_pos (by omega), Nat.sub_self]; rfl
  | set x e =>
    intro v n v' n' h m
    rw [St.run] at h ⊢
    split at h
    · cases h
    · injection h with h; injection h with h1 h2
      subst h1; subst h2
      by_cases hm : m = 0
      · rw [if_pos hm, if_neg (by omega)]
      · rw [if_neg hm, if_pos (by omega), show n - (n - 1) = 1 by omega]
  | both a b iha ihb =>
    intro v n v' n' h m
    rw [St.run] at h ⊢
    split at h
    · cases h
    · rename_i v1 n1 h1
      have l1 := St.left _ _ _ _ h1
      have l2 := St.left _ _ _ _ h
      rw [iha h1 m]
      by_cases hm : n - n1 ≤ m
      · rw [if_pos hm]
        dsimp only
        rw [ihb h (m - (n - n1))]
        by_cases hm2 : n - n' ≤ m
        · rw [if_pos (by omega), if_pos hm2, show m - (n - n1) - (n1 - n') = m - (n - n') by omega]
        · rw [if_neg (by omega), if_neg hm2]
      · rw [if_neg hm, if_neg (by omega)]
  | ite e a b iha ihb =>
    intro v n v' n' h m
    rw [St.run] at h ⊢
    split at h
    · cases h
    · rename_i hn
      by_cases hm : m = 0
      · have : n' ≤ n - 1 := by
          split at h
          · exact St.left _ _ _ _ h
          · exact St.left _ _ _ _ h
        rw [if_pos hm, if_neg (by omega)]
      · rw [if_neg hm]
        by_cases he : e.val v ≠ 0
        · rw [if_pos he] at h ⊢
          have l := St.left _ _ _ _ h
          rw [iha h (m - 1)]
          by_cases hm2 : n - n' ≤ m
          · rw [if_pos (by omega), if_pos hm2, show m - 1 - (n - 1 - n') = m - (n - n') by omega]
          · rw [if_neg (by omega), if_neg hm2]
        · rw [if_neg he] at h ⊢
          have l := St.left _ _ _ _ h
          rw [ihb h (m - 1)]
          by_cases hm2 : n - n' ≤ m
          · rw [if_pos (by omega), if_pos hm2, show m - 1 - (n - 1 - n') = m - (n - n') by omega]
          · rw [if_neg (by omega), if_neg hm2]
  | loop e a iha =>
    intro v n
    induction n using Nat.strongRecOn generalizing v with
    | ind n ih =>
      intro v' n' h m
      have hl := St.left _ _ _ _ h
      rw [St.run_loop] at h ⊢
      split at h
      · cases h
      · rename_i hn
        by_cases hm : m = 0
        · rw [if_pos hm]
          split at h
          · injection h with h; injection h with h1 h2
            rw [if_neg (by omega)]
          · split at h
            · cases h
            · rename_i v1 n1 h1
              have l1 := St.left _ _ _ _ h1
              have l2 := St.left _ _ _ _ h
              rw [if_neg (by omega)]
        · rw [if_neg hm]
          by_cases he : e.val v = 0
          · rw [if_pos he] at h ⊢
            injection h with h; injection h with h1 h2
            subst h1; subst h2
            rw [if_pos (by omega), show n - (n - 1) = 1 by omega]
          · rw [if_neg he] at h ⊢
            split at h
            · cases h
            · rename_i v1 n1 h1
              have l1 := St.left _ _ _ _ h1
              have l2 := St.left _ _ _ _ h
              rw [iha h1 (m - 1)]
              by_cases hm2 : n - 1 - n1 ≤ m - 1
              · rw [if_pos hm2]
                dsimp only
                rw [ih n1 (by omega) h (m - 1 - (n - 1 - n1))]
                by_cases hm3 : n - n' ≤ m
                · rw [if_pos (by omega), if_pos hm3, show m - 1 - (n - 1 - n1) - (n1 - n') = m - (n - n') by omega]
                · rw [if_neg (by omega), if_neg hm3]
              · rw [if_neg hm2, if_neg (by omega)]
end Go.Proofs.YtfpghfmdkbdojaaGreatDoor
