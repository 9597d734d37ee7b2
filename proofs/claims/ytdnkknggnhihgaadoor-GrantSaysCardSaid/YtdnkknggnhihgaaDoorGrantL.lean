/-
  Plain laws for GrantLeft and GrantOrder: what comes of revoking again.
-/
import Derived.Test.YtdnkknggnhihgaaDoorGrantE
import Derived.Test.YtdnkknggnhihgaaDoorLeaf
namespace Go.Proofs.YtdnkknggnhihgaaDoor
set_option linter.unusedVariables false

section
variable {users fr to fr' to' : Int} {G : List Int} {n : Nat}
theorem rCode_in (h : rCode users G n fr to = 0) : gCode users G n = 0 ∧ ((0 ≤ fr ∧ fr < users) ∧ (0 ≤ to ∧ to < users)) ∧ (List.range n).any (gP G fr to) = true := by
  unfold rCode at h
  split at h
  · rename_i h1
    split at h
    · rename_i h2
      split at h
      · rename_i h3; exact ⟨h1, h2, h3⟩
      · cases h
    · cases h
  · rename_i h1; exact absurd h h1
theorem rCode_of (h : gCode users G n = 0) (h2 : (0 ≤ fr ∧ fr < users) ∧ (0 ≤ to ∧ to < users)) : rCode users G n fr to = if (List.range n).any (gP G fr to) then 0 else 5 := by
  unfold rCode; rw [if_pos h, if_pos h2]
theorem gCode_filt {P : Nat → Bool} {k : Nat} (h : gCode users G n = 0) (hk : k ≤ n) : gCode users (gFilt G (kept (gFr G) (gTo G) P) k) (gCount (kept (gFr G) (gTo G) P) k) = 0 := by
  obtain ⟨hu, h40, hall⟩ := gCode_ok h
  have hc := gCount_le (k := kept (gFr G) (gTo G) P) k
  unfold gCode
  rw [if_pos hu, if_neg (by omega)]
  exact gScan_zero.2 (gFilt_ok fun i hi => hall i (by omega))
theorem gP_filt {K : Nat → Bool} {j : Nat} (hj : j < n) (hk : K j = true) : gP (gFilt G K n) fr to (gCount K j) = gP G fr to j := by
  unfold gP
  rw [(gFilt_at hj hk).1, (gFilt_at hj hk).2.1]
theorem again_none (h : rCode users G n fr to = 0) : rCode users (gFilt G (gK G fr to) n) (gCount (gK G fr to) n) fr to = 5 := by
  obtain ⟨h1, h2, h3⟩ := rCode_in h
  have hX : gCode users (gFilt G (gK G fr to) n) (gCount (gK G fr to) n) = 0 := gCode_filt h1 (Nat.le_refl _)
  rw [rCode_of hX h2]
  have : (List.range (gCount (gK G fr to) n)).any (gP (gFilt G (gK G fr to) n) fr to) = false := by
    rw [List.any_eq_false]
    intro x hx
    have := gFilt_none (G := G) (P := gP G fr to) (PX := gP (gFilt G (gK G fr to) n) fr to) (n := n) (fun j hj hk => gP_filt hj hk) x (List.mem_range.1 hx)
    rw [this]; decide
  rw [this]; rfl
theorem less_left (h : rCode users G n fr to = 0) : gCount (gK G fr to) n < n := by
  obtain ⟨_, _, h3⟩ := rCode_in h
  obtain ⟨j, hj, hp⟩ := any_true h3
  refine gCount_less ⟨j, hj, ?_⟩
  cases hk : gK G fr to j with
  | false => rfl
  | true => have := ((kept_iff j).1 hk).1; rw [hp] at this; cases this
theorem gSet_one (k : Nat) : 1 ≤ gSet G k := by
  induction k with
  | zero => exact Nat.le_refl _
  | succ k ih => exact Nat.le_trans ih Nat.left_le_or
theorem gFilt_all (hl : G.length = n * 3) : gFilt G (fun _ => true) n = G ∧ gCount (fun _ => true) n = n := by
  have hc : ∀ k, gCount (fun _ => true) k = k := fun k => by
    induction k with
    | zero => rfl
    | succ k ih => unfold gCount; rw [if_pos rfl, ih]
  refine ⟨Same3.eq (n := n) (fun i hi => ?_) (by rw [length_gFilt, hc]) hl, hc n⟩
  have := gFilt_at (G := G) (k := fun _ => true) hi rfl
  rw [hc] at this
  exact this
/-- Where nothing of the kind is granted, all stay. -/
theorem none_all (h : gCode users G n = 0) (hl : G.length = n * 3) (ha : (List.range n).any (gP G fr to) = false) : gFilt G (gK G fr to) n = G ∧ gCount (gK G fr to) n = n := by
  have hk : ∀ i, i < n → gK G fr to i = true := by
    intro i
    induction i using Nat.strongRecOn with
    | ind i ih =>
      intro hi
      refine (kept_iff i).2 ⟨any_false ha i hi, ?_⟩
      rcases gHeld_iff.1 ((gBad_zero.1 ((gCode_ok h).2.2 i hi)).2.2) with e | ⟨j, hj, e⟩
      · exact .inl e
      · exact .inr ⟨j, hj, ih j hj (by omega), e⟩
  rw [gFilt_congr (k' := fun _ => true) hk, gCount_congr (g := fun _ => true) hk]
  exact gFilt_all hl
/-- Both orders. -/
theorem two_same (K1 : Nat → Bool) (h1 : K1 = gK G fr to) : gFilt (gFilt G K1 n) (gK (gFilt G K1 n) fr' to') (gCount K1 n) = gFilt G (kept (gFr G) (gTo G) (fun j => gP G fr to j || gP G fr' to' j)) n := by
  subst h1
  exact gFilt_two (G := G) (P := gP G fr to) (Q := gP G fr' to') (QX := gP (gFilt G (gK G fr to) n) fr' to') (fun j hj hk => gP_filt hj hk)
theorem two_swap : kept (gFr G) (gTo G) (fun j => gP G fr to j || gP G fr' to' j) = kept (gFr G) (gTo G) (fun j => gP G fr' to' j || gP G fr to j) := by
  congr 1; funext j; exact Bool.or_comm _ _
/-- One step of looking for what is left in what was. -/
theorem match_yes {K : Nat → Bool} {i : Nat} (hi : i < n) (hk : K i = true) : gCount K i < gCount K n ∧ gFr (gFilt G K n) (gCount K i) = gFr G i ∧ gTo (gFilt G K n) (gCount K i) = gTo G i ∧ gTm (gFilt G K n) (gCount K i) = gTm G i := ⟨gCount_lt hi hk, gFilt_at hi hk⟩
end
end Go.Proofs.YtdnkknggnhihgaaDoor
