/-
  Plain laws on the monitor of levels that sink. No program in sight.
-/
import Derived.Test.YtdgncngkalgknaaDoorBase
namespace Go.Proofs.YtdgncngkalgknaaDoor
set_option linter.unusedVariables false

def gI (l : List Int) (i : Nat) : Int := l.getD i 0
theorem gI_set {l : List Int} {i j : Nat} {x : Int} (hi : i < l.length) : gI (l.set i x) j = if i = j then x else gI l j := by
  unfold gI
  simp only [List.getD, List.getElem?_set]
  by_cases h : i = j
  · subst h; simp [hi]
  · simp [h]
theorem gI_of {l : List Int} {i : Nat} {x : Int} (h : l[i]? = some x) : gI l i = x := by unfold gI; simp [List.getD, h]
theorem get_gI {l : List Int} {i : Nat} (h : i < l.length) : l[i]? = some (gI l i) := by
  unfold gI; simp [List.getD, h]

structure BS where
  U : List Int
  Wo : List Int
  He : List Int
def bOk (F : List Int) (S : BS) (k u f : Int) : Prop := (0 ≤ k ∧ k ≤ 1) ∧ (0 ≤ u ∧ u < S.U.length) ∧ (0 ≤ f ∧ f < F.length)
instance (F : List Int) (S : BS) (k u f : Int) : Decidable (bOk F S k u f) := by unfold bOk; infer_instance
def bAsk (F : List Int) (S : BS) (k u f : Int) : BS × Nat :=
  if bOk F S k u f then
    if k = 0 then ({ S with U := S.U.set u.toNat (min (gI S.U u.toNat) (gI F f.toNat)), He := S.He.set u.toNat (min (gI S.He u.toNat) (gI S.Wo f.toNat)) }, 0)
    else if gI S.U u.toNat < gI F f.toNat then (S, 7)
    else ({ S with Wo := S.Wo.set f.toNat (min (gI S.Wo f.toNat) (gI S.He u.toNat)) }, 0)
  else (S, 1)
structure BInv (F : List Int) (S : BS) : Prop where
  lw : S.Wo.length = F.length
  lh : S.He.length = S.U.length
  pure_ : ∀ f, f < F.length → gI F f ≤ gI S.Wo f
  heard : ∀ u, u < S.U.length → gI S.U u ≤ gI S.He u
theorem BInv.start (U F : List Int) : BInv F ⟨U, F, U⟩ := ⟨rfl, rfl, fun _ _ => Int.le_refl _, fun _ _ => Int.le_refl _⟩
theorem BInv.ask {F : List Int} {S : BS} (h : BInv F S) (k u f : Int) : BInv F (bAsk F S k u f).1 := by
  unfold bAsk
  split
  · rename_i hok
    obtain ⟨⟨_, _⟩, ⟨hu0, hu1⟩, hf0, hf1⟩ := hok
    have hu : u.toNat < S.U.length := by omega
    have hf : f.toNat < F.length := by omega
    have hh := h.heard _ hu
    have hp := h.pure_ _ hf
    have hl := h.lh
    have hw := h.lw
    split
    · refine ⟨h.lw, by simp [h.lh], h.pure_, fun x hx => ?_⟩
      simp only [List.length_set] at hx
      show gI (S.U.set _ _) x ≤ gI (S.He.set _ _) x
      rw [gI_set hu, gI_set (by omega)]
      split
      · omega
      · exact h.heard x hx
    · split
      · exact h
      · rename_i hlt
        refine ⟨by simp [h.lw], h.lh, fun x hx => ?_, h.heard⟩
        show gI F x ≤ gI (S.Wo.set _ _) x
        rw [gI_set (by omega)]
        split
        · rename_i e; subst e; omega
        · exact h.pure_ x hx
  · exact h
/-- The level that is told. -/
def lev (U : List Int) (u : Int) : Int := if 0 ≤ u ∧ u < U.length then gI U u.toNat else -1
theorem bAsk_len {F : List Int} {S : BS} (k u f : Int) : (bAsk F S k u f).1.U.length = S.U.length := by
  unfold bAsk
  split
  · split
    · simp
    · split <;> rfl
  · rfl
theorem sink_le {F : List Int} {S : BS} (k u f : Int) : lev (bAsk F S k u f).1.U u ≤ lev S.U u := by
  unfold lev
  rw [bAsk_len]
  split
  · rename_i hu
    unfold bAsk
    split
    · split
      · show gI (S.U.set _ _) _ ≤ _
        rw [gI_set (by omega), if_pos rfl]; omega
      · split <;> exact Int.le_refl _
    · exact Int.le_refl _
  · exact Int.le_refl _
theorem sink_err {F : List Int} {S : BS} {k u f : Int} (h : (bAsk F S k u f).2 ≠ 0) : (bAsk F S k u f).1 = S := by
  unfold bAsk at h ⊢
  split
  · rename_i hok
    rw [if_pos hok] at h
    split
    · rename_i hk; rw [if_pos hk] at h; exact absurd rfl h
    · rename_i hk
      rw [if_neg hk] at h
      split
      · rfl
      · rename_i hl; rw [if_neg hl] at h; exact absurd rfl h
  · rfl
theorem sink_ok {F : List Int} {S : BS} {k u f : Int} (h : (bAsk F S k u f).2 = 0) :
    (0 ≤ f ∧ f < F.length) ∧ (k = 0 → lev (bAsk F S k u f).1.U u ≤ gI F f.toNat) ∧ (k = 1 → gI F f.toNat ≤ lev (bAsk F S k u f).1.U u) := by
  by_cases hok : bOk F S k u f
  · obtain ⟨_, ⟨hu0, hu1⟩, hf⟩ := id hok
    refine ⟨hf, fun hk => ?_, fun hk => ?_⟩
    · unfold lev
      rw [bAsk_len, if_pos ⟨hu0, hu1⟩]
      unfold bAsk
      rw [if_pos hok, if_pos hk]
      show gI (S.U.set _ _) _ ≤ _
      rw [gI_set (by omega), if_pos rfl]; omega
    · unfold lev
      rw [bAsk_len, if_pos ⟨hu0, hu1⟩]
      unfold bAsk at h ⊢
      rw [if_pos hok, if_neg (by omega)] at h ⊢
      split at h
      · cases h
      · rename_i hl; rw [if_neg hl]; exact Int.not_lt.1 hl
  · unfold bAsk at h
    rw [if_neg hok] at h
    cases h
end Go.Proofs.YtdgncngkalgknaaDoor
