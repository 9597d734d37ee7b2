/-
  Plain laws: the passes of Least.
-/
import Derived.Test.YthaaekpnemhjoaaDoorFlowD
namespace Go.Proofs.YthaaekpnemhjoaaDoor
set_option linter.unusedVariables false

/-- How far from the top some levels are. -/
def pot (O : List Int) : Nat := (O.map fun x => (7 - x).toNat).sum
theorem pot_set : ∀ (O : List Int) (i : Nat) (x : Int), i < O.length → gI O i < x → x ≤ 7 → pot (O.set i x) < pot O
  | [], i, x, h, _, _ => by simp at h
  | y :: O, 0, x, h, h1, h2 => by
    have h1 : y < x := h1
    simp only [pot, List.set_cons_zero, List.map_cons, List.sum_cons]
    omega
  | y :: O, i + 1, x, h, h1, h2 => by
    have h1 : gI O i < x := h1
    have := pot_set O i x (by simpa using h) h1 h2
    simp only [pot, List.set_cons_succ, List.map_cons, List.sum_cons] at this ⊢
    omega
/-- Told levels stay; all lie within their bounds; no levels that fit are lower. -/
structure LeastInv (M : List Int) (S : List (Nat × Nat)) (O : List Int) : Prop where
  len : O.length = 6
  bd : ∀ i, i < 6 → 0 ≤ gI O i ∧ gI O i ≤ 7
  told : ∀ i, i < 6 → 0 ≤ gI M i → gI O i = gI M i
  least : ∀ L : List Int, (∀ i, i < 6 → 0 ≤ gI L i) → fitB L S = true → (∀ i, i < 6 → 0 ≤ gI M i → gI L i = gI M i) → ∀ i, i < 6 → gI O i ≤ gI L i
/-- Nothing more rises. -/
def Stable (M : List Int) (S : List (Nat × Nat)) (O : List Int) : Prop := ∀ p ∈ S, hiI O (bitsOf p.2) ≤ gI O p.1 ∨ 0 ≤ gI M p.1
section
variable {M O : List Int} {S : List (Nat × Nat)}
theorem hiI_mono {L O : List Int} {l : List Nat} (h : ∀ i ∈ l, gI O i ≤ gI L i) (hL : ∀ i ∈ l, 0 ≤ gI L i) : hiI O l ≤ hiI L l :=
  hiI_le.2 ⟨(hiI_le.1 (Int.le_refl (hiI L l))).1, fun i hi => Int.le_trans (h i hi) ((hiI_le.1 (Int.le_refl (hiI L l))).2 i hi)⟩
theorem LeastInv.step (hS : ∀ p ∈ S, p.1 < 6 ∧ p.2 < 64) (h : LeastInv M S O) {p : Nat × Nat} (hp : p ∈ S) (b : Bool) : LeastInv M S (leastStep M (O, b) p).1 ∧ ((leastStep M (O, b) p) = (O, b) ∧ (hiI O (bitsOf p.2) ≤ gI O p.1 ∨ 0 ≤ gI M p.1) ∨ (leastStep M (O, b) p).2 = true ∧ pot (leastStep M (O, b) p).1 < pot O) := by
  have hp6 := hS p hp
  have hbits : ∀ i ∈ bitsOf p.2, i < 6 := fun i hi => bit_below (n := 6) hp6.2 ((mem_bitsOf (by omega)).1 hi)
  unfold leastStep
  split
  · rename_i hc
    obtain ⟨h1, h2⟩ := hc
    have h1 : gI O p.1 < hiI O (bitsOf p.2) := h1
    have h7 : hiI O (bitsOf p.2) ≤ 7 := hiI_le.2 ⟨by decide, fun i hi => (h.bd i (hbits i hi)).2⟩
    have h0 := (h.bd p.1 hp6.1).1
    have hg : ∀ j, gI (O.set p.1 (hiI O (bitsOf p.2))) j = if p.1 = j then hiI O (bitsOf p.2) else gI O j := fun j => gI_set (by rw [h.len]; exact hp6.1)
    refine ⟨⟨by simp [h.len], fun i hi => ?_, fun i hi hm => ?_, fun L hL hf ht i hi => ?_⟩, .inr ⟨rfl, pot_set _ _ _ (by rw [h.len]; exact hp6.1) h1 h7⟩⟩
    · rw [hg]; split
      · omega
      · exact h.bd i hi
    · rw [hg]; split
      · rename_i e; subst e; omega
      · exact h.told i hi hm
    · rw [hg]; split
      · rename_i e
        subst e
        have hf' := hf
        unfold fitB at hf'
        rw [List.all_eq_true] at hf'
        have := of_decide_eq_true (hf' p hp)
        exact Int.le_trans (hiI_mono (fun i hi => h.least L hL hf ht i (hbits i hi)) (fun i hi => hL i (hbits i hi))) this
      · exact h.least L hL hf ht i hi
  · rename_i hc
    refine ⟨h, .inl ⟨rfl, ?_⟩⟩
    by_cases hm : 0 ≤ gI M p.1
    · exact .inr hm
    · exact .inl (Int.not_lt.1 fun e => hc ⟨e, by omega⟩)
theorem LeastInv.pass (hS : ∀ p ∈ S, p.1 < 6 ∧ p.2 < 64) : ∀ (l : List (Nat × Nat)) (O : List Int) (b : Bool), (∀ p ∈ l, p ∈ S) → LeastInv M S O →
    LeastInv M S (leastPass M l (O, b)).1 ∧ (leastPass M l (O, b) = (O, b) ∧ (∀ p ∈ l, hiI O (bitsOf p.2) ≤ gI O p.1 ∨ 0 ≤ gI M p.1) ∨ (leastPass M l (O, b)).2 = true ∧ pot (leastPass M l (O, b)).1 < pot O)
  | [], O, b, _, h => ⟨h, .inl ⟨rfl, fun p hp => by cases hp⟩⟩
  | p :: l, O, b, hl, h => by
    have h1 := h.step hS (hl p (List.mem_cons_self ..)) b
    show LeastInv M S (leastPass M l (leastStep M (O, b) p)).1 ∧ (leastPass M l (leastStep M (O, b) p) = (O, b) ∧ _ ∨ (leastPass M l (leastStep M (O, b) p)).2 = true ∧ pot (leastPass M l (leastStep M (O, b) p)).1 < pot O)
    obtain ⟨O1, b1, hq⟩ : ∃ O1 b1, leastStep M (O, b) p = (O1, b1) := ⟨_, _, rfl⟩
    rw [hq] at h1 ⊢
    have h2 := LeastInv.pass hS l O1 b1 (fun q hq => hl q (List.mem_cons_of_mem _ hq)) h1.1
    refine ⟨h2.1, ?_⟩
    rcases h1.2 with ⟨e1, hs1⟩ | ⟨e1, hp1⟩
    · injection e1 with e1 e2
      subst e1; subst e2
      rcases h2.2 with ⟨e3, hs2⟩ | h3
      · exact .inl ⟨e3, fun q hq => by
          rcases List.mem_cons.1 hq with hq | hq
          · subst hq; exact hs1
          · exact hs2 q hq⟩
      · exact .inr h3
    · have e1 : b1 = true := e1
      subst e1
      rcases h2.2 with ⟨e3, hs2⟩ | h3
      · rw [e3]; exact .inr ⟨rfl, hp1⟩
      · exact .inr ⟨h3.1, Nat.lt_trans h3.2 hp1⟩
theorem LeastInv.round (hS : ∀ p ∈ S, p.1 < 6 ∧ p.2 < 64) (h : LeastInv M S O) {O' : List Int} {b' : Bool} (hr : leastPass M S (O, false) = (O', b')) : LeastInv M S O' ∧ (b' = false → Stable M S O') ∧ 2 * pot O' + b'.toNat < 2 * pot O + 1 := by
  have := LeastInv.pass hS S O false (fun _ h => h) h
  rw [hr] at this
  refine ⟨this.1, ?_, ?_⟩
  · rintro rfl
    rcases this.2 with ⟨e, hs⟩ | ⟨e, _⟩
    · injection e with e _
      subst e
      exact hs
    · cases e
  · rcases this.2 with ⟨e, hs⟩ | ⟨e, hp⟩
    · injection e with e e2
      subst e; subst e2
      simp
    · have e : b' = true := e
      subst e
      have hp : pot O' < pot O := hp
      simp; omega
/-- Where it begins. -/
theorem LeastInv.start (hM : ∀ i, i < 6 → -1 ≤ gI M i ∧ gI M i ≤ 7) (h6 : O.length = 6) (hO : ∀ i, i < 6 → gI O i = max (gI M i) 0) : LeastInv M S O where
  len := h6
  bd i hi := by rw [hO i hi]; have := hM i hi; omega
  told i hi h := by rw [hO i hi]; omega
  least L hL _ ht i hi := by
    rw [hO i hi]
    have h1 := hL i hi
    by_cases h : 0 ≤ gI M i
    · have := ht i hi h; omega
    · omega
/-- Where there are levels that fit, the least do. -/
theorem LeastInv.fits (hS : ∀ p ∈ S, p.1 < 6 ∧ p.2 < 64) (h : LeastInv M S O) (hs : Stable M S O) {L : List Int} (hL : ∀ i, i < 6 → 0 ≤ gI L i) (hf : fitB L S = true) (ht : ∀ i, i < 6 → 0 ≤ gI M i → gI L i = gI M i) : fitB O S = true := by
  have hf' := hf
  unfold fitB at hf' ⊢
  rw [List.all_eq_true] at hf' ⊢
  intro p hp
  have hp6 := hS p hp
  have hbits : ∀ i ∈ bitsOf p.2, i < 6 := fun i hi => bit_below (n := 6) hp6.2 ((mem_bitsOf (by omega)).1 hi)
  refine decide_eq_true ?_
  rcases hs p hp with h1 | h1
  · exact h1
  · have h2 := of_decide_eq_true (hf' p hp)
    have h3 := hiI_mono (fun i hi => h.least L hL hf ht i (hbits i hi)) (fun i hi => hL i (hbits i hi))
    rw [ht p.1 hp6.1 h1, ← h.told p.1 hp6.1 h1] at h2
    omega
end
end Go.Proofs.YthaaekpnemhjoaaDoor
