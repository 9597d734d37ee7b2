/-
  How far each is from one, and the least of the shortest ways by it. Plain laws; no program of Go in sight.
-/
import Derived.Test.YtndeplakkhfmlaaDoorWayLaw
import Derived.Test.YtndeplakkhfmlaaDoorClose
namespace Go.Proofs.YtndeplakkhfmlaaDoor
set_option linter.unusedVariables false

/-- One thing leads to another one. -/
def rE (r : List Nat) (i j : Nat) : Prop := i < r.length ∧ j < r.length ∧ (row r i).testBit j = true
instance (r : List Nat) (i j : Nat) : Decidable (rE r i j) := inferInstanceAs (Decidable (_ ∧ _))
/-- In so many steps to one. -/
inductive ToB (E : Nat → Nat → Prop) (b : Nat) : Nat → Nat → Prop where
  | here : ToB E b b 0
  | step {i j m : Nat} : E i j → ToB E b j m → ToB E b i (m + 1)
/-- A way, its first thing told. -/
inductive CWay (E : Nat → Nat → Prop) (b : Nat) : Nat → List Nat → Prop where
  | here : CWay E b b [b]
  | step {i j : Nat} {p : List Nat} : E i j → CWay E b j p → CWay E b i (i :: p)
section
variable {E : Nat → Nat → Prop}
theorem CWay.head {b i : Nat} {p : List Nat} (h : CWay E b i p) : ∃ q, p = i :: q := by cases h <;> exact ⟨_, rfl⟩
theorem CWay.snoc {b i x : Nat} {p : List Nat} (h : CWay E b i p) (e : E b x) : CWay E x i (p ++ [x]) := by
  induction h with
  | here => exact .step e .here
  | step e' _ ih => exact .step e' ih
theorem way_cway {a : Nat} {p : List Nat} {x : Nat} (h : WayTo E a p x) : CWay E x a p := by
  induction h with
  | start => exact .here
  | more _ e ih => exact ih.snoc e
theorem way_cons {i j : Nat} {p : List Nat} {x : Nat} (e : E i j) (h : WayTo E j p x) : WayTo E i (i :: p) x := by
  induction h with
  | start => exact .more (p := [i]) .start e
  | more _ e' ih => exact .more (p := i :: _) ih e'
theorem cway_way {b i : Nat} {p : List Nat} (h : CWay E b i p) : WayTo E i p b := by
  induction h with
  | here => exact .start
  | step e _ ih => exact way_cons e ih
theorem CWay.to {b i : Nat} {p : List Nat} (h : CWay E b i p) : ToB E b i (p.length - 1) ∧ 0 < p.length := by
  induction h with
  | here => exact ⟨.here, by simp⟩
  | @step i j p e _ ih =>
    obtain ⟨h1, h2⟩ := ih
    refine ⟨?_, by simp⟩
    have := ToB.step e h1
    rw [List.length_cons, show p.length + 1 - 1 = p.length - 1 + 1 by omega]
    exact this
theorem ToB.way {b i m : Nat} (h : ToB E b i m) : ∃ p, CWay E b i p ∧ p.length = m + 1 := by
  induction h with
  | here => exact ⟨_, .here, rfl⟩
  | step e _ ih =>
    obtain ⟨p, h1, h2⟩ := ih
    exact ⟨_, .step e h1, by simp [h2]⟩
/-- No more steps than there are things are wanted. -/
theorem ToB.few {b i m n : Nat} (hi : i < n) (hE : ∀ x y, E x y → y < n) (h : ToB E b i m) : ∃ k, ToB E b i k ∧ k ≤ m ∧ k < n := by
  obtain ⟨p, h1, h2⟩ := h.way
  obtain ⟨s, k1, k2, k3, _⟩ := way_short p.length (Nat.le_refl _) (cway_way h1)
  have h3 := nodup_le k2 (way_lt hi hE k1)
  obtain ⟨h4, h5⟩ := (way_cway k1).to
  exact ⟨_, h4, by omega, by omega⟩
end

/-- The row i of distances is right as far as m steps. -/
def Cov (r : List Nat) (b : Nat) (l : List Nat) (t i : Nat) : Prop := ∀ m, m ≤ t → ToB (rE r) b i m → row l i ≤ m
structure DInv (r : List Nat) (b : Nat) (l : List Nat) : Prop where
  len : l.length = r.length
  high : ∀ i, row l i ≤ 20
  zero : row l b = 0
  sound : ∀ i, i < r.length → row l i < 20 → ToB (rE r) b i (row l i)
section
variable {r : List Nat} {b : Nat} {l : List Nat}
theorem row_set_same {l : List Nat} {i x : Nat} (h : i < l.length) : row (l.set i x) i = x := by unfold row; rw [List.getElem?_set_self h]; rfl
theorem row_set_other {l : List Nat} {i j x : Nat} (h : j ≠ i) : row (l.set i x) j = row l j := by unfold row; rw [List.getElem?_set_ne (fun e => h e.symm)]
theorem row_over {l : List Nat} {i : Nat} (h : l.length ≤ i) : row l i = 0 := by unfold row; rw [List.getElem?_eq_none h]; rfl
theorem DInv.start (hb : b < r.length) : DInv r b ((List.replicate r.length 20).set b 0) where
  len := by simp
  high := fun i => by
    by_cases e : i = b
    · subst e; rw [row_set_same (by simpa using hb)]; omega
    · rw [row_set_other e]; unfold row; rw [List.getElem?_replicate]; split <;> simp
  zero := row_set_same (by simpa using hb)
  sound := fun i hi h => by
    by_cases e : i = b
    · subst e; rw [row_set_same (by simpa using hb)]; exact .here
    · rw [row_set_other e] at h
      unfold row at h
      rw [List.getElem?_replicate, if_pos hi] at h
      exact absurd h (by decide)
theorem DInv.put (h : DInv r b l) {i j : Nat} (he : rE r i j) (hlt : row l j + 1 < row l i) : DInv r b (l.set i (row l j + 1)) ∧ ∀ k, row (l.set i (row l j + 1)) k ≤ row l k := by
  have hi : i < l.length := by rw [h.len]; exact he.1
  have hmono : ∀ k, row (l.set i (row l j + 1)) k ≤ row l k := fun k => by
    by_cases e : k = i
    · subst e; rw [row_set_same hi]; omega
    · rw [row_set_other e]; exact Nat.le_refl _
  have h20 := h.high i
  refine ⟨⟨by rw [List.length_set]; exact h.len, fun k => Nat.le_trans (hmono k) (h.high k), ?_, fun k hk hk2 => ?_⟩, hmono⟩
  · have := hmono b; have := h.zero; omega
  · by_cases e : k = i
    · subst e
      rw [row_set_same hi] at hk2 ⊢
      exact .step he (h.sound j he.2.1 (by omega))
    · rw [row_set_other e] at hk2 ⊢
      exact h.sound k hk hk2
theorem Cov.mono {l' : List Nat} {t i : Nat} (h : Cov r b l t i) (hm : ∀ k, row l' k ≤ row l k) : Cov r b l' t i := fun m hm1 hm2 => Nat.le_trans (hm i) (h m hm1 hm2)
theorem Cov.zero (h : DInv r b l) (i : Nat) : Cov r b l 0 i := fun m hm ht => by
  obtain rfl : m = 0 := by omega
  cases ht
  rw [h.zero]; omega
/-- A row of which all neighbours were looked at is right a step further. -/
theorem Cov.next {t i : Nat} (h : DInv r b l) (hs : ∀ j, rE r i j → ∀ m, m ≤ t → ToB (rE r) b j m → row l i ≤ m + 1) : Cov r b l (t + 1) i := fun m hm ht => by
  cases ht with
  | here => rw [h.zero]; omega
  | step e ht' => exact hs _ e _ (by omega) ht'
/-- How far each is. -/
structure RDist (r : List Nat) (b : Nat) (l : List Nat) : Prop where
  len : l.length = r.length
  high : ∀ i, row l i ≤ 20
  sound : ∀ i, i < r.length → row l i < 20 → ToB (rE r) b i (row l i)
  cov : ∀ i m, i < r.length → ToB (rE r) b i m → row l i ≤ m
theorem DInv.done (h : DInv r b l) (hc : ∀ i, i < r.length → Cov r b l r.length i) : RDist r b l :=
  ⟨h.len, h.high, h.sound, fun i m hi ht => by
    obtain ⟨k, k1, k2, k3⟩ := ht.few hi (fun x y e => e.2.1)
    exact Nat.le_trans (hc i hi k (by omega) k1) k2⟩

/-- The way that always goes to the least next thing that is nearer. -/
inductive GWay (r : List Nat) (b : Nat) (l : List Nat) : Nat → List Nat → Prop where
  | here : GWay r b l b [b]
  | step {a j : Nat} {p : List Nat} : rE r a j → row l a = row l j + 1 → (∀ j', j' < j → ¬ (rE r a j' ∧ row l a = row l j' + 1)) → GWay r b l j p → GWay r b l a (a :: p)
theorem GWay.way {a : Nat} {p : List Nat} (h : GWay r b l a p) : CWay (rE r) b a p := by
  induction h with
  | here => exact .here
  | step e _ _ _ ih => exact .step e ih
theorem GWay.long (hl : RDist r b l) (hb : b < r.length) {a : Nat} {p : List Nat} (h : GWay r b l a p) : p.length = row l a + 1 := by
  induction h with
  | here => have := hl.cov b 0 hb .here; simp; omega
  | step _ e _ _ ih => rw [List.length_cons, ih, e]
theorem RDist.edge (hl : RDist r b l) {a j : Nat} (he : rE r a j) (hj : row l j < 20) : row l a ≤ row l j + 1 := hl.cov a _ he.1 (.step he (hl.sound j he.2.1 hj))
theorem SLe.cons {p q : List Nat} (h : SLe p q) (a : Nat) : SLe (a :: p) (a :: q) := by
  rcases h with rfl | h | ⟨h1, h2⟩
  · exact .inl rfl
  · exact .inr (.inl (by simpa using h))
  · exact .inr (.inr ⟨by simp [h1], .inr ⟨rfl, h2⟩⟩)
/-- It is the least of the shortest. -/
theorem GWay.least (hl : RDist r b l) (hb : b < r.length) {a : Nat} {p : List Nat} (h : GWay r b l a p) : ∀ {p' : List Nat}, CWay (rE r) b a p' → SLe p p' := by
  induction h with
  | here =>
    intro p' h'
    cases h' with
    | here => exact .inl rfl
    | step _ h2 => exact .inr (.inl (by have := h2.to.2; simp; omega))
  | @step a j p e e1 e2 hg ih =>
    intro p' h'
    have hlp := hg.long hl hb
    cases h' with
    | here =>
      have := hl.cov b 0 hb .here
      omega
    | @step _ j' q e' h2 =>
      obtain ⟨k1, k2⟩ := h2.to
      have h3 := hl.cov j' _ e'.2.1 k1
      rcases Nat.lt_trichotomy p.length q.length with h4 | h4 | h4
      · exact .inr (.inl (by simpa using h4))
      · have h5 : row l j' ≤ row l j := by omega
        have hj20 : row l j' < 20 := by have := hl.high a; omega
        have h6 := hl.edge e' hj20
        have h7 : row l a = row l j' + 1 := by omega
        rcases Nat.lt_trichotomy j j' with h8 | h8 | h8
        · obtain ⟨p1, rfl⟩ := hg.way.head
          obtain ⟨q1, rfl⟩ := h2.head
          exact .inr (.inr ⟨by simpa using h4, .inr ⟨rfl, .inl h8⟩⟩)
        · subst h8
          exact (ih h2).cons a
        · exact absurd ⟨e', h7⟩ (e2 j' h8)
      · have := hl.high a
        have hj20 : row l j' < 20 := by omega
        have h6 := hl.edge e' hj20
        omega
/-- The next thing. -/
theorem RDist.next (hl : RDist r b l) {a : Nat} (ha : a < r.length) (hab : a ≠ b) (h20 : row l a < 20) : ∃ j, rE r a j ∧ row l a = row l j + 1 := by
  have hs := hl.sound a ha h20
  generalize hm : row l a = m at *
  cases hs with
  | here => exact absurd rfl hab
  | @step _ j m e ht =>
    have h1 := hl.cov j m e.2.1 ht
    have h2 := hl.edge e (by omega)
    exact ⟨j, e, by omega⟩
theorem least_of {P : Nat → Prop} (h : ∃ j, P j) : ∃ j, P j ∧ ∀ k, k < j → ¬ P k := by
  obtain ⟨j, hj⟩ := h
  induction j using Nat.strongRecOn with
  | _ j ih =>
    by_cases hc : ∃ k, k < j ∧ P k
    · obtain ⟨k, h1, h2⟩ := hc
      exact ih k h1 h2
    · exact ⟨j, hj, fun k h1 h2 => hc ⟨k, h1, h2⟩⟩
theorem RDist.gway (hl : RDist r b l) : ∀ (m : Nat) {a : Nat}, a < r.length → row l a = m → m < 20 → ∃ p, GWay r b l a p
  | m, a, ha, hm, h20 => by
    by_cases hab : a = b
    · subst hab; exact ⟨_, .here⟩
    · obtain ⟨j, ⟨h1, h2⟩, h3⟩ := least_of (hl.next ha hab (by omega))
      obtain ⟨p, hp⟩ := RDist.gway hl (row l j) h1.2.1 rfl (by omega)
      exact ⟨_, .step h1 h2 h3 hp⟩
  termination_by m => m
end
end Go.Proofs.YtndeplakkhfmlaaDoor
