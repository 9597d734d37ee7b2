/-
  A program as a flat list of nodes of five numbers: what is wrong with it, and its trees. Plain laws.
-/
import Derived.Test.YtfpghfmdkbdojaaGreatDoorPgTree
namespace Go.Proofs.YtfpghfmdkbdojaaGreatDoor
set_option linter.unusedVariables false

/-- Number k of node i. -/
def nd (P : List Int) (i k : Nat) : Int := P.getD (i * 5 + k) 0
def partsL (K A B C : Int) : List Int := if K = 8 then [A, B, C] else if K = 6 then [A] else if (2 ≤ K ∧ K ≤ 4) ∨ K = 7 ∨ K = 9 then [A, B] else []
def partsOf (P : List Int) (i : Nat) : List Int := partsL (nd P i 0) (nd P i 2) (nd P i 3) (nd P i 4)
def askB (K : Int) (k : Nat) : Bool := decide (K < 5) || decide (K = 6) || (decide (k = 0) && decide (K ≠ 7))
def partCode (P : List Int) (i : Nat) (u : List Bool) (k : Nat) (a : Int) : Nat :=
  if ¬ (0 ≤ a ∧ a < i) then 1 else if u.getD a.toNat false = true ∨ decide (nd P a.toNat 0 < 5) ≠ askB (nd P i 0) k then 3 else 0
def partsScan (P : List Int) (i : Nat) : List Int → Nat → List Bool → Nat × List Bool
  | [], _, u => (0, u)
  | a :: l, k, u => if partCode P i u k a = 0 then partsScan P i l (k + 1) (u.set a.toNat true) else (partCode P i u k a, u)
def headBad (P : List Int) (i : Nat) : Prop := ¬ (0 ≤ nd P i 0 ∧ nd P i 0 ≤ 9) ∨ nd P i 0 = 0 ∧ ¬ (0 ≤ nd P i 1 ∧ nd P i 1 ≤ 999999) ∨ (nd P i 0 = 1 ∨ nd P i 0 = 6) ∧ ¬ (0 ≤ nd P i 1 ∧ nd P i 1 ≤ 5)
instance (P : List Int) (i : Nat) : Decidable (headBad P i) := by unfold headBad; infer_instance
def nodeScan (P : List Int) (i : Nat) (u : List Bool) : Nat × List Bool := if headBad P i then (1, u) else partsScan P i (partsOf P i) 0 u
def nodesScan (P : List Int) : Nat → Nat → List Bool → Nat × List Bool
  | 0, _, u => (0, u)
  | m + 1, i, u => if (nodeScan P i u).1 = 0 then nodesScan P m (i + 1) (nodeScan P i u).2 else nodeScan P i u
def endCode (P : List Int) (n : Nat) (u : List Bool) : Nat := if (∃ j, j < n - 1 ∧ u.getD j false = false) ∨ nd P (n - 1) 0 < 5 then 3 else 0
/-- What is wrong with a program of n nodes. -/
def progCode (P : List Int) (n : Nat) : Nat :=
  if n = 0 then 5 else if 80 < n then 4 else if (nodesScan P n 0 (List.replicate n false)).1 = 0 then endCode P n (nodesScan P n 0 (List.replicate n false)).2 else (nodesScan P n 0 (List.replicate n false)).1

/-- A node is right in itself. -/
structure NodeOk (P : List Int) (i : Nat) : Prop where
  kind : 0 ≤ nd P i 0 ∧ nd P i 0 ≤ 9
  num : nd P i 0 = 0 → 0 ≤ nd P i 1 ∧ nd P i 1 ≤ 999999
  var : nd P i 0 = 1 ∨ nd P i 0 = 6 → 0 ≤ nd P i 1 ∧ nd P i 1 ≤ 5
  parts : ∀ (k : Nat) (a : Int), (partsOf P i)[k]? = some a → (0 ≤ a ∧ a < i) ∧ decide (nd P a.toNat 0 < 5) = askB (nd P i 0) k

theorem partCode_zero {P : List Int} {i : Nat} {u : List Bool} {k : Nat} {a : Int} (h : partCode P i u k a = 0) : (0 ≤ a ∧ a < i) ∧ u.getD a.toNat false = false ∧ decide (nd P a.toNat 0 < 5) = askB (nd P i 0) k := by
  unfold partCode at h
  split at h
  · cases h
  · rename_i h1
    split at h
    · cases h
    · rename_i h2
      refine ⟨by omega, ?_, ?_⟩
      · cases hu : u.getD a.toNat false with
        | false => rfl
        | true => exact absurd (.inl hu) h2
      · exact Classical.byContradiction fun e => h2 (.inr e)
theorem partsScan_zero {P : List Int} {i : Nat} : ∀ (l : List Int) (k : Nat) (u v : List Bool), partsScan P i l k u = (0, v) → ∀ (j : Nat) (a : Int), l[j]? = some a → (0 ≤ a ∧ a < i) ∧ decide (nd P a.toNat 0 < 5) = askB (nd P i 0) (k + j)
  | [], k, u, v, h, j, a, ha => by simp at ha
  | b :: l, k, u, v, h, j, a, ha => by
    rw [partsScan] at h
    split at h
    · rename_i h0
      cases j with
      | zero =>
        simp at ha
        subst ha
        have := partCode_zero h0
        exact ⟨this.1, by simpa using this.2.2⟩
      | succ j =>
        simp at ha
        have := partsScan_zero l (k + 1) _ _ h j a ha
        rwa [Nat.add_right_comm, Nat.add_assoc] at this
    · rename_i h0; exact absurd (Prod.mk.inj h).1 h0
theorem nodeScan_zero {P : List Int} {i : Nat} {u : List Bool} (h : (nodeScan P i u).1 = 0) : NodeOk P i := by
  unfold nodeScan at h
  split at h
  · cases h
  · rename_i h1
    unfold headBad at h1
    have hp := partsScan_zero (partsOf P i) 0 u (partsScan P i (partsOf P i) 0 u).2 (Prod.ext h rfl)
    exact ⟨by omega, by omega, by omega, fun k a hk => by simpa using hp k a hk⟩
theorem nodesScan_zero {P : List Int} : ∀ (m i : Nat) (u : List Bool), (nodesScan P m i u).1 = 0 → ∀ j, i ≤ j → j < i + m → NodeOk P j
  | 0, i, u, h, j, h1, h2 => by omega
  | m + 1, i, u, h, j, h1, h2 => by
    rw [nodesScan] at h
    split at h
    · rename_i h0
      rcases Nat.eq_or_lt_of_le h1 with e | e
      · subst e; exact nodeScan_zero h0
      · exact nodesScan_zero m (i + 1) _ h j (by omega) (by omega)
    · rename_i h0; exact absurd h h0

/-- Node i is this value. -/
inductive IsEx (P : List Int) : Nat → Ex → Prop where
  | num {i n : Nat} : nd P i 0 = 0 → nd P i 1 = n → n ≤ 999999 → IsEx P i (.num n)
  | var {i n : Nat} : nd P i 0 = 1 → nd P i 1 = n → n < 6 → IsEx P i (.var n)
  | op {i k a b : Nat} {x y : Ex} : 2 ≤ k → k ≤ 4 → nd P i 0 = k → nd P i 2 = a → nd P i 3 = b → a < i → b < i → IsEx P a x → IsEx P b y → IsEx P i (.op k x y)
/-- Node i is this deed. -/
inductive IsSt (P : List Int) : Nat → St → Prop where
  | skip {i : Nat} : nd P i 0 = 5 → IsSt P i .skip
  | set {i n a : Nat} {x : Ex} : nd P i 0 = 6 → nd P i 1 = n → n < 6 → nd P i 2 = a → a < i → IsEx P a x → IsSt P i (.set n x)
  | both {i a b : Nat} {x y : St} : nd P i 0 = 7 → nd P i 2 = a → nd P i 3 = b → a < i → b < i → IsSt P a x → IsSt P b y → IsSt P i (.both x y)
  | ite {i a b c : Nat} {x : Ex} {y z : St} : nd P i 0 = 8 → nd P i 2 = a → nd P i 3 = b → nd P i 4 = c → a < i → b < i → c < i → IsEx P a x → IsSt P b y → IsSt P c z → IsSt P i (.ite x y z)
  | loop {i a b : Nat} {x : Ex} {y : St} : nd P i 0 = 9 → nd P i 2 = a → nd P i 3 = b → a < i → b < i → IsEx P a x → IsSt P b y → IsSt P i (.loop x y)
theorem IsEx.ok {P : List Int} {i : Nat} {e : Ex} (h : IsEx P i e) : e.ok := by
  induction h with
  | num _ _ h => exact h
  | var _ _ h => exact h
  | op h1 h2 _ _ _ _ _ _ _ ha hb => exact ⟨⟨h1, h2⟩, ha, hb⟩
theorem IsSt.ok {P : List Int} {i : Nat} {s : St} (h : IsSt P i s) : s.ok := by
  induction h with
  | skip _ => trivial
  | set _ _ h _ _ hx => exact ⟨h, hx.ok⟩
  | both _ _ _ _ _ _ _ ha hb => exact ⟨ha, hb⟩
  | ite _ _ _ _ _ _ _ hx _ _ ha hb => exact ⟨hx.ok, ha, hb⟩
  | loop _ _ _ _ _ hx _ ha => exact ⟨hx.ok, ha⟩
theorem trees {P : List Int} {n : Nat} (h : ∀ i, i < n → NodeOk P i) : ∀ i, i < n → (nd P i 0 < 5 → ∃ e, IsEx P i e) ∧ (5 ≤ nd P i 0 → ∃ s, IsSt P i s) := by
  intro i
  induction i using Nat.strongRecOn with
  | ind i ih =>
    intro hi
    have ho := h i hi
    have hk := ho.kind
    have hp := ho.parts
    unfold partsOf partsL askB at hp
    have part : ∀ (k : Nat) (a : Int), (partsOf P i)[k]? = some a → ∃ q : Nat, a = q ∧ q < i ∧ (askB (nd P i 0) k = true → ∃ e, IsEx P q e) ∧ (askB (nd P i 0) k = false → ∃ s, IsSt P q s) := fun k a hka => by
      obtain ⟨⟨h1, h2⟩, h3⟩ := ho.parts k a hka
      refine ⟨a.toNat, by omega, by omega, fun hb => ?_, fun hb => ?_⟩
      · rw [hb] at h3
        exact (ih a.toNat (by omega) (by omega)).1 (of_decide_eq_true h3)
      · rw [hb] at h3
        exact (ih a.toNat (by omega) (by omega)).2 (by have := of_decide_eq_false h3; omega)
    unfold partsOf partsL at part
    constructor
    · intro h5
      by_cases h0 : nd P i 0 = 0
      · have := ho.num h0
        exact ⟨_, .num (n := (nd P i 1).toNat) h0 (by omega) (by omega)⟩
      by_cases h1 : nd P i 0 = 1
      · have := ho.var (.inl h1)
        exact ⟨_, .var (n := (nd P i 1).toNat) h1 (by omega) (by omega)⟩
      rw [if_neg (by omega), if_neg (by omega), if_pos (by omega)] at part
      have hb : ∀ k, askB (nd P i 0) k = true := fun k => by simp [askB, h5]
      obtain ⟨a, ea, la, ta, _⟩ := part 0 _ rfl
      obtain ⟨b, eb, lb, tb, _⟩ := part 1 _ rfl
      obtain ⟨x, hx⟩ := ta (hb 0)
      obtain ⟨y, hy⟩ := tb (hb 1)
      exact ⟨_, .op (k := (nd P i 0).toNat) (by omega) (by omega) (by omega) ea eb la lb hx hy⟩
    · intro h5
      have hc : nd P i 0 = 5 ∨ nd P i 0 = 6 ∨ nd P i 0 = 7 ∨ nd P i 0 = 8 ∨ nd P i 0 = 9 := by omega
      rcases hc with e | e | e | e | e
      · exact ⟨_, .skip e⟩
      · rw [e] at part
        have := ho.var (.inr e)
        obtain ⟨a, ea, la, ta, _⟩ := part 0 _ rfl
        obtain ⟨x, hx⟩ := ta (by simp [askB])
        exact ⟨_, .set (n := (nd P i 1).toNat) e (by omega) (by omega) ea la hx⟩
      · rw [e] at part
        obtain ⟨a, ea, la, _, ta⟩ := part 0 _ rfl
        obtain ⟨b, eb, lb, _, tb⟩ := part 1 _ rfl
        obtain ⟨x, hx⟩ := ta (by simp [askB])
        obtain ⟨y, hy⟩ := tb (by simp [askB])
        exact ⟨_, .both e ea eb la lb hx hy⟩
      · rw [e] at part
        obtain ⟨a, ea, la, ta, _⟩ := part 0 _ rfl
        obtain ⟨b, eb, lb, _, tb⟩ := part 1 _ rfl
        obtain ⟨c, ec, lc, _, tc⟩ := part 2 _ rfl
        obtain ⟨x, hx⟩ := ta (by simp [askB])
        obtain ⟨y, hy⟩ := tb (by simp [askB])
        obtain ⟨z, hz⟩ := tc (by simp [askB])
        exact ⟨_, .ite e ea eb ec la lb lc hx hy hz⟩
      · rw [e] at part
        obtain ⟨a, ea, la, ta, _⟩ := part 0 _ rfl
        obtain ⟨b, eb, lb, _, tb⟩ := part 1 _ rfl
        obtain ⟨x, hx⟩ := ta (by simp [askB])
        obtain ⟨y, hy⟩ := tb (by simp [askB])
        exact ⟨_, .loop e ea eb la lb hx hy⟩
/-- A right program has a tree. -/
theorem progCode_tree {P : List Int} {n : Nat} (h : progCode P n = 0) : (1 ≤ n ∧ n ≤ 80) ∧ (∀ i, i < n → NodeOk P i) ∧ ∃ s, IsSt P (n - 1) s := by
  unfold progCode at h
  split at h
  · cases h
  · split at h
    · cases h
    · split at h
      · rename_i h1 h2 h3
        have hn := nodesScan_zero n 0 _ h3
        unfold endCode at h
        split at h
        · cases h
        · rename_i h4
          refine ⟨by omega, fun i hi => hn i (by omega) (by omega), (trees (n := n) (fun i hi => hn i (by omega) (by omega)) (n - 1) (by omega)).2 ?_⟩
          have : ¬ nd P (n - 1) 0 < 5 := fun x => h4 (.inr x)
          omega
      · rename_i h3; exact absurd h h3
end Go.Proofs.YtfpghfmdkbdojaaGreatDoor
