/-
  What a step makes of a graph of rights: plain laws.
-/
import Derived.Test.YtpfmllpodjcldaaDoorTakeB
namespace Go.Proofs.YtpfmllpodjcldaaDoor
set_option linter.unusedVariables false

def setG (L : List (List Int)) (a t : Nat) (y : Int) : List (List Int) := L.set a ((L.getD a []).set t y)
/-- The first k rows with a 0 more. -/
def ext0 (L : List (List Int)) : Nat → List (List Int)
  | 0 => L
  | k + 1 => (ext0 L k).set k ((ext0 L k).getD k [] ++ [0])
def newL (L : List (List Int)) (who : Nat) : List (List Int) := setG (ext0 L L.length) who L.length 3 ++ [List.replicate (L.length + 1) 0]
theorem getD_set_s {α : Type} (l : List α) {i : Nat} (x d : α) (h : i < l.length) : (l.set i x).getD i d = x := by
  rw [List.getD_eq_getElem?_getD, List.getElem?_set_self h]; rfl
theorem getD_set_o {α : Type} (l : List α) {i j : Nat} (x d : α) (h : j ≠ i) : (l.set i x).getD j d = l.getD j d := by
  rw [List.getD_eq_getElem?_getD, List.getElem?_set_ne (fun e => h e.symm), List.getD_eq_getElem?_getD]
theorem getD_over {α : Type} (l : List α) {i : Nat} (d : α) (h : l.length ≤ i) : l.getD i d = d := by
  rw [List.getD_eq_getElem?_getD, List.getElem?_eq_none h]; rfl
theorem length_setG (L : List (List Int)) (a t : Nat) (y : Int) : (setG L a t y).length = L.length := by simp [setG]
theorem row_setG {L : List (List Int)} {a t : Nat} {y : Int} (x : Nat) : ((setG L a t y).getD x []).length = (L.getD x []).length := by
  unfold setG
  by_cases e : x = a
  · subst e
    rcases Nat.lt_or_ge x L.length with h | h
    · rw [getD_set_s _ _ _ h]; simp
    · rw [getD_over _ _ (by simpa using h), getD_over _ _ h]
  · rw [getD_set_o _ _ _ e]
theorem gAt_setG {L : List (List Int)} {a t : Nat} {y : Int} (ha : a < L.length) (ht : t < (L.getD a []).length) (x z : Nat) : gAt (setG L a t y) x z = if x = a ∧ z = t then y else gAt L x z := by
  unfold gAt setG nI
  by_cases e : x = a
  · subst e
    rw [getD_set_s _ _ _ ha]
    by_cases e2 : z = t
    · subst e2
      rw [getD_set_s _ _ _ ht, if_pos ⟨rfl, rfl⟩]
    · rw [getD_set_o _ _ _ e2, if_neg (fun h => e2 h.2)]
  · rw [getD_set_o _ _ _ e, if_neg (fun h => e h.1)]
theorem GOk.add {L : List (List Int)} (h : GOk L) {a t r : Nat} (ha : a < L.length) (ht : t < L.length) (hr : r < 8) (hne : a ≠ t) : GOk (setG L a t ((gN L a t ||| r : Nat) : Int)) ∧ gN (setG L a t ((gN L a t ||| r : Nat) : Int)) = add2 (gN L) a t r := by
  have ht' : t < (L.getD a []).length := by rw [h.row a ha]; exact ht
  have hlt : gN L a t ||| r < 2 ^ 3 := Nat.or_lt_two_pow (h.lt ha ht) hr
  refine ⟨⟨by rw [length_setG]; exact h.few, fun i hi => ?_, fun i j hi hj => ?_, fun i hi => ?_⟩, ?_⟩
  · rw [length_setG] at hi ⊢
    rw [row_setG]; exact h.row i hi
  · rw [length_setG] at hi hj
    rw [gAt_setG ha ht']
    split
    · omega
    · exact h.cell i j hi hj
  · rw [length_setG] at hi
    rw [gAt_setG ha ht', if_neg (fun e => hne (e.1.symm.trans e.2))]
    exact h.self i hi
  · funext x y
    unfold gN add2
    rw [gAt_setG ha ht']
    split
    · rename_i e
      obtain ⟨rfl, rfl⟩ := e
      exact Int.toNat_natCast _
    · rfl
theorem length_ext0 (L : List (List Int)) : ∀ k, (ext0 L k).length = L.length
  | 0 => rfl
  | k + 1 => by rw [ext0, List.length_set, length_ext0 L k]
theorem row_ext0 (L : List (List Int)) : ∀ k, k ≤ L.length → ∀ i, (ext0 L k).getD i [] = if i < k then L.getD i [] ++ [0] else L.getD i []
  | 0, _, i => by rw [if_neg (by omega)]; rfl
  | k + 1, hk, i => by
    rw [ext0]
    by_cases e : i = k
    · subst e
      rw [getD_set_s _ _ _ (by rw [length_ext0]; omega), row_ext0 L i (by omega), if_neg (by omega), if_pos (by omega)]
    · rw [getD_set_o _ _ _ e, row_ext0 L k (by omega)]
      by_cases h1 : i < k
      · rw [if_pos h1, if_pos (by omega)]
      · rw [if_neg h1, if_neg (by omega)]
theorem nI_push (l : List Int) (x : Int) (j : Nat) : nI (l ++ [x]) j = if j = l.length then x else nI l j := by
  unfold nI
  by_cases e : j = l.length
  · subst e; rw [if_pos rfl]; simp
  · rw [if_neg e]
    rcases Nat.lt_or_ge j l.length with h | h
    · rw [List.getD_eq_getElem?_getD, List.getElem?_append_left h, ← List.getD_eq_getElem?_getD]
    · rw [getD_over _ _ (by simp; omega), getD_over _ _ h]
theorem gAt_newL {L : List (List Int)} (h : GOk L) {who : Nat} (hw : who < L.length) (x y : Nat) : gAt (newL L who) x y = if x = who ∧ y = L.length then 3 else if x < L.length ∧ y < L.length then gAt L x y else 0 := by
  have hlen : (setG (ext0 L L.length) who L.length 3).length = L.length := by rw [length_setG, length_ext0]
  have hrow : ∀ i, i < L.length → (ext0 L L.length).getD i [] = L.getD i [] ++ [0] := fun i hi => by rw [row_ext0 L _ (Nat.le_refl _), if_pos hi]
  unfold newL
  rcases Nat.lt_trichotomy x L.length with hx | hx | hx
  · have e1 : gAt (setG (ext0 L L.length) who L.length 3 ++ [List.replicate (L.length + 1) 0]) x y = gAt (setG (ext0 L L.length) who L.length 3) x y := by
      unfold gAt
      rw [List.getD_eq_getElem?_getD, List.getElem?_append_left (by rw [hlen]; exact hx), ← List.getD_eq_getElem?_getD]
    rw [e1, gAt_setG (by rw [length_ext0]; exact hw) (by rw [hrow who hw, List.length_append, h.row who hw]; simp)]
    split
    · rfl
    · unfold gAt
      rw [hrow x hx, nI_push, h.row x hx]
      by_cases hy : y = L.length
      · rw [if_pos hy, if_neg (by omega)]
      · rw [if_neg hy]
        by_cases hy2 : y < L.length
        · rw [if_pos ⟨hx, hy2⟩]
        · rw [if_neg (fun h => hy2 h.2)]
          unfold nI
          rw [getD_over _ _ (by rw [h.row x hx]; omega)]
  · subst hx
    rw [if_neg (by omega), if_neg (by omega)]
    unfold gAt
    rw [List.getD_eq_getElem?_getD, List.getElem?_append_right (by rw [hlen]; exact Nat.le_refl _), hlen, Nat.sub_self]
    show nI (List.replicate (L.length + 1) 0) y = 0
    unfold nI
    rw [List.getD_eq_getElem?_getD, List.getElem?_replicate]
    split <;> rfl
  · rw [if_neg (by omega), if_neg (by omega)]
    unfold gAt nI
    rw [getD_over (_ ++ _) _ (by rw [List.length_append, hlen]; simp; omega)]
    rfl
theorem length_newL (L : List (List Int)) (who : Nat) : (newL L who).length = L.length + 1 := by unfold newL; rw [List.length_append, length_setG, length_ext0]; rfl
theorem GOk.fresh {L : List (List Int)} (h : GOk L) {who : Nat} (hw : who < L.length) (hn : L.length < 20) : GOk (newL L who) ∧ gN (newL L who) = newG (gN L) L.length who := by
  refine ⟨⟨by rw [length_newL]; omega, fun i hi => ?_, fun i j hi hj => ?_, fun i hi => ?_⟩, ?_⟩
  · rw [length_newL] at hi ⊢
    have hlen : (setG (ext0 L L.length) who L.length 3).length = L.length := by rw [length_setG, length_ext0]
    unfold newL
    rcases Nat.lt_or_ge i L.length with h1 | h1
    · rw [List.getD_eq_getElem?_getD, List.getElem?_append_left (by rw [hlen]; exact h1), ← List.getD_eq_getElem?_getD, row_setG, row_ext0 L _ (Nat.le_refl _), if_pos h1, List.length_append, h.row i h1]
      rfl
    · obtain rfl : i = L.length := by omega
      rw [List.getD_eq_getElem?_getD, List.getElem?_append_right (by rw [hlen]; exact Nat.le_refl _), hlen, Nat.sub_self]
      simp
  · rw [gAt_newL h hw]
    split
    · omega
    · split
      · rename_i h2; exact h.cell i j h2.1 h2.2
      · omega
  · rw [gAt_newL h hw, if_neg (by omega)]
    split
    · rename_i h2; exact h.self i h2.1
    · rfl
  · funext x y
    show (gAt (newL L who) x y).toNat = newG (gN L) L.length who x y
    rw [gAt_newL h hw]
    unfold newG gN
    by_cases hy : y = L.length
    · rw [if_pos hy]
      by_cases hx : x = who
      · rw [if_pos hx, if_pos ⟨hx, hy⟩]; rfl
      · rw [if_neg hx, if_neg (fun e => hx e.1), if_neg (by omega)]; rfl
    · rw [if_neg hy, if_neg (fun e => hy e.2)]
      by_cases hx : x = L.length
      · rw [if_pos hx, if_neg (by omega)]; rfl
      · rw [if_neg hx]
        by_cases h2 : x < L.length ∧ y < L.length
        · rw [if_pos h2]
        · rw [if_neg h2]
          unfold gAt nI
          rcases Nat.lt_or_ge x L.length with h3 | h3
          · rw [getD_over (L.getD x []) _ (by rw [h.row x h3]; omega)]
          · rw [getD_over L _ h3]; rfl

/-- A step: kind, who, of, to, rights. -/
structure GStep where
  k : Int
  w : Int
  o : Int
  t : Int
  r : Int
def inR (x lo hi : Int) : Prop := lo ≤ x ∧ x ≤ hi
instance (x lo hi : Int) : Decidable (inR x lo hi) := inferInstanceAs (Decidable (_ ∧ _))
def stFrom (s : GStep) : Nat := if s.k = 1 then s.w.toNat else s.o.toNat
def stTo (s : GStep) : Nat := if s.k = 1 then s.o.toNat else s.w.toNat
def stNeed (s : GStep) : Nat := if s.k = 1 then 2 else 1
/-- What is wrong with a step. -/
def stCode (L : List (List Int)) (s : GStep) : Nat :=
  if ¬ inR s.k 0 2 ∨ ¬ inR s.w 0 ((L.length : Int) - 1) then 1
  else if s.k = 2 then (if L.length = 20 then 4 else 0)
  else if ¬ inR s.o 0 ((L.length : Int) - 1) ∨ ¬ inR s.t 0 ((L.length : Int) - 1) ∨ ¬ inR s.r 1 7 then 1
  else if stTo s = s.t.toNat ∨ gN L s.w.toNat s.o.toNat &&& stNeed s = 0 ∨ s.r.toNat &&& gN L (stFrom s) s.t.toNat ≠ s.r.toNat then 7 else 0
/-- What it makes. -/
def stDo (L : List (List Int)) (s : GStep) : List (List Int) :=
  if s.k = 2 then newL L s.w.toNat else setG L (stTo s) s.t.toNat ((gN L (stTo s) s.t.toNat ||| s.r.toNat : Nat) : Int)
theorem sub_of_and {a b : Nat} (h : a &&& b = a) : Sub a b := fun i hi => by
  rw [← h, Nat.testBit_and, Bool.and_eq_true] at hi
  exact hi.2
theorem and_two : ∀ a, a < 8 → (¬ (a &&& 1 = 0) → a.testBit 0 = true) ∧ (¬ (a &&& 2 = 0) → a.testBit 1 = true) := by decide
theorem st_law {L : List (List Int)} (h : GOk L) {s : GStep} (hz : stCode L s = 0) : GOk (stDo L s) ∧ TStep (L.length, gN L) ((stDo L s).length, gN (stDo L s)) := by
  unfold stCode at hz
  split at hz
  · cases hz
  rename_i h1
  have hw : inR s.w 0 ((L.length : Int) - 1) := Classical.byContradiction fun e => h1 (.inr e)
  have hk : inR s.k 0 2 := Classical.byContradiction fun e => h1 (.inl e)
  unfold inR at hw hk
  have hwn : s.w.toNat < L.length := by omega
  split at hz
  · rename_i h2
    split at hz
    · cases hz
    rename_i h3
    have hf := h.fresh hwn (by have := h.few; omega)
    unfold stDo
    rw [if_pos h2, hf.2, length_newL]
    exact ⟨hf.1, .fresh hwn⟩
  · rename_i h2
    split at hz
    · cases hz
    rename_i h3
    split at hz
    · cases hz
    rename_i h4
    have ho : inR s.o 0 ((L.length : Int) - 1) := Classical.byContradiction fun e => h3 (.inl e)
    have ht : inR s.t 0 ((L.length : Int) - 1) := Classical.byContradiction fun e => h3 (.inr (.inl e))
    have hr : inR s.r 1 7 := Classical.byContradiction fun e => h3 (.inr (.inr e))
    unfold inR at ho ht hr
    have hne : stTo s ≠ s.t.toNat := fun e => h4 (.inl e)
    have hn : ¬ (gN L s.w.toNat s.o.toNat &&& stNeed s = 0) := fun e => h4 (.inr (.inl e))
    have hs : s.r.toNat &&& gN L (stFrom s) s.t.toNat = s.r.toNat := Classical.byContradiction fun e => h4 (.inr (.inr e))
    have hto : stTo s < L.length := by unfold stTo; split <;> omega
    have ha := h.add (a := stTo s) (t := s.t.toNat) (r := s.r.toNat) hto (by omega) (by omega) hne
    unfold stDo
    rw [if_neg h2, ha.2, length_setG]
    refine ⟨ha.1, ?_⟩
    have l1 := h.lt (x := s.w.toNat) (y := s.o.toNat) (by omega) (by omega)
    by_cases h5 : s.k = 1
    · unfold stNeed at hn
      unfold stFrom at hs
      unfold stTo
      rw [if_pos h5] at hn hs ⊢
      exact .grant hwn (by omega) ((and_two _ l1).2 hn) (sub_of_and hs)
    · unfold stNeed at hn
      unfold stFrom at hs
      unfold stTo
      rw [if_neg h5] at hn hs ⊢
      exact .take hwn (by omega) ((and_two _ l1).1 hn) (sub_of_and hs)
end Go.Proofs.YtpfmllpodjcldaaDoor
