/-
  Plain laws: how many a set has; what is come to step by step is the closure. No program in sight.
-/
import Derived.Test.YtndeplakkhfmlaaDoorOrderLaw
import Derived.Test.YtndeplakkhfmlaaDoorCntN
namespace Go.Proofs.YtndeplakkhfmlaaDoor
set_option linter.unusedVariables false

theorem cnt_mono {n s t : Nat} (h : ∀ j, j < n → s.testBit j = true → t.testBit j = true) : cnt n s ≤ cnt n t := by
  induction n with
  | zero => simp [cnt]
  | succ n ih =>
    rw [cnt, cnt]
    have h1 := ih fun j hj => h j (by omega)
    cases hs : s.testBit n with
    | false => simp; omega
    | true => rw [h n (by omega) hs]; omega
theorem cnt_lt {n s t i : Nat} (h : ∀ j, j < n → s.testBit j = true → t.testBit j = true) (hi : i < n) (hs : s.testBit i = false) (ht : t.testBit i = true) : cnt n s < cnt n t := by
  induction n with
  | zero => omega
  | succ n ih =>
    rw [cnt, cnt]
    rcases Nat.lt_or_ge i n with h1 | h1
    · have := ih (fun j hj => h j (by omega)) h1
      cases h2 : s.testBit n with
      | false => simp; omega
      | true => rw [h n (by omega) h2]; omega
    · obtain rfl : i = n := by omega
      have := cnt_mono (n := i) (s := s) (t := t) fun j hj => h j (by omega)
      rw [hs, ht]; simp; omega

def stepJ (r : List Nat) (s j : Nat) : Nat := if s.testBit j then s ||| row r j else s
def roundTo (r : List Nat) (s t : Nat) : Nat := (List.range t).foldl (stepJ r) s
def roundsTo (r : List Nat) (s : Nat) : Nat → Nat
  | 0 => s
  | t + 1 => roundTo r (roundsTo r s t) r.length
/-- What one comes to from i. -/
def reachFrom (r : List Nat) (i : Nat) : Nat := roundsTo r (2 ^ i) r.length

theorem roundTo_succ (r : List Nat) (s t : Nat) : roundTo r s (t + 1) = stepJ r (roundTo r s t) t := by unfold roundTo; rw [List.range_succ, List.foldl_append]; rfl
theorem stepJ_sub (r : List Nat) (s j : Nat) : Sub s (stepJ r s j) := by unfold stepJ; split; exact Sub.left _ _; exact Sub.refl _
theorem roundTo_sub (r : List Nat) (s t u : Nat) (h : t ≤ u) : Sub (roundTo r s t) (roundTo r s u) := by
  induction u with
  | zero => obtain rfl : t = 0 := by omega
            exact Sub.refl _
  | succ u ih =>
    rcases Nat.lt_or_ge t (u + 1) with h1 | h1
    · rw [roundTo_succ]; exact (ih (by omega)).trans (stepJ_sub _ _ _)
    · obtain rfl : t = u + 1 := by omega
      exact Sub.refl _
theorem roundTo_zero (r : List Nat) (s : Nat) : roundTo r s 0 = s := rfl
theorem stepJ_lt {r : List Nat} {n s j : Nat} (hb : Bd n r) (hs : s < 2 ^ n) : stepJ r s j < 2 ^ n := by unfold stepJ; split; exact Nat.or_lt_two_pow hs (hb j); exact hs
theorem roundTo_lt {r : List Nat} {n s : Nat} (hb : Bd n r) (hs : s < 2 ^ n) (t : Nat) : roundTo r s t < 2 ^ n := by
  induction t with
  | zero => exact hs
  | succ t ih => rw [roundTo_succ]; exact stepJ_lt hb ih
theorem roundsTo_lt {r : List Nat} {n s : Nat} (hb : Bd n r) (hs : s < 2 ^ n) (t : Nat) : roundsTo r s t < 2 ^ n := by
  induction t with
  | zero => exact hs
  | succ t ih => exact roundTo_lt hb ih _
/-- A set that one doesn't leave. -/
def Stays (r : List Nat) (s : Nat) : Prop := ∀ j, j < r.length → s.testBit j = true → Sub (row r j) s
theorem stays_of_round {r : List Nat} {s : Nat} (h : roundTo r s r.length = s) : Stays r s := fun j hj hs => by
  have h1 : Sub (roundTo r s (j + 1)) s := by
    have := roundTo_sub r s (j + 1) r.length (by omega)
    rwa [h] at this
  rw [roundTo_succ] at h1
  have h2 : (roundTo r s j).testBit j = true := roundTo_sub r s 0 j (Nat.zero_le _) j hs
  unfold stepJ at h1
  rw [if_pos h2] at h1
  exact (Sub.right _ _).trans h1
theorem round_of_stays {r : List Nat} {s : Nat} (h : Stays r s) : roundTo r s r.length = s := by
  have key : ∀ t, t ≤ r.length → roundTo r s t = s := fun t => by
    induction t with
    | zero => intro _; rfl
    | succ t ih =>
      intro ht
      rw [roundTo_succ, ih (by omega)]
      unfold stepJ
      split
      · rename_i hb
        refine Nat.eq_of_testBit_eq fun j => ?_
        rw [tb_or]
        cases h1 : s.testBit j with
        | true => rfl
        | false =>
          cases h2 : (row r t).testBit j with
          | false => rfl
          | true => rw [h t (by omega) hb j h2] at h1; cases h1
      · rfl
  exact key _ (Nat.le_refl _)
theorem sub_antisymm {a b : Nat} (h : Sub a b) (k : Sub b a) : a = b := Nat.eq_of_testBit_eq fun j => by
  rw [Bool.eq_iff_iff]; exact ⟨h j, k j⟩
theorem roundsTo_stays {r : List Nat} {s : Nat} (hb : Bd r.length r) (hs : s < 2 ^ r.length) : ∀ t, Stays r (roundsTo r s t) ∨ cnt r.length s + t ≤ cnt r.length (roundsTo r s t)
  | 0 => .inr (Nat.le_refl _)
  | t + 1 => by
    rcases roundsTo_stays hb hs t with h | h
    · left; rw [roundsTo, round_of_stays h]; exact h
    · by_cases he : roundTo r (roundsTo r s t) r.length = roundsTo r s t
      · left; rw [roundsTo, he]; exact stays_of_round he
      · right
        have hsub : Sub (roundsTo r s t) (roundTo r (roundsTo r s t) r.length) := roundTo_sub r _ 0 _ (Nat.zero_le _)
        have : ∃ i, i < r.length ∧ (roundsTo r s t).testBit i = false ∧ (roundTo r (roundsTo r s t) r.length).testBit i = true := by
          refine Classical.byContradiction fun hn => he ?_
          refine sub_antisymm (fun i hi => ?_) hsub
          cases h0 : (roundsTo r s t).testBit i with
          | true => rfl
          | false => exact absurd ⟨i, bit_of (roundTo_lt hb (roundsTo_lt hb hs t) _) hi, h0, hi⟩ hn
        obtain ⟨i, hi, h0, h1⟩ := this
        have := cnt_lt (n := r.length) (fun j _ => hsub j) hi h0 h1
        rw [roundsTo]; omega
theorem cnt_pow {n i : Nat} (hi : i < n) : 1 ≤ cnt n (2 ^ i) := by
  have := cnt_lt (n := n) (s := 0) (t := 2 ^ i) (i := i) (by simp) hi (by simp) (by rw [tb_pow]; simp)
  omega
theorem reach_stays {r : List Nat} (hb : Bd r.length r) {i : Nat} (hi : i < r.length) : Stays r (reachFrom r i) := by
  have hs : 2 ^ i < 2 ^ r.length := Nat.pow_lt_pow_right (by decide) hi
  rcases roundsTo_stays hb hs r.length with h | h
  · exact h
  · have h1 := cnt_pow hi
    have h2 := cnt_le r.length (roundsTo r (2 ^ i) r.length)
    omega
theorem rounds_sub {r : List Nat} {s T : Nat} (hb : Bd r.length r) (hT : Stays r T) (hs : Sub s T) (hTn : T < 2 ^ r.length) : ∀ t, Sub (roundsTo r s t) T
  | 0 => hs
  | t + 1 => by
    have key : ∀ u, Sub (roundTo r (roundsTo r s t) u) T := fun u => by
      induction u with
      | zero => exact rounds_sub hb hT hs hTn t
      | succ u ih =>
        rw [roundTo_succ]
        unfold stepJ
        split
        · rename_i hbit
          exact ih.or (hT u (bit_of hTn (ih u hbit)) (ih u hbit))
        · exact ih
    exact key _
theorem reach_self (r : List Nat) (i : Nat) : (reachFrom r i).testBit i = true := by
  have key : ∀ t, (roundsTo r (2 ^ i) t).testBit i = true := fun t => by
    induction t with
    | zero => simp [roundsTo]
    | succ t ih => exact roundTo_sub r _ 0 _ (Nat.zero_le _) i ih
  exact key _
theorem reach_closed {r : List Nat} (hb : Bd r.length r) {i : Nat} (hi : i < r.length) : reachFrom r i = row (closed r) i := by
  have hc := closed_inv r
  have hlt : ∀ j, j < r.length → reachFrom r j < 2 ^ r.length := fun j hj => roundsTo_lt hb (Nat.pow_lt_pow_right (by decide) hj) _
  refine sub_antisymm ?_ ?_
  · refine rounds_sub hb (fun j hj hij => ?_) (fun j hj => ?_) (closed_lt r hb i) _
    · exact (hc.more j hj).trans (hc.trans i j hi hj hj hij)
    · rw [tb_pow, decide_eq_true_eq] at hj; subst hj; exact hc.self i hi
  · have hrow : ∀ k, k < r.length → row ((List.range r.length).map (reachFrom r)) k = reachFrom r k := fun k hk => by
      unfold row; rw [List.getElem?_map, List.getElem?_range hk]; rfl
    have := hc.least ((List.range r.length).map (reachFrom r)) (fun k hk => by
      rw [hrow k hk]
      refine ⟨reach_self r k, reach_stays hb hk k hk (reach_self r k), fun j hj hkj => ?_⟩
      rw [hrow j hj]
      exact rounds_sub hb (reach_stays hb hk) (fun x hx => by rw [tb_pow, decide_eq_true_eq] at hx; subst hx; exact hkj) (hlt k hk) _) i hi
    rwa [hrow i hi] at this
theorem map_reach {r : List Nat} (hb : Bd r.length r) : (List.range r.length).map (reachFrom r) = closed r := by
  refine List.ext_getElem? fun i => ?_
  rcases Nat.lt_or_ge i r.length with hi | hi
  · rw [List.getElem?_map, List.getElem?_range hi, Option.map_some, reach_closed hb hi]
    unfold row
    rw [List.getElem?_eq_getElem (by rw [length_closed]; exact hi)]; rfl
  · rw [List.getElem?_eq_none (by simp; exact hi), List.getElem?_eq_none (by rw [length_closed]; exact hi)]
end Go.Proofs.YtndeplakkhfmlaaDoor
