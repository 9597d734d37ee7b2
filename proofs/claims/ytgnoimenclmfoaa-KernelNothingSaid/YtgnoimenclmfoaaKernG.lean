/-
  To which parts one may send: the least set that is closed. Plain laws.
-/
import Derived.Test.YtgnoimenclmfoaaKernB
namespace Go.Proofs.Ytgnoimenclmfoaa
set_option linter.unusedVariables false

def portStep (P : List Int) (s i : Nat) : Nat := if s.testBit (portFrom P i) then s ||| 2 ^ (portTo P i) else s
def portRound (P : List Int) (s k : Nat) : Nat := (List.range k).foldl (portStep P) s
def portRounds (P : List Int) (q part : Nat) : Nat → Nat
  | 0 => 2 ^ part
  | k + 1 => portRound P (portRounds P q part k) q
theorem portRound_succ (P : List Int) (s k : Nat) : portRound P s (k + 1) = portStep P (portRound P s k) k := by unfold portRound; rw [List.range_succ, List.foldl_append]; rfl
theorem portStep_sub (P : List Int) (s i : Nat) {j : Nat} (h : s.testBit j = true) : (portStep P s i).testBit j = true := by
  unfold portStep
  split
  · rw [Nat.testBit_or, h]; rfl
  · exact h
theorem portRound_sub (P : List Int) (s : Nat) {a b : Nat} (hab : a ≤ b) {j : Nat} (h : (portRound P s a).testBit j = true) : (portRound P s b).testBit j = true := by
  induction b with
  | zero => obtain rfl : a = 0 := by omega
            exact h
  | succ b ih =>
    rcases Nat.lt_or_ge a (b + 1) with h1 | h1
    · rw [portRound_succ]; exact portStep_sub P _ _ (ih (by omega))
    · obtain rfl : a = b + 1 := by omega
      exact h
theorem portStep_lt {P : List Int} {s i n : Nat} (hs : s < 2 ^ n) (hi : portTo P i < n) : portStep P s i < 2 ^ n := by
  unfold portStep
  split
  · exact Nat.or_lt_two_pow hs (Nat.pow_lt_pow_right (by decide) hi)
  · exact hs
theorem portRound_lt {P : List Int} {s n : Nat} (hs : s < 2 ^ n) {k : Nat} (hi : ∀ i, i < k → portTo P i < n) : portRound P s k < 2 ^ n := by
  induction k with
  | zero => exact hs
  | succ k ih => rw [portRound_succ]; exact portStep_lt (ih fun i hi' => hi i (by omega)) (hi k (by omega))
theorem portRounds_lt {P : List Int} {q part n : Nat} (hp : part < n) (hi : ∀ i, i < q → portTo P i < n) (k : Nat) : portRounds P q part k < 2 ^ n := by
  induction k with
  | zero => exact Nat.pow_lt_pow_right (by decide) hp
  | succ k ih => exact portRound_lt ih hi
def kcnt : Nat → Nat → Nat
  | 0, _ => 0
  | n + 1, s => kcnt n s + (if s.testBit n then 1 else 0)
theorem kcnt_le (n s : Nat) : kcnt n s ≤ n := by
  induction n with
  | zero => simp [kcnt]
  | succ n ih => rw [kcnt]; split <;> omega
theorem kcnt_mono {n s t : Nat} (h : ∀ j, j < n → s.testBit j = true → t.testBit j = true) : kcnt n s ≤ kcnt n t := by
  induction n with
  | zero => simp [kcnt]
  | succ n ih =>
    rw [kcnt, kcnt]
    have h1 := ih fun j hj => h j (by omega)
    cases hs : s.testBit n with
    | false => simp; omega
    | true => rw [h n (by omega) hs]; omega
theorem kcnt_lt {n s t i : Nat} (h : ∀ j, j < n → s.testBit j = true → t.testBit j = true) (hi : i < n) (hs : s.testBit i = false) (ht : t.testBit i = true) : kcnt n s < kcnt n t := by
  induction n with
  | zero => omega
  | succ n ih =>
    rw [kcnt, kcnt]
    rcases Nat.lt_or_ge i n with h1 | h1
    · have := ih (fun j hj => h j (by omega)) h1
      cases h2 : s.testBit n with
      | false => simp; omega
      | true => rw [h n (by omega) h2]; omega
    · obtain rfl : i = n := by omega
      have := kcnt_mono (n := i) (s := s) (t := t) fun j hj => h j (by omega)
      rw [hs, ht]; simp; omega
def PClosed (P : List Int) (q s : Nat) : Prop := ∀ i, i < q → s.testBit (portFrom P i) = true → s.testBit (portTo P i) = true
theorem not_closed {P : List Int} {q s : Nat} (h : ¬ PClosed P q s) : ∃ i, i < q ∧ s.testBit (portFrom P i) = true ∧ s.testBit (portTo P i) = false := by
  refine Classical.byContradiction fun hn => h fun i hi h1 => ?_
  cases h2 : s.testBit (portTo P i) with
  | true => rfl
  | false => exact absurd ⟨i, hi, h1, h2⟩ hn
theorem closed_round {P : List Int} {q s : Nat} (h : PClosed P q s) {k : Nat} (hk : k ≤ q) : portRound P s k = s := by
  induction k with
  | zero => rfl
  | succ k ih =>
    rw [portRound_succ, ih (by omega)]
    unfold portStep
    split
    · rename_i h1
      refine Nat.eq_of_testBit_eq fun j => ?_
      rw [Nat.testBit_or, Nat.testBit_two_pow]
      by_cases e : portTo P k = j
      · subst e; rw [h k (by omega) h1]; rfl
      · simp [e]
    · rfl
theorem open_round {P : List Int} {q s n : Nat} (hi : ∀ i, i < q → portTo P i < n) (h : ¬ PClosed P q s) : kcnt n s < kcnt n (portRound P s q) := by
  obtain ⟨i, h1, h2, h3⟩ := not_closed h
  refine kcnt_lt (fun j _ hj => portRound_sub P s (Nat.zero_le q) hj) (hi i h1) h3 ?_
  have h4 : (portRound P s i).testBit (portFrom P i) = true := portRound_sub P s (Nat.zero_le i) h2
  refine portRound_sub P s (a := i + 1) (by omega) ?_
  rw [portRound_succ]
  unfold portStep
  rw [if_pos h4, Nat.testBit_or, Nat.testBit_two_pow]
  simp
/-- Behind six rounds no more is come to. -/
theorem reach_closed {P : List Int} {q part n : Nat} (hp : part < n) (hn : n ≤ 5) (hi : ∀ i, i < q → portTo P i < n) : PClosed P q (portRounds P q part 6) ∧ (portRounds P q part 6).testBit part = true := by
  have key : ∀ k, PClosed P q (portRounds P q part k) ∨ k < kcnt n (portRounds P q part k) := by
    intro k
    induction k with
    | zero =>
      right
      have : kcnt n 0 < kcnt n (portRounds P q part 0) := kcnt_lt (i := part) (fun j _ h => by simp at h) hp (by simp) (by show (2 ^ part).testBit part = true; rw [Nat.testBit_two_pow]; simp)
      omega
    | succ k ih =>
      by_cases hc : PClosed P q (portRounds P q part k)
      · left
        show PClosed P q (portRound P (portRounds P q part k) q)
        rw [closed_round hc (Nat.le_refl _)]; exact hc
      · right
        have h1 := ih.resolve_left hc
        have := open_round hi hc
        show k + 1 < kcnt n (portRound P (portRounds P q part k) q)
        omega
  refine ⟨(key 6).resolve_right fun h => ?_, ?_⟩
  · have := kcnt_le n (portRounds P q part 6); omega
  · have : ∀ k, (portRounds P q part k).testBit part = true := by
      intro k
      induction k with
      | zero => show (2 ^ part).testBit part = true; rw [Nat.testBit_two_pow]; simp
      | succ k ih => exact portRound_sub P _ (Nat.zero_le q) ih
    exact this 6
/-- RUSHBY, of two systems that differ in one part alone. -/
theorem quiet_shown {L M : List (List Int)} {P T : List Int} {q part who : Nat} (hL : SysOk L P q T) (hM : SysOk M P q T) (hlen : L.length = M.length) (hp : part < L.length) (he : ∀ p, p ≠ part → L.getD p [] = M.getD p [])
    (hw : (portRounds P q part 6).testBit who = false) (l : List Nat) : ((kturns (sysOps L) l kNew).parts who).shown = ((kturns (sysOps M) l kNew).parts who).shown := by
  obtain ⟨hc, hself⟩ := reach_closed (P := P) (q := q) (part := part) (n := L.length) hp hL.parts.2 fun i hi => by
    have := (hL.port i hi).2.1
    unfold portTo; omega
  have hf : ∀ {K : List (List Int)}, SysOk K P q T → KFair (fun p => (portRounds P q part 6).testBit p = true) (portTo P) (sysOps K) := fun hK => sys_fair hK fun i hi h => hc i hi h
  have := kturns_agree (hf hL) (hf hM) (fun p hnp => by
    unfold sysOps
    rw [he p (fun e => hnp (by rw [e]; exact hself))]) l (KAgree.refl kNew)
  rw [this.1 who (by show ¬ (portRounds P q part 6).testBit who = true; rw [hw]; exact fun h => by cases h)]
end Go.Proofs.Ytgnoimenclmfoaa
