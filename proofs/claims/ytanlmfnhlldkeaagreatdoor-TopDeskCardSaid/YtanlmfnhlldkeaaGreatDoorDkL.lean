/-
  Plain laws: the answers of a session.
-/
import Derived.Test.YtanlmfnhlldkeaaGreatDoorDkN
namespace Go.Proofs.YtanlmfnhlldkeaaGreatDoor
open Go.RowKit
set_option linter.unusedVariables false

theorem okL_free : 10 ∉ okL := by decide
theorem badL_free : 10 ∉ badL := by decide
theorem stateL_free : 10 ∉ stateL := by decide
theorem fullL_free : 10 ∉ fullL := by decide
theorem nameE_free (k : Nat) : 10 ∉ nameE k := by unfold nameE; split <;> decide
theorem toldE_free (k : Nat) : 10 ∉ toldE k := by
  unfold toldE
  split
  · decide
  · exact nameE_free k
theorem setV_free {v : List UInt8} (hv : 10 ∉ v) (n : Nat) : 10 ∉ setV v n := by
  unfold setV
  rw [List.mem_append, List.mem_flatMap]
  rintro (h | ⟨i, _, h⟩)
  · exact hv h
  · rcases List.mem_cons.1 h with h | h
    · exact absurd h (by decide)
    · exact itoa_free i isD_10 h
theorem doesV_free {v : List UInt8} {j : Nat} (h : doesV v = some j) : 10 ∉ v := by
  unfold doesV at h
  split at h
  · rename_i e; subst e; decide
  · split at h
    · rename_i e; subst e; decide
    · split at h
      · rename_i e; subst e; decide
      · split at h
        · rename_i e; subst e; decide
        · cases h
theorem crash_free (D : DS) (T : TS) (k : Nat) : 10 ∉ (dCrash D T k).2 := by
  unfold dCrash
  split
  · dsimp only
    rw [List.mem_append]
    rintro (h | h)
    · exact absurd h (by decide)
    · exact itoa_free _ isD_10 h
  · exact nameE_free _
theorem act_free {D : DS} {v : List UInt8} {l : List Nat} {r : DS × List UInt8} (h : dAct D v l = some r) : 10 ∉ r.2 := by
  unfold dAct at h
  split at h
  · split at h
    · cases h
    · split at h
      · injection h with h; subst h; (first | exact okL_free | exact stateL_free | exact fullL_free | exact badL_free)
      · injection h with h; subst h; exact toldE_free _
  · split at h
    · cases h
    · split at h
      · cases h
      · rename_i j hj
        have hv := doesV_free hj
        split at h
        · injection h with h; subst h; (first | exact okL_free | exact stateL_free | exact fullL_free | exact badL_free)
        · injection h with h
          subst h
          unfold dDo
          split
          · exact setV_free hv _
          · exact setV_free hv _
          · exact setV_free hv _
          · exact crash_free _ _ _
theorem line_free (D : DS) (s : List UInt8) : 10 ∉ (dLine D s).2 := by
  unfold dLine
  split
  · unfold dAddU
    split
    · exact nameE_free 2
    · split
      · (first | exact okL_free | exact stateL_free | exact fullL_free | exact badL_free)
      · split <;> (first | exact okL_free | exact stateL_free | exact fullL_free | exact badL_free)
  · split
    · unfold dAddF
      split
      · exact nameE_free 2
      · split
        · (first | exact okL_free | exact stateL_free | exact fullL_free | exact badL_free)
        · split <;> (first | exact okL_free | exact stateL_free | exact fullL_free | exact badL_free)
    · split
      · unfold dStart
        split
        · (first | exact okL_free | exact stateL_free | exact fullL_free | exact badL_free)
        · split
          · (first | exact okL_free | exact stateL_free | exact fullL_free | exact badL_free)
          · exact nameE_free _
      · unfold dRest
        split
        · (first | exact okL_free | exact stateL_free | exact fullL_free | exact badL_free)
        · split
          · (first | exact okL_free | exact stateL_free | exact fullL_free | exact badL_free)
          · rename_i h; exact act_free h
theorem lines_count : ∀ (l : List (List UInt8)) (D : DS), (dLines D l).2.count 10 = l.length
  | [], D => rfl
  | s :: r, D => by
    rw [dLines]
    dsimp only
    rw [List.count_append, List.count_cons_self, lines_count r, List.count_eq_zero.2 (line_free D s), List.length_cons]
    omega
theorem lines_end : ∀ (l : List (List UInt8)) (D : DS), (dLines D l).2 = [] ∨ ∃ p, (dLines D l).2 = p ++ [10]
  | [], D => .inl rfl
  | s :: r, D => by
    rw [dLines]
    dsimp only
    rcases lines_end r (dLine D s).1 with e | ⟨p, e⟩
    · rw [e]; exact .inr ⟨_, rfl⟩
    · rw [e]; exact .inr ⟨(dLine D s).2 ++ 10 :: p, by simp⟩
/-- How many lines. -/
def nLines (t : List UInt8) : Nat := t.count 10 + if t.getLast?.getD 10 = 10 then 0 else 1
theorem linesL_ne {l : List UInt8} (h : l ≠ []) : ∃ x r, linesL l = x :: r := by
  cases e : linesL l with
  | nil => exact absurd (linesL_nil.1 e) h
  | cons x r => exact ⟨x, r, rfl⟩
theorem linesL_length : ∀ l : List UInt8, (linesL l).length = nLines l
  | [] => rfl
  | [c] => by
    by_cases h : c = 10
    · subst h; rfl
    · rw [linesL_none (by simp) (by simpa using fun e => h e.symm)]
      unfold nLines
      rw [List.count_eq_zero.2 (by simpa using fun e => h e.symm), List.getLast?_singleton, Option.getD_some, if_neg h]
      rfl
  | c :: d :: l => by
    have ih := linesL_length (d :: l)
    have hg : nLines (c :: d :: l) = nLines (d :: l) + if c = 10 then 1 else 0 := by
      unfold nLines
      rw [List.getLast?_cons_cons, List.count_cons]
      by_cases h : c = 10
      · subst h; simp; omega
      · have : (c == 10) = false := by simpa using h
        rw [this, if_neg h]; simp
    by_cases h : c = 10
    · subst h
      rw [linesL_hit, List.length_cons, ih, hg, if_pos rfl]
    · obtain ⟨x, r, e⟩ := linesL_ne (l := d :: l) (by simp)
      rw [linesL_more h e, hg, if_neg h, ← ih, e]
      rfl
theorem linesL_append : ∀ (p q : List UInt8), (∀ x, p.getLast? = some x → x = 10) → linesL (p ++ q) = linesL p ++ linesL q
  | [], q, _ => rfl
  | [c], q, h => by
    obtain rfl := h c rfl
    rw [show [10] ++ q = 10 :: q from rfl, linesL_hit]
    rfl
  | c :: d :: p, q, h => by
    have ih := linesL_append (d :: p) q fun x hx => h x (by rw [List.getLast?_cons_cons]; exact hx)
    by_cases hc : c = 10
    · subst hc
      rw [List.cons_append, linesL_hit, linesL_hit, ih]
      rfl
    · obtain ⟨x, r, e⟩ := linesL_ne (l := d :: p) (by simp)
      rw [e] at ih
      replace ih : linesL (d :: p ++ q) = x :: (r ++ linesL q) := ih
      rw [List.cons_append, show linesL (c :: (d :: p ++ q)) = _ from linesL_more hc ih, linesL_more hc e]
      rfl
theorem lineL_append {p : List UInt8} (h : ∀ x, p.getLast? = some x → x = 10) (q : List UInt8) : lineL (p ++ q) = lineL p ++ lineL q := by
  unfold lineL
  rw [linesL_append p q h, List.map_append]
theorem lineL_length (t : List UInt8) : (lineL t).length = nLines t := by unfold lineL; rw [List.length_map, linesL_length]
/-- The law of DeskBegins. -/
theorem run_begins {t : List UInt8} (ht : t.length ≤ 3000) {k : Nat} (hk : k ≤ t.length) (h : k = 0 ∨ t[k - 1]? = some 10) : ∃ z, dRun t = dRun (t.take k) ++ z := by
  have hl : ∀ x, (t.take k).getLast? = some x → x = 10 := fun x hx => by
    rcases h with rfl | h
    · simp at hx
    · rw [List.getLast?_eq_getElem?, List.length_take, Nat.min_eq_left hk, List.getElem?_take] at hx
      split at hx
      · rw [h] at hx; injection hx with hx; exact hx.symm
      · cases hx
  have e := lineL_append hl (t.drop k)
  rw [List.take_append_drop] at e
  unfold dRun
  rw [if_neg (by omega), if_neg (by rw [List.length_take]; omega), e, dLines_append]
  exact ⟨_, rfl⟩
/-- The law of DeskLines. -/
theorem run_lines {t : List UInt8} (ht : t.length ≤ 3000) : (dRun t).count 10 = nLines t ∧ (dRun t = [] ∨ ∃ p, dRun t = p ++ [10]) := by
  unfold dRun
  rw [if_neg (by omega)]
  exact ⟨by rw [lines_count, lineL_length], lines_end _ _⟩
def crashL : List UInt8 := [99, 114, 97, 115, 104, 32, 57, 57, 57, 57]
theorem crash_same {D : DS} (h : DOk D) : (dLine D crashL).1 = D := by
  have hc : cutL 32 crashL = [vCrash, [57, 57, 57, 57]] := by decide
  have hn : numsD [[57, 57, 57, 57]] = some [9999] := by kernel_rfl
  unfold dLine
  rw [hc, if_neg (by decide), if_neg (by decide), if_neg (by decide)]
  unfold dRest
  rw [show [vCrash, [57, 57, 57, 57]].drop 1 = [[57, 57, 57, 57]] from rfl, hn]
  dsimp only
  unfold dAct
  rw [show [vCrash, [57, 57, 57, 57]].getD 0 [] = vCrash from rfl, show kindV vCrash = none by decide, show doesV vCrash = some 3 by decide]
  dsimp only
  rw [if_neg (by decide)]
  cases hT : D.T with
  | none => rfl
  | some T =>
    show (dCrash D T 9999).1 = D
    unfold dCrash
    obtain ⟨T', c, he, _, hw, _⟩ := (h.tr T hT).torn h.m8 h.n8 9999
    obtain ⟨K, n, hr⟩ := h.tr T hT
    have hI : TInv D.U D.F T := by rw [hr]; exact (TInv.start h.m8 h.n8).run n
    have hlen : T.log.length ≤ 9999 := by have := hI.log; have := hI.many; omega
    rw [he, if_pos rfl, hw hlen]
    obtain ⟨U, F, T2⟩ := D
    dsimp only at hT ⊢
    rw [hT]
theorem trim_end (b : List UInt8) : Lib.trimSuffix (b ++ [10]) [10] = b := by
  have h : Lib.hasSuffix (b ++ [10]) [10] = true := by
    unfold Lib.hasSuffix
    rw [List.isSuffixOf_iff_suffix]
    exact List.suffix_append b [10]
  unfold Lib.trimSuffix
  rw [if_pos h]
  simp
/-- The law of TopDesk. -/
theorem run_top {t a : List UInt8} (ha : 10 ∉ a) (ht : t.length + a.length ≤ 2980) (h : ∀ x, t.getLast? = some x → x = 10) :
    ∃ p q l, (∀ x, p.getLast? = some x → x = 10) ∧ (∀ x, q.getLast? = some x → x = 10) ∧ 10 ∉ l ∧ dRun (t ++ (a ++ [10])) = p ++ (l ++ [10]) ∧ dRun (t ++ (crashL ++ [10] ++ (a ++ [10]))) = q ++ (l ++ [10]) := by
  have h1 : ∀ b : List UInt8, 10 ∉ b → lineL (b ++ [10]) = [b] := fun b hb => by
    unfold lineL
    rw [linesL_at [] hb]
    show [Lib.trimSuffix (b ++ [10]) [10]] = [b]
    rw [trim_end]
  have hl : ∀ b : List UInt8, ∀ x, (b ++ [10]).getLast? = some x → x = 10 := fun b x hx => by
    rw [List.getLast?_concat] at hx
    injection hx with hx
    exact hx.symm
  have e1 := lineL_append h (a ++ [10])
  rw [h1 a ha] at e1
  have e2 := lineL_append h (crashL ++ [10] ++ (a ++ [10]))
  rw [lineL_append (hl crashL), h1 a ha, h1 crashL (by decide)] at e2
  have hok : DOk (dLines dNew (lineL t)).1 := DOk.new.lines _
  have hcr := crash_same hok
  have he : ∀ (l : List (List UInt8)) (D : DS) (x : UInt8), (dLines D l).2.getLast? = some x → x = 10 := fun l D x hx => by
    rcases lines_end l D with e | ⟨p, e⟩
    · rw [e] at hx; cases hx
    · rw [e] at hx; exact hl p x hx
  refine ⟨(dLines dNew (lineL t)).2, (dLines dNew (lineL t ++ [crashL])).2, (dLine (dLines dNew (lineL t)).1 a).2, he _ _, he _ _, line_free _ _, ?_, ?_⟩
  · unfold dRun
    rw [if_neg (by simp; omega), e1, dLines_append]
    rfl
  · unfold dRun
    rw [if_neg (by simp [crashL]; omega), e2, ← List.append_assoc, dLines_append, dLines_append]
    rw [show (dLines (dLines dNew (lineL t)).1 [crashL]).1 = (dLines dNew (lineL t)).1 from hcr]
    rfl
end Go.Proofs.YtanlmfnhlldkeaaGreatDoor
