/-
  Plain laws: deeds on a pile.
-/
import Derived.Test.YthaaekpnemhjoaaDoorPgFlat
namespace Go.Proofs.YthaaekpnemhjoaaDoor
set_option linter.unusedVariables false

/-- All deeds of a pile, one behind the other. -/
def runAll : List St → List Nat → Nat → Option (List Nat × Nat)
  | [], v, n => some (v, n)
  | s :: l, v, n => match s.run v n with
    | none => none
    | some (v', n') => runAll l v' n'
theorem runAll_one (s : St) (v : List Nat) (n : Nat) : runAll [s] v n = s.run v n := by
  rw [runAll]
  cases s.run v n with
  | none => rfl
  | some q => rfl
theorem runAll_skip (l : List St) (v : List Nat) (n : Nat) : runAll (.skip :: l) v n = runAll l v n := rfl
theorem runAll_both (a b : St) (l : List St) (v : List Nat) (n : Nat) : runAll (.both a b :: l) v n = runAll (a :: b :: l) v n := by
  rw [runAll, runAll, St.run]
  cases a.run v n with
  | none => rfl
  | some q => rfl
theorem runAll_zero {s : St} (h : (∃ x e, s = .set x e) ∨ (∃ e a b, s = .ite e a b) ∨ ∃ e a, s = .loop e a) (l : List St) (v : List Nat) : runAll (s :: l) v 0 = none := by
  rcases h with ⟨x, e, rfl⟩ | ⟨e, a, b, rfl⟩ | ⟨e, a, rfl⟩
  · rfl
  · rfl
  · rw [runAll, St.run_loop, if_pos rfl]
theorem runAll_set (x : Nat) (e : Ex) (l : List St) (v : List Nat) (n : Nat) (h : n ≠ 0) : runAll (.set x e :: l) v n = runAll l (v.set x (e.val v)) (n - 1) := by rw [runAll, St.run, if_neg h]
theorem runAll_ite1 {e : Ex} (a b : St) (l : List St) {v : List Nat} (n : Nat) (h : n ≠ 0) (hv : e.val v ≠ 0) : runAll (.ite e a b :: l) v n = runAll (a :: l) v (n - 1) := by rw [runAll, runAll, St.run, if_neg h, if_pos hv]
theorem runAll_ite0 {e : Ex} (a b : St) (l : List St) {v : List Nat} (n : Nat) (h : n ≠ 0) (hv : e.val v = 0) : runAll (.ite e a b :: l) v n = runAll (b :: l) v (n - 1) := by rw [runAll, runAll, St.run, if_neg h, if_neg (fun x => x hv)]
theorem runAll_loop0 {e : Ex} (a : St) (l : List St) {v : List Nat} (n : Nat) (h : n ≠ 0) (hv : e.val v = 0) : runAll (.loop e a :: l) v n = runAll l v (n - 1) := by rw [runAll, St.run_loop, if_neg h, if_pos hv]
theorem runAll_loop1 {e : Ex} (a : St) (l : List St) {v : List Nat} (n : Nat) (h : n ≠ 0) (hv : e.val v ≠ 0) : runAll (.loop e a :: l) v n = runAll (a :: .loop e a :: l) v (n - 1) := by
  rw [runAll, runAll, St.run_loop, if_neg h, if_neg hv]
  cases a.run v (n - 1) with
  | none => rfl
  | some q => rfl

def St.size : St → Nat
  | skip => 1
  | set _ _ => 1
  | both a b => 1 + a.size + b.size
  | ite _ a b => 1 + a.size + b.size
  | loop _ a => 1 + a.size
/-- How many more than itself come to lie on the pile. -/
def St.need : St → Nat
  | skip => 0
  | set _ _ => 0
  | both a b => max (1 + a.need) b.need
  | ite _ a b => max a.need b.need
  | loop _ a => 1 + a.need
theorem IsSt.need_le {P : List Int} {i : Nat} {s : St} (h : IsSt P i s) : s.need ≤ i := by
  induction h with
  | skip _ => exact Nat.zero_le _
  | set _ _ _ _ _ _ => exact Nat.zero_le _
  | both _ _ _ la lb _ _ ha hb => simp only [St.need]; omega
  | ite _ _ _ _ _ lb lc _ _ _ hb hc => simp only [St.need]; omega
  | loop _ _ _ _ lb _ _ hb => simp only [St.need]; omega
def sizes (l : List St) : Nat := (l.map St.size).sum
/-- A pile of nodes (the top first), with their trees, that is no higher than it may be. -/
inductive Piled (P : List Int) (n Z D : Nat) : List Nat → List St → Prop where
  | nil : Piled P n Z D [] []
  | cons {i : Nat} {ids : List Nat} {t : St} {ts : List St} : IsSt P i t → i < n → t.size ≤ Z → t.need + ids.length ≤ D → Piled P n Z D ids ts → Piled P n Z D (i :: ids) (t :: ts)
theorem Piled.len {P : List Int} {n Z D : Nat} {ids : List Nat} {ts : List St} (h : Piled P n Z D ids ts) : ids.length ≤ D + 1 := by
  cases h with
  | nil => simp
  | cons _ _ _ h _ => simp only [List.length_cons]; omega
end Go.Proofs.YthaaekpnemhjoaaDoor
