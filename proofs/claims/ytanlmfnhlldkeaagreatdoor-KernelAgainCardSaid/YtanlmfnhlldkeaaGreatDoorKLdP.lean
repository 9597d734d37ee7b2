/-
  Plain laws: how a text is loaded, line by line.
-/
import Derived.Test.YtanlmfnhlldkeaaGreatDoorKLdN
namespace Go.Proofs.YtanlmfnhlldkeaaGreatDoor
set_option linter.unusedVariables false

theorem loadK_text {t : List UInt8} {Lc : List (List UInt8)} {z : List UInt8} (h : cutL 10 t = Lc ++ [z]) (h4 : t.length ≤ 4000) (n q : Nat) : loadK t n q = (match textK Lc z with
    | .error k => .error k
    | .ok R => if shapeK R n q = 0 then .ok R else .error (shapeK R n q)) := by
  unfold loadK
  rw [if_neg (by omega), h, List.dropLast_concat]
  have e : (Lc ++ [z]).getLastD [] = z := by simp
  rw [e]
  rfl
theorem load_rows_bad {t : List UInt8} {Lc : List (List UInt8)} {z : List UInt8} (h : cutL 10 t = Lc ++ [z]) (h4 : t.length ≤ 4000) (n q : Nat) {k : Nat} (hk : rowsK Lc = .error k) : loadK t n q = .error k := by
  rw [loadK_text h h4]; unfold textK; rw [hk]
theorem load_end_bad {t : List UInt8} {Lc : List (List UInt8)} {z : List UInt8} (h : cutL 10 t = Lc ++ [z]) (h4 : t.length ≤ 4000) (n q : Nat) {R : List (List Int)} (hk : rowsK Lc = .ok R) (hz : z ≠ []) : loadK t n q = .error 2 := by
  rw [loadK_text h h4]; unfold textK; rw [hk]
  dsimp only
  rw [if_neg hz]
theorem load_rows_ok {t : List UInt8} {Lc : List (List UInt8)} (h : cutL 10 t = Lc ++ [[]]) (h4 : t.length ≤ 4000) (n q : Nat) {R : List (List Int)} (hk : rowsK Lc = .ok R) : loadK t n q = if shapeK R n q = 0 then .ok R else .error (shapeK R n q) := by
  rw [loadK_text h h4]; unfold textK; rw [hk]
  dsimp only
  rw [if_pos rfl]
end Go.Proofs.YtanlmfnhlldkeaaGreatDoor
