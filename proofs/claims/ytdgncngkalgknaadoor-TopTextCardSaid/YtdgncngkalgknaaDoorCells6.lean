/-
  Words: six cells; a program and its tree.
-/
import Derived.Test.YtdgncngkalgknaaDoorPgFlat
import Derived.Test.YtdgncngkalgknaaDoorCast
import Derived.Test.YtdgncngkalgknaaDoorBibaLaw
namespace Go.Proofs.YtdgncngkalgknaaDoor
open Go.RowKit
set_option linter.unusedVariables false

/-- The cells of six ints, in every later world. -/
theorem cells6 {w : World} {A : Option Addr} {l : List Int} (h : IntsAt w A l) (h6 : l.length = 6) : ∃ b off, A = some ⟨b, off, none⟩ ∧ ∀ V, Below w.heap.size w V → ∀ x, x < 6 → V.cell? ⟨b, off + x, none⟩ = some (.int .i64 (gI l x)) := by
  obtain ⟨b, off, rfl, hc⟩ := h (by intro e; rw [e] at h6; cases h6)
  refine ⟨b, off, rfl, fun V hV x hx => ?_⟩
  have := hc x _ (get_gI (by omega))
  exact (hV.cell (p := ⟨b, off + x, none⟩) (block_lt this)).trans this
theorem gI_castL (v : List Nat) (x : Nat) : gI (castL v) x = (v.getD x 0 : Nat) := by
  unfold gI castL
  rw [List.getD_eq_getElem?_getD, List.getD_eq_getElem?_getD, List.getElem?_map]
  cases v[x]? <;> rfl

theorem some_tree (P : List Int) (n : Nat) : ∃ s, progCode P n = 0 → IsSt P (n - 1) s := by
  by_cases h : progCode P n = 0
  · obtain ⟨-, -, s, hs⟩ := progCode_tree h
    exact ⟨s, fun _ => hs⟩
  · exact ⟨.skip, fun e => absurd e h⟩
end Go.Proofs.YtdgncngkalgknaaDoor
