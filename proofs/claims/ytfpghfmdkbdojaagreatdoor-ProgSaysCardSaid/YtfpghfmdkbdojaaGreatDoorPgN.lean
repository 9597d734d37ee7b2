/-
  Words: a program's nodes in memory. No program is looked at.
-/
import Derived.Test.YtfpghfmdkbdojaaGreatDoorPgA
import Derived.Test.YtfpghfmdkbdojaaGreatDoorBox
namespace Go.Proofs.YtfpghfmdkbdojaaGreatDoor
open Go.RowKit
set_option maxRecDepth 100000
set_option linter.unusedVariables false

/-- A program of n nodes lies behind an address. -/
structure NodesAt (w : World) (A : Option Addr) (P : List Int) (n : Nat) : Prop where
  ints : IntsAt w A P
  len : P.length = n * 5
  small : n < 2 ^ 47
section
variable {w w' : World} {A : Option Addr} {P : List Int} {n : Nat}
theorem NodesAt.below {B : Nat} (h : NodesAt w A P n) (hb : Below w.heap.size w w') : NodesAt w' A P n := ⟨h.ints.below hb, h.len, h.small⟩
theorem NodesAt.get (h : NodesAt w A P n) {i k : Nat} (hi : i < n) (hk : k < 5) : P[i * 5 + k]? = some (nd P i k) := by
  have hl : i * 5 + k < P.length := by rw [h.len]; omega
  unfold nd
  rw [List.getD_eq_getElem?_getD, List.getElem?_eq_getElem hl]; rfl
theorem NodesAt.cells (h : NodesAt w A P n) {i : Nat} (hi : i < n) : ∃ b off, A = some ⟨b, off, none⟩ ∧ w.cell? ⟨b, off + i * 5, none⟩ = some (.int .i64 (nd P i 0)) ∧ w.cell? ⟨b, off + i * 5 + 1, none⟩ = some (.int .i64 (nd P i 1)) ∧
    w.cell? ⟨b, off + i * 5 + 2, none⟩ = some (.int .i64 (nd P i 2)) ∧ w.cell? ⟨b, off + i * 5 + 3, none⟩ = some (.int .i64 (nd P i 3)) ∧ w.cell? ⟨b, off + i * 5 + 4, none⟩ = some (.int .i64 (nd P i 4)) := by
  obtain ⟨b, off, rfl, hc⟩ := h.ints (by intro e; have := h.len; rw [e] at this; simp at this; omega)
  exact ⟨b, off, rfl, hc (i * 5 + 0) _ (h.get hi (by decide)), hc (i * 5 + 1) _ (h.get hi (by decide)), hc (i * 5 + 2) _ (h.get hi (by decide)), hc (i * 5 + 3) _ (h.get hi (by decide)), hc (i * 5 + 4) _ (h.get hi (by decide))⟩
end
end Go.Proofs.YtfpghfmdkbdojaaGreatDoor
