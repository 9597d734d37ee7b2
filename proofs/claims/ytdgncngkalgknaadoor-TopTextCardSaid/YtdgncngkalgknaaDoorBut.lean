/-
  Words: what stays but for one block. No program is looked at.
-/
import Derived.Test.YtdgncngkalgknaaDoorBox
namespace Go.Proofs.YtdgncngkalgknaaDoor
open Go.RowKit

/-- What stays but for one block. -/
structure KeepsBut (p : Nat) (w w' : World) : Prop where
  size : w.heap.size ≤ w'.heap.size
  block : ∀ b, b ≠ p → b < w.heap.size → w'.heap[b]? = w.heap[b]?
theorem KeepsBut.below {p : Nat} {w w' : World} (h : Below w.heap.size w w') : KeepsBut p w w' := ⟨h.size, fun b _ hb => h.block b hb⟩
theorem KeepsBut.setCell {p : Nat} {w w' : World} (h : KeepsBut p w w') (k : Nat) (v : Value) : KeepsBut p w (w'.setCell ⟨p, k, none⟩ v) :=
  ⟨by simp; exact h.size, fun b hb hl => (Below.heap_setCell w' ⟨p, k, none⟩ v b hb).trans (h.block b hb hl)⟩
theorem KeepsBut.cell {p : Nat} {w w' : World} (h : KeepsBut p w w') {a : Addr} {v : Value} (hc : w.cell? a = some v) (hne : a.block ≠ p) : w'.cell? a = some v := by
  have := h.block a.block hne (block_lt hc)
  unfold World.cell? at hc ⊢
  rw [this]; exact hc

theorem KeepsBut.refl (p : Nat) (w : World) : KeepsBut p w w := ⟨Nat.le_refl _, fun _ _ _ => rfl⟩
theorem KeepsBut.below' {p : Nat} {w w' : World} (h : KeepsBut p w w') : KeepsBut p w w'.drew := ⟨h.size, h.block⟩
theorem KeepsBut.box {p q : Nat} {w w' : World} {t : TypeId} {vs : Array Value} (h : KeepsBut p w w') (hb : BoxN w q t vs) (hne : q ≠ p) : BoxN w' q t vs := (h.block q hne hb.lt).trans hb
theorem KeepsBut.trans {p : Nat} {w w' w'' : World} (h : KeepsBut p w w') (k : KeepsBut p w' w'') : KeepsBut p w w'' := ⟨Nat.le_trans h.size k.size, fun b hb hl => (k.block b hb (Nat.lt_of_lt_of_le hl h.size)).trans (h.block b hb hl)⟩
end Go.Proofs.YtdgncngkalgknaaDoor
