/-
  Words: a block that is known whole; two blocks of different types; what a row of one's own keeps. No program is looked at.
-/
import Derived.Test.YtfpghfmdkbdojaaGreatDoorBase
import Derived.Below
import Derived.Laws.AppendOwn
import Derived.RangeFuncOwn
set_option linter.unusedVariables false
namespace Go.Proofs.YtfpghfmdkbdojaaGreatDoor
open Go.RowKit

/-- A block that the call itself laid holds just these values. -/
def BoxN (w : World) (b : Nat) (t : TypeId) (vs : Array Value) : Prop := w.heap[b]? = some (.cells vs t (0, 0))
section
variable {w w' : World} {b : Nat} {t : TypeId} {vs : Array Value}
theorem BoxN.cell (h : BoxN w b t vs) {k : Nat} {v : Value} (hv : vs[k]? = some v) : w.cell? ⟨b, k, none⟩ = some v := by
  rw [cell_of_row w b k vs t (0, 0) h]; exact hv
theorem BoxN.free (h : BoxN w b t vs) (k : Nat) : w.frozen? ⟨b, k, none⟩ = false := by
  have h' : w.heap[b]? = some (.cells vs t (0, 0)) := h
  simp [World.frozen?, h']
theorem BoxN.lt (h : BoxN w b t vs) : b < w.heap.size := (Array.getElem?_eq_some_iff.1 h).1
theorem BoxN.below {B : Nat} (h : BoxN w b t vs) (hb : Below B w w') (hB : b < B) : BoxN w' b t vs := (hb.block b hB).trans h
theorem BoxN.all (h : BoxN w b t vs) (hb : Below w.heap.size w w') : BoxN w' b t vs := h.below hb h.lt
theorem BoxN.new (w : World) (t : TypeId) (vs : Array Value) : BoxN (w.alloc (.cells vs t)) w.heap.size t vs := heap_alloc_new w _
theorem BoxN.alloc (h : BoxN w b t vs) (o : Obj) : BoxN (w.alloc o) b t vs := h.all ((Below.refl _ w).alloc (Nat.le_refl _) o)
theorem BoxN.drew (h : BoxN w b t vs) : BoxN w.drew b t vs := h
theorem BoxN.drewN (h : BoxN w b t vs) (n : Nat) : BoxN (w.drewN n) b t vs := h
theorem BoxN.set (h : BoxN w b t vs) (k : Nat) (v : Value) : BoxN (w.setCell ⟨b, k, none⟩ v) b t (vs.setIfInBounds k v) := by
  have h' : w.heap[b]? = some (.cells vs t (0, 0)) := h
  unfold BoxN
  simp [World.setCell, Array.getElem?_modify, h']
theorem BoxN.other (h : BoxN w b t vs) {a : Addr} (hne : b ≠ a.block) (v : Value) : BoxN (w.setCell a v) b t vs := (Below.heap_setCell w a v b hne).trans h
theorem BoxN.own (h : BoxN w b t vs) {row : Option Nat} (hg : w.grownBy w' row) (hr : ∀ r, row = some r → ∃ o : Obj, w.heap[r]? = some o ∧ o.isCells = false) : BoxN w' b t vs :=
  (hg.block b h.lt fun eq => by
    obtain ⟨o, ho, hc⟩ := hr b eq.symm
    have h' : w.heap[b]? = some (.cells vs t (0, 0)) := h
    rw [h'] at ho
    injection ho with ho
    subst ho
    cases hc).trans h
end

section
variable {w w' : World} {g p : Nat} {e t : TypeId} {l : List Value} {vs : Array Value}
theorem OwnAt.ne_box (h : OwnAt w g e l) (hb : BoxN w p t vs) (hne : e ≠ t) : g ≠ p := by
  rintro rfl
  obtain ⟨cur, hg, _⟩ := h
  have hb' : w.heap[g]? = some (.cells vs t (0, 0)) := hb
  rw [hg] at hb'
  injection hb' with hb'
  injection hb' with _ h2
  exact hne h2
theorem OwnAt.far (h : OwnAt w g e l) {a : Addr} (hne : g ≠ a.block) (v : Value) : OwnAt (w.setCell a v) g e l := h.block (Below.heap_setCell w a v g hne)
theorem OwnAt.all (h : OwnAt w g e l) (hb : Below w.heap.size w w') : OwnAt w' g e l := h.below hb h.lt
end

/-- Only blocks of cells of type e have turned, and none has gone. -/
def KeepsT (e : TypeId) (w w' : World) : Prop := ∀ (b : Nat) (cs : Array Value) (t : TypeId) (fz : Nat × Nat), w.heap[b]? = some (Obj.cells cs t fz) → t ≠ e → w'.heap[b]? = some (Obj.cells cs t fz)
section
variable {w w' w'' : World} {e : TypeId}
theorem KeepsT.refl (e : TypeId) (w : World) : KeepsT e w w := fun _ _ _ _ h _ => h
theorem KeepsT.trans (h : KeepsT e w w') (k : KeepsT e w' w'') : KeepsT e w w'' := fun b cs t fz hb ht => k b cs t fz (h b cs t fz hb ht) ht
theorem KeepsT.of_below (h : Below w.heap.size w w') : KeepsT e w w' := fun b cs t fz hb _ => (h.block b (Array.getElem?_eq_some_iff.1 hb).1).trans hb
theorem KeepsT.setCell (h : KeepsT e w w') {g : Nat} {cur : Array Value} {fz : Nat × Nat} (hg : w'.heap[g]? = some (.cells cur e fz)) (k : Nat) (v : Value) : KeepsT e w (w'.setCell ⟨g, k, none⟩ v) := fun b cs t fz' hb ht => by
  have h1 := h b cs t fz' hb ht
  rw [Below.heap_setCell w' ⟨g, k, none⟩ v b (fun e' => ?_)]
  · exact h1
  · subst e'
    rw [hg] at h1
    injection h1 with h1
    injection h1 with _ h2
    exact ht h2.symm
theorem KeepsT.box {b : Nat} {t : TypeId} {vs : Array Value} (h : KeepsT e w w') (hb : BoxN w b t vs) (ht : t ≠ e) : BoxN w' b t vs := h b vs t (0, 0) hb ht
end
end Go.Proofs.YtfpghfmdkbdojaaGreatDoor
