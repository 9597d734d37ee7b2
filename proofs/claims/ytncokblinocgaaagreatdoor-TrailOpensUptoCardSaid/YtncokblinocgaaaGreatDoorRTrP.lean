/-
  A trail and the document's trail side by side.
-/
import Derived.Test.YtncokblinocgaaaGreatDoorRTrA
import Derived.Test.YtncokblinocgaaaGreatDoorTrE
namespace Go.Proofs.YtncokblinocgaaaGreatDoor
open Go.RowKit
set_option maxRecDepth 100000
set_option linter.unusedVariables false

section
variable {ok ok' : Nat → Prop} {w w' : World} {U F : List Int} {T T' : TS} {v : Value}
theorem IntsIn.to {A : Option Addr} {l : List Int} (h : IntsIn ok w A l) (hw : ∀ g, ok g → g < w.heap.size → w'.heap[g]? = w.heap[g]?) (ho : ∀ g, g < w.heap.size → ok g → ok' g) : IntsIn ok' w' A l :=
  ⟨fun hne => by
    obtain ⟨b, off, e, hc⟩ := h.1 hne
    have hb := h.2 b off e hne
    have hlt := h.1.lt e hne
    exact ⟨b, off, e, fun j x hj => by rw [← hc j x hj]; simp only [World.cell?]; rw [hw b hb hlt]⟩, fun b off e hne => ho b (h.1.lt e hne) (h.2 b off e hne)⟩
theorem RT.to (h : RT ok w v U F T) (hw : ∀ g, ok g → g < w.heap.size → w'.heap[g]? = w.heap[g]?) (ho : ∀ g, g < w.heap.size → ok g → ok' g) : RT ok' w' v U F T := by
  obtain ⟨a1, a2, a3, a4, a5, c1, c2, c3, c4, c5, e, i1, i2, i3, i4, i5⟩ := h.is
  exact ⟨a1, a2, a3, a4, a5, c1, c2, c3, c4, c5, e, i1.to hw ho, i2.to hw ho, i3.to hw ho, i4.to hw ho, i5.to hw ho⟩
theorem put8_block {g k : Nat} (hk : k ≠ g) (x0 x1 x2 x3 x4 x5 x6 x7 : Value) : ((((((((w.setCell ⟨g, 0, none⟩ x0).setCell ⟨g, 1, none⟩ x1).setCell ⟨g, 2, none⟩ x2).setCell ⟨g, 3, none⟩ x3).setCell ⟨g, 4, none⟩ x4).setCell ⟨g, 5, none⟩ x5).setCell ⟨g, 6, none⟩ x6).setCell ⟨g, 7, none⟩ x7).heap[k]? = w.heap[k]? := by
  rw [Below.heap_setCell _ _ _ _ hk, Below.heap_setCell _ _ _ _ hk, Below.heap_setCell _ _ _ _ hk, Below.heap_setCell _ _ _ _ hk, Below.heap_setCell _ _ _ _ hk, Below.heap_setCell _ _ _ _ hk, Below.heap_setCell _ _ _ _ hk, Below.heap_setCell _ _ _ _ hk]
end
/-- A trail at b, and the document's in the box xb: they hold the same. -/
structure Play (w0 w : World) (xb b p : Nat) (v : Value) (A : LA) (own : Nat → Prop) (U F : List Int) (T : TS) (vs : Array Value) : Prop where
  tr : TrailAt w0.heap.size own w b p v A U F T
  box : BoxN w xb 53 vs
  nx : ¬ own xb
  rt : RT (fun g => ¬ own g ∧ g ≠ xb) w (.agg vs) U F T
  lowx : w0.heap.size ≤ xb
  bw : Below w0.heap.size w0 w
section
variable {w0 w w' : World} {xb b p : Nat} {v : Value} {A : LA} {own : Nat → Prop} {U F : List Int} {T T' : TS} {vs : Array Value}
theorem Play.below (h : Play w0 w xb b p v A own U F T vs) (hb : Below w.heap.size w w') : Play w0 w' xb b p v A own U F T vs :=
  ⟨h.tr.below hb, h.box.all hb, h.nx, h.rt.below hb, h.lowx, h.bw.trans (hb.mono h.bw.size)⟩
theorem Play.quiet (h : Play w0 w xb b p v A own U F T vs) (hq : QKeeps own w w') (hT : TrailAt w0.heap.size own w' b p v A U F T) : Play w0 w' xb b p v A own U F T vs :=
  ⟨hT, hq.box h.box h.nx, h.nx, h.rt.to (fun g hg hlt => hq.block g hlt hg.1) (fun g _ hg => hg), h.lowx, hq.to_below (fun g hg => h.tr.low g hg) h.bw h.bw.size⟩
/-- What the document's trail was asked is laid in its box; then the trail is asked. -/
theorem Play.asked {w6 : World} (hT : TrailAt w0.heap.size own w6 b p v A U F T) (hx : BoxN w6 xb 53 vs) (hn : ¬ own xb) (hr : RT (fun g => ¬ own g ∧ g ≠ xb) w6 (.agg vs) U F T') (hl : w0.heap.size ≤ xb) (hb : Below w0.heap.size w0 w6) {c : Nat} {e : Ending} (hq : AskPost w0.heap.size own w6 b p A U F T' c e w') :
    e = .returned (errVal c) ∧ (∃ v' own', Play w0 w' xb b p v' A own' U F T' vs) ∧ QKeeps own w6 w' := by
  obtain ⟨he, own', v', hT7, ho, hk⟩ := hq
  have hno : ∀ g, g < w6.heap.size → ¬ own g → ¬ own' g := fun g hg hng hh => by
    rcases ho g hh with h | h
    · exact hng h
    · omega
  exact ⟨he, ⟨v', own', hT7, hk.box hx hn, hno xb hx.lt hn, hr.to (fun g hg hlt => hk.block g hlt hg.1) (fun g hlt hg => ⟨hno g hlt hg.1, hg.2⟩), hl, hk.to_below (fun g hg => hT.low g hg) hb hb.size⟩, hk⟩
end
end Go.Proofs.YtncokblinocgaaaGreatDoor
