/-
  Words: slices of ints that lie where they may; a result that lies in a row. No program is looked at.
-/
import Derived.Test.YtncokblinocgaaaGreatDoorRowsA
import Derived.Test.YtncokblinocgaaaGreatDoorBaseA
import Derived.Laws.ResultCell
import Derived.Laws.Rows
namespace Go.Proofs.YtncokblinocgaaaGreatDoor
open Go.RowKit

/-- Ints that lie where they may. -/
def IntsIn (ok : Nat → Prop) (w : World) (A : Option Addr) (l : List Int) : Prop := IntsAt w A l ∧ ∀ b off, A = some ⟨b, off, none⟩ → l ≠ [] → ok b
theorem IntsIn.below {ok : Nat → Prop} {w w' : World} {A : Option Addr} {l : List Int} (h : IntsIn ok w A l) (hb : Below w.heap.size w w') : IntsIn ok w' A l := ⟨h.1.below hb, h.2⟩
theorem results_row_tmp {P : Program} {fn : Func} {p u : Tmp} {ty : TypeId} (h : fn.results = #[.cell p ty, .tmp u]) (tmps : Array Value) (w : World) (g : Nat) (t : TypeId) (cs : Array Value) (fr : Nat × Nat) (d : TypeDesc)
    (hp : tmps.getD p undef = .pointer (some ⟨g, 0, none⟩)) (hg : w.heap[g]? = some (.cells cs t fr))
    (hu : P.underlying ty = some d) (hd : (match d with | .struct _ | .array _ _ => true | _ => false) = true) (hi : (P.info? ty).map (·.size) = some cs.size) :
    (results fn tmps).run P w = .ok (.tuple #[.agg cs, tmps.getD u undef]) w := by
  rw [results_cell_tmp h, hp]
  simp [asAddr, Result.andThen, run_loadVar_row w g t ty cs fr d hg hu hd hi]
/-- Ints lie in no block of other values. -/
theorem IntsAt.box {w w' : World} {A : Option Addr} {l : List Int} {x : Nat} {t : TypeId} {vs : Array Value} (h : IntsAt w A l) (hb : BoxN w x t vs) (hno : ∀ (k : Nat) (z : Int), vs[k]? ≠ some (.int .i64 z)) (hw : ∀ a : Addr, a.block ≠ x → w'.cell? a = w.cell? a) : IntsAt w' A l := fun hl => by
  obtain ⟨b, off, rfl, hc⟩ := h hl
  have hne : b ≠ x := by
    rintro rfl
    have p := hc 0 _ (get_gI (List.length_pos_iff.2 hl))
    rw [cell_of_row w b _ vs t (0, 0) hb] at p
    exact hno _ _ p
  exact ⟨b, off, rfl, fun j y hj => (hw ⟨b, off + j, none⟩ hne).trans (hc j y hj)⟩
theorem IntsAt.lt {w : World} {A : Option Addr} {l : List Int} (h : IntsAt w A l) {b off : Nat} (e : A = some ⟨b, off, none⟩) (hl : l ≠ []) : b < w.heap.size := by
  obtain ⟨b', off', e', hc⟩ := h hl
  rw [e] at e'; cases e'
  exact block_lt (hc 0 _ (get_gI (List.length_pos_iff.2 hl)))
/-- A list of values that holds no int. -/
def noInt (vs : Array Value) : Prop := ∀ (k : Nat) (z : Int), vs[k]? ≠ some (.int .i64 z)
theorem noInt_of {vs : Array Value} (h : vs.toList.all (fun v => match v with | .int .i64 _ => false | _ => true) = true) : noInt vs := fun k z e => by
  rw [List.all_eq_true] at h
  rw [← Array.getElem?_toList] at e
  have := h _ (List.mem_of_getElem? e)
  cases this
/-- Only block x has turned. -/
def OnlyAt (x : Nat) (w w' : World) : Prop := (∀ b, b ≠ x → w'.heap[b]? = w.heap[b]?)
theorem OnlyAt.refl (x : Nat) (w : World) : OnlyAt x w w := fun _ _ => rfl
theorem OnlyAt.set {x : Nat} {w w' : World} (h : OnlyAt x w w') (k : Nat) (v : Value) : OnlyAt x w (w'.setCell ⟨x, k, none⟩ v) := fun b hb => (Below.heap_setCell _ _ _ _ hb).trans (h b hb)
theorem OnlyAt.cell {x : Nat} {w w' : World} (h : OnlyAt x w w') (a : Addr) (ha : a.block ≠ x) : w'.cell? a = w.cell? a := World.cell?_of_block (h _ ha)
theorem IntsIn.only {ok : Nat → Prop} {w w' : World} {A : Option Addr} {l : List Int} {x : Nat} {t : TypeId} {vs : Array Value} (h : IntsIn ok w A l) (hb : BoxN w x t vs) (hno : noInt vs) (ho : OnlyAt x w w') : IntsIn ok w' A l := ⟨h.1.box hb hno ho.cell, h.2⟩
end Go.Proofs.YtncokblinocgaaaGreatDoor
