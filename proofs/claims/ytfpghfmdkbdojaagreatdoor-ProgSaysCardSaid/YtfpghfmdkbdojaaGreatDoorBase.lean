/-
  Words of memory: a slice of ints that reads as a list; a row that the call itself owns. No program is looked at.
-/
import Derived.Test.YtfpghfmdkbdojaaGreatDoorRows
import Derived.WalkKit
import Derived.WalkSpells
import Derived.WalkLawsBesides
import Derived.Lib.Hide
namespace Go.Proofs.YtfpghfmdkbdojaaGreatDoor
open Go.RowKit

theorem ret_bool {a b : Bool} (h : a = b) : Ending.returned (.bool a) = .returned (.bool b) := by rw [h]
theorem ret_int {a b : Int} (h : a = b) : Ending.returned (.int .i64 a) = .returned (.int .i64 b) := by rw [h]

theorem block_lt {w : World} {p : Addr} {v : Value} (h : w.cell? p = some v) : p.block < w.heap.size := World.block_lt_of_cell? w p h

/-- A slice's address, and the ints that lie behind it. -/
def IntsAt (w : World) (A : Option Addr) (l : List Int) : Prop :=
  l ≠ [] → ∃ b off, A = some ⟨b, off, none⟩ ∧ ∀ j x, l[j]? = some x → w.cell? ⟨b, off + j, none⟩ = some (.int .i64 x)

section
variable {w w' : World} {A : Option Addr} {l : List Int}
theorem IntsAt.nil : IntsAt w A [] := fun h => absurd rfl h
theorem IntsAt.at_ (h : IntsAt w A l) {k : Nat} (hk : k < l.length) :
    ∃ b off x, A = some ⟨b, off, none⟩ ∧ Hid (l[k]? = some x) ∧ w.cell? ⟨b, off + k, none⟩ = some (.int .i64 x) := by
  obtain ⟨b, off, hA, hc⟩ := h (by intro e; subst e; simp at hk)
  have hx : l[k]? = some l[k] := List.getElem?_eq_getElem hk
  exact ⟨b, off, l[k], hA, hx, hc k _ hx⟩
theorem IntsAt.keep (h : IntsAt w A l) (hk : ∀ p : Addr, p.block < w.heap.size → w'.cell? p = w.cell? p) : IntsAt w' A l := fun hl => by
  obtain ⟨b, off, hA, hc⟩ := h hl
  refine ⟨b, off, hA, fun j x hx => ?_⟩
  have := hc j x hx
  rw [hk _ (block_lt this)]
  exact this
theorem IntsAt.below (h : IntsAt w A l) (hb : Below w.heap.size w w') : IntsAt w' A l := h.keep fun _ hp => hb.cell hp
theorem IntsAt.below2 {w0 : World} (h : IntsAt w0 A l) (h0 : Below w0.heap.size w0 w) (hb : Below w.heap.size w w') : IntsAt w' A l :=
  h.below (h0.trans (hb.mono h0.size))
theorem IntsAt.drewN (h : IntsAt w A l) (n : Nat) : IntsAt (w.drewN n) A l := h
end

/-- The call's own row: block g holds, from its first place on, just these values (and perhaps others behind), none frozen. -/
def OwnAt (w : World) (g : Nat) (e : TypeId) (l : List Value) : Prop :=
  ∃ cur : Array Value, w.heap[g]? = some (.cells cur e (0, 0)) ∧ l.length ≤ cur.size ∧ ∀ (j : Nat) (v : Value), l[j]? = some v → cur[j]? = some v

section
variable {w w' : World} {g : Nat} {e : TypeId} {l : List Value}
theorem OwnAt.lt (h : OwnAt w g e l) : g < w.heap.size := by
  obtain ⟨cur, hg, _⟩ := h
  exact (Array.getElem?_eq_some_iff.1 hg).1
theorem OwnAt.of_owns {base : Nat} {A : Option Addr} {n c : Nat} (h : w.ownsRow base e 1 (.slice A n c) n l) (hn : 0 < n) :
    ∃ g, A = some ⟨g, 0, none⟩ ∧ base ≤ g ∧ OwnAt w g e l := by
  rcases h.2 with ⟨_, h0⟩ | ⟨g, cap, cur, hv, hb, hg, hnc, _, hs, ht⟩
  · omega
  · refine ⟨g, by injection hv, hb, cur, hg, ?_, ?_⟩
    · have := h.1; omega
    · intro j v hj
      rw [← ht, List.getElem?_take] at hj
      split at hj
      · simpa using hj
      · cases hj
theorem OwnAt.cell (h : OwnAt w g e l) {k : Nat} {v : Value} (hk : l[k]? = some v) : w.cell? ⟨g, k, none⟩ = some v := by
  obtain ⟨cur, hg, _, hc⟩ := h
  rw [cell_of_row w g k cur e (0, 0) hg]
  exact hc k v hk
theorem OwnAt.free (h : OwnAt w g e l) (k : Nat) : w.frozen? ⟨g, k, none⟩ = false := by
  obtain ⟨cur, hg, _, _⟩ := h
  simp [World.frozen?, hg]
theorem OwnAt.set (h : OwnAt w g e l) {k : Nat} (hk : k < l.length) (v : Value) : OwnAt (w.setCell ⟨g, k, none⟩ v) g e (l.set k v) := by
  obtain ⟨cur, hg, hs, hc⟩ := h
  refine ⟨cur.setIfInBounds k v, ?_, by simpa using hs, ?_⟩
  · simp [World.setCell, Array.getElem?_modify, hg]
  · intro j u hj
    rw [List.getElem?_set] at hj
    rw [Array.getElem?_setIfInBounds]
    by_cases e : k = j
    · subst e
      rw [if_pos rfl, if_pos hk] at hj
      rw [if_pos rfl, if_pos (by omega)]
      exact hj
    · rw [if_neg e] at hj ⊢
      exact hc j u hj
theorem OwnAt.drewN (h : OwnAt w g e l) (n : Nat) : OwnAt (w.drewN n) g e l := h
theorem OwnAt.drew (h : OwnAt w g e l) : OwnAt w.drew g e l := h
theorem OwnAt.block (h : OwnAt w g e l) (hb : w'.heap[g]? = w.heap[g]?) : OwnAt w' g e l := by
  obtain ⟨cur, hg, r⟩ := h
  exact ⟨cur, hb.trans hg, r⟩
theorem OwnAt.below {B : Nat} (h : OwnAt w g e l) (hb : Below B w w') (hB : g < B) : OwnAt w' g e l := h.block (hb.block g hB)
theorem OwnAt.ints {l : List Int} (h : OwnAt w g e (l.map (Value.int .i64))) : IntsAt w (some ⟨g, 0, none⟩) l := fun _ => by
  refine ⟨g, 0, rfl, fun j x hx => ?_⟩
  rw [Nat.zero_add]
  exact h.cell (by rw [List.getElem?_map, hx]; rfl)
end

/-- Behind a call that only makes memory all that lay reads as it did. -/
theorem bcell2 {W w1 : World} {B : Nat} (hb : Below B W w1) : (∀ b o, b < B → w1.cell? ⟨b, o, none⟩ = W.cell? ⟨b, o, none⟩) ∧ (∀ b o, b < B → w1.frozen? ⟨b, o, none⟩ = W.frozen? ⟨b, o, none⟩) :=
  ⟨fun b o h => hb.cell (p := ⟨b, o, none⟩) h, fun b o h => hb.frozen (p := ⟨b, o, none⟩) h⟩
end Go.Proofs.YtfpghfmdkbdojaaGreatDoor
