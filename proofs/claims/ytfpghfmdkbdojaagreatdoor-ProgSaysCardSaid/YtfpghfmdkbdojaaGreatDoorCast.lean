/-
  Words: a slice of sets in memory. No program is looked at, but for the type of ints.
-/
import Derived.Test.YtfpghfmdkbdojaaGreatDoorBase
import Derived.Test.YtfpghfmdkbdojaaGreatDoorClose
import Derived.OwnWalk
namespace Go.Proofs.YtfpghfmdkbdojaaGreatDoor
open Go.RowKit

def castL (r : List Nat) : List Int := r.map Int.ofNat
theorem length_castL (r : List Nat) : (castL r).length = r.length := by simp [castL]
theorem castL_append (p r : List Nat) : castL (p ++ r) = castL p ++ castL r := by simp [castL]
theorem castL_reverse (p : List Nat) : castL p.reverse = (castL p).reverse := by simp [castL]
theorem get_castL {r : List Nat} {k : Nat} {x : Int} (h : (castL r)[k]? = some x) : x = ((row r k : Nat) : Int) := by
  unfold castL at h
  rw [List.getElem?_map] at h
  unfold row
  cases hx : r[k]? with
  | none => rw [hx] at h; cases h
  | some y => rw [hx] at h; injection h with h; rw [← h]; rfl
theorem castL_inj {r s : List Nat} (h : castL r = castL s) : r = s := by
  unfold castL at h
  exact (List.map_inj_right (fun a b h => Int.ofNat.inj h)).1 h

theorem map_set_cast (l : List Nat) (k x : Nat) : (castL (l.set k x)).map (Value.int .i64) = ((castL l).map (Value.int .i64)).set k (.int .i64 (x : Int)) := by
  unfold castL; rw [List.map_set, List.map_set]; rfl
theorem get_cast_val (l : List Nat) (k : Nat) (hk : k < l.length) : ((castL l).map (Value.int .i64))[k]? = some (.int .i64 (row l k : Int)) := by
  unfold castL row; rw [List.getElem?_map, List.getElem?_map, List.getElem?_eq_getElem hk]; rfl

/-- The cell of a set in a slice of sets. -/
theorem IntsAt.row {w : World} {A : Option Addr} {r : List Nat} (h : IntsAt w A (castL r)) {k : Nat} (hk : k < r.length) :
    ∃ b off, A = some ⟨b, off, none⟩ ∧ w.cell? ⟨b, off + k, none⟩ = some (.int .i64 (row r k : Nat)) := by
  obtain ⟨b, off, x, hA, hx, hc⟩ := h.at_ (k := k) (by rw [length_castL]; exact hk)
  have := get_castL hx.out
  subst this
  exact ⟨b, off, hA, hc⟩
theorem OwnAt.of_row {w : World} {base g : Nat} {e : TypeId} {n c : Nat} {l : List Value} (h : w.ownsRow base e 1 (.slice (some ⟨g, 0, none⟩) n c) n l) : OwnAt w g e l := by
  rcases h.2 with ⟨h0, _⟩ | ⟨g', cap, cur, hv, hb, hg, hnc, _, hs, ht⟩
  · cases h0
  · injection hv with hv hn hc
    injection hv with hv
    injection hv with hv
    subst hv
    refine ⟨cur, hg, ?_, ?_⟩
    · have := h.1; omega
    · intro j v hj
      rw [← ht, List.getElem?_take] at hj
      split at hj
      · simpa using hj
      · cases hj
theorem made_ints {w' : World} {base g n : Nat} (h : w'.ownsRow base 3 1 (.slice (some ⟨g, 0, none⟩) n n) n (madeCells (Value.int .i64 0).cells (n * 1)).toList) :
    OwnAt w' g 3 ((castL (List.replicate n 0)).map (Value.int .i64)) := by
  have h2 := OwnAt.of_row h
  rw [show (Value.int .i64 0).cells = #[Value.int .i64 0] from rfl, toList_madeCells_one, Nat.mul_one] at h2
  unfold castL
  rw [List.map_replicate, List.map_replicate]
  exact h2
theorem OwnAt.other {w : World} {g : Nat} {e : TypeId} {l : List Value} (h : OwnAt w g e l) {a : Addr} (hne : g ≠ a.block) (v : Value) : OwnAt (w.setCell a v) g e l := h.block (Below.heap_setCell w a v g hne)
theorem intInfo : (Tryz.prog.info? 3).map (fun i => (i.zero, i.size, i.bytes)) = some (some (.int .i64 0), 1, 8) := by kernel_rfl
end Go.Proofs.YtfpghfmdkbdojaaGreatDoor
