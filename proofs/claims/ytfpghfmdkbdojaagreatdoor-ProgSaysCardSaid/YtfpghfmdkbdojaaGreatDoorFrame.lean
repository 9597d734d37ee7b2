/-
  From the reading of an argument to words of memory: slices of ints.
-/
import Derived.Test.YtfpghfmdkbdojaaGreatDoorBase
import Derived.ProofKit
import Derived.OpenShut
import Derived.SizedLaws
namespace Go.Proofs.YtfpghfmdkbdojaaGreatDoor
open Go.ChangeShapes Go.WideShapes Go.ChangeAt Go.RowKit

/-- A number of 64 bits. -/
def I64 (n : Int) : Prop := -9223372036854775808 ≤ n ∧ n ≤ 9223372036854775807

section
variable {H : Type} {enc : TypeId × Value → H} {P : Program} {W : World}
theorem open_intsAt {t e : TypeId} {A : Option Addr} {n c : Nat} {d : DataW H} {p : List MemPlace} {ts : List TypeId} {ds : List (DataW H)} {j : Nat}
    (ht : P.underlying t = some (.slice e)) (he : P.underlying e = some (.int .i64)) (hc : P.cellsOf e = 1) (hb : P.bytesOf e = 8)
    (h : DataW.Trod enc P W 0 (fun _ => true) true t (.slice A n c) d p) (hsz : (DataW.weightsEach P ts ds).all (· ≤ reachBytes) = true) (hts : ts[j]? = some t) (hds : ds[j]? = some d) :
    ∃ l : List Int, l.length = n ∧ IntsAt W A l ∧ n < 2 ^ 47 ∧ ∀ x ∈ l, I64 x := by
  obtain ⟨fuel, hf⟩ := h
  rcases open_ints ht he hc hf with ⟨hcs, _⟩ | ⟨a, len, cap, zs, hcs, _, hl, hm, hz, hx, hcell, hwf⟩
  · simp [Value.cells] at hcs
    obtain ⟨rfl, rfl, rfl⟩ := hcs
    exact ⟨[], rfl, IntsAt.nil, by decide, fun x hx => by cases hx⟩
  · simp [Value.cells] at hcs
    obtain ⟨rfl, rfl, rfl⟩ := hcs
    simp only [Prod.mk.injEq] at hx
    obtain ⟨rfl, -⟩ := hx
    have hz' : zs.length = c := by simpa using hz
    refine ⟨zs.take n, by rw [List.length_take]; omega, fun hne => ?_, ?_, fun x hx => bounds_i64 (hwf x (List.mem_of_mem_take hx))⟩
    · have hpos : 0 < zs.length := by
        have := List.length_pos_iff.2 hne
        rw [List.length_take] at this
        omega
      obtain ⟨b, off, rfl, hc2⟩ := ints_at hcell hpos
      refine ⟨b, off, rfl, fun j x hj => ?_⟩
      rw [List.getElem?_take] at hj
      split at hj
      · have hjl := (List.getElem?_eq_some_iff.1 hj).1
        have := hc2 j hjl
        rw [List.getD, hj] at this
        exact this
      · cases hj
    · have := sized_slice hsz hts hds ht
      simp only [lits, List.length_map, hb] at this
      have h2 := reachBytes_lt
      rw [List.length_take, List.length_drop] at this
      omega
end
end Go.Proofs.YtfpghfmdkbdojaaGreatDoor
