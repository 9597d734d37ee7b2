/-
  Join and Meet whatever they are given.
-/
import Derived.Test.YtndeplakkhfmlaaDoorLatB
namespace Go.Proofs.YtndeplakkhfmlaaDoor
open Go.RowKit
set_option maxRecDepth 100000

/-- What Join (m false) and Meet (m true) answer, and what is wrong. -/
def boundV (l : List Int) (m : Bool) (a b : Int) : Int × Nat :=
  if latCode l ≠ 0 then (0, latCode l)
  else if (0 ≤ a ∧ a < l.length) ∧ 0 ≤ b ∧ b < l.length then
    if 0 ≤ boundI m (closed (l.map Int.toNat)) a.toNat b.toNat then (boundI m (closed (l.map Int.toNat)) a.toNat b.toNat, 0) else (0, 5)
  else (0, 1)

theorem bound_any (l : List Int) (hl : l.length < 2 ^ 60) (A : Option Addr) (c : Nat) (a b : Int) (m : Bool) (w : World) (h : IntsAt w A l) (hT : Tab w) :
    Calls Tryd.prog 40 #[.slice A l.length c, .int .i64 a, .int .i64 b, .bool m] w fun e w' => e = .returned (.tuple #[.int .i64 (boundV l m a b).1, errVal (boundV l m a b).2]) ∧ Below w.heap.size w w' := by
  unfold boundV
  by_cases hc : latCode l = 0
  · rw [if_neg (by simpa using hc)]
    obtain ⟨r, rfl, h1, h2, ho⟩ := latCode_ok hc
    rw [toNat_castL, length_castL]
    by_cases hab : (0 ≤ a ∧ a < r.length) ∧ 0 ≤ b ∧ b < r.length
    · rw [if_pos hab]
      obtain ⟨an, rfl⟩ := Int.eq_ofNat_of_zero_le hab.1.1
      obtain ⟨bn, rfl⟩ := Int.eq_ofNat_of_zero_le hab.2.1
      have := bound_in r h1 h2 ho A c an bn m w h hT (by have := hab.1.2; omega) (by have := hab.2.2; omega)
      refine this.mono fun e w' he => ⟨he.1.trans ?_, he.2⟩
      unfold bTuple
      simp only [Int.toNat_natCast]
      split <;> rfl
    · rw [if_neg hab]
      exact bound_out r h1 h2 ho A c a b m w h hT hab
  · rw [if_pos hc]
    have := bound_err l A c a b m w h hl hT hc
    refine this.mono fun e w' he => ⟨he.1.trans ?_, he.2⟩
    rw [errVal, if_neg hc]
theorem Join_any (l : List Int) (hl : l.length < 2 ^ 60) (A : Option Addr) (c : Nat) (a b : Int) (w : World) (h : IntsAt w A l) (hT : Tab w) :
    Calls Tryd.prog 14 #[.slice A l.length c, .int .i64 a, .int .i64 b] w fun e w' => e = .returned (.tuple #[.int .i64 (boundV l false a b).1, errVal (boundV l false a b).2]) ∧ Below w.heap.size w w' :=
  Join_of A c a b w (bound_any l hl A c a b false w h hT)
theorem Meet_any (l : List Int) (hl : l.length < 2 ^ 60) (A : Option Addr) (c : Nat) (a b : Int) (w : World) (h : IntsAt w A l) (hT : Tab w) :
    Calls Tryd.prog 15 #[.slice A l.length c, .int .i64 a, .int .i64 b] w fun e w' => e = .returned (.tuple #[.int .i64 (boundV l true a b).1, errVal (boundV l true a b).2]) ∧ Below w.heap.size w w' :=
  Meet_of A c a b w (bound_any l hl A c a b true w h hT)

theorem intsAt_new4 (w : World) (x y z u : Int) : IntsAt (w.alloc (.cells #[.int .i64 x, .int .i64 y, .int .i64 z, .int .i64 u] 3)) (some ⟨w.heap.size, 0, none⟩) [x, y, z, u] := fun _ => by
  refine ⟨w.heap.size, 0, rfl, fun j v hj => ?_⟩
  rw [Nat.zero_add, cell_of_row _ w.heap.size j _ _ _ (heap_alloc_new w _)]
  match j, hj with
  | 0, hj => simp at hj; subst hj; rfl
  | 1, hj => simp at hj; subst hj; rfl
  | 2, hj => simp at hj; subst hj; rfl
  | 3, hj => simp at hj; subst hj; rfl
end Go.Proofs.YtndeplakkhfmlaaDoor
