/-
  Contract: strconv.Itoa, by the shelf's; the powers of ten in their variable.
-/
import Derived.Test.YtanlmfnhlldkeaaGreatDoorShelf
import Derived.Sort.Grow
import Derived.Below
import Derived.Lib.AppendIntMem
namespace Go.Proofs.YtanlmfnhlldkeaaGreatDoor
open Go.RowKit
set_option maxRecDepth 100000
set_option linter.unusedVariables false

theorem below_grow (w : World) (k : Nat) (os : Array Obj) : Below w.heap.size w (Go.Sort.grow (w.drewN k) os) :=
  ⟨rfl, rfl, rfl, by simp [Go.Sort.grow, World.drewN], fun j hj => by simp [Go.Sort.grow, World.drewN, Array.getElem?_append, hj]⟩
/-- The powers of ten lie in their variable. -/
abbrev Pow10 (B : Nat) (w : World) : Prop := Lib.TabBelow Tryz.prog B w "internal/strconv.uint64pow10" .u64 Lib.pow10Tab
theorem Pow10.next {B C : Nat} {w w' : World} (h : Pow10 B w) (hb : Below B w w') (hC : B ≤ C) (hB : B ≤ w.heap.size) : Pow10 C w' := fun v hv => h v (hb.trans (hv.mono hC))
theorem Itoa_any (n : Int) (h : -9223372036854775808 ≤ n ∧ n ≤ 9223372036854775807) (w : World) (hP : Lib.TabIs Tryz.prog w "internal/strconv.uint64pow10" .u64 Lib.pow10Tab) :
    Calls Tryz.prog 52 #[.int .i64 n] w fun e w' => e = .returned (.string ⟨(Lib.itoa n).toArray⟩) ∧ Below w.heap.size w w' :=
  (Tryz.strconv_Itoa n h.1 h.2 w hP).mono fun e w' ⟨he, k, os, hw⟩ => ⟨he, hw ▸ below_grow w k os⟩
end Go.Proofs.YtanlmfnhlldkeaaGreatDoor
