/-
  The text of a label; a new builder.
-/
import Derived.Test.YtanlmfnhlldkeaaGreatDoorLoopA
import Derived.Test.YtanlmfnhlldkeaaGreatDoorBuilder
import Derived.Test.YtanlmfnhlldkeaaGreatDoorBaseA
namespace Go.Proofs.YtanlmfnhlldkeaaGreatDoor
open Go.RowKit Go.Shelf
set_option maxRecDepth 100000

/-- The text of a label. -/
def labText (v s : Nat) : List UInt8 := UInt8.ofNat (48 + v) :: (bitsOf s).map fun i => UInt8.ofNat (97 + i)

theorem fresh_built (w : World) : Built w.heap.size w.heap.size [] (w.alloc (.cells #[.pointer none, .slice none 0 0] 82)) :=
  .inl ⟨Nat.le_refl _, .slice none 0 0, heap_alloc_new w _, World.ownsRowF_nil _ _ _ _, by simp [Value.ownBlock]⟩

theorem bit_lt {s n x : Nat} (hs : s < 2 ^ n) (hx : s.testBit x = true) : x < n := by
  rcases Nat.lt_or_ge x n with h | h
  · exact h
  · rw [Nat.testBit_lt_two_pow (Nat.lt_of_lt_of_le hs (Nat.pow_le_pow_right (by decide) h))] at hx; cases hx
theorem u8_nat (n : Nat) (h : n < 256) : ((UInt8.ofNat n).toNat : Int) = (n : Int) := by
  rw [UInt8.toNat_ofNat']; omega

end Go.Proofs.YtanlmfnhlldkeaaGreatDoor
