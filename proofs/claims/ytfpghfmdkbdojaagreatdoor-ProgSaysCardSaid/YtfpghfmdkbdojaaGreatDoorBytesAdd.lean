/-
  Two strings put together.
-/
import Derived.Test.YtfpghfmdkbdojaaGreatDoorBase
namespace Go.Proofs.YtfpghfmdkbdojaaGreatDoor
theorem bytes_add (a b : List UInt8) : (⟨a.toArray⟩ : ByteArray) ++ ⟨b.toArray⟩ = ⟨(a ++ b).toArray⟩ := by
  apply ByteArray.ext
  simp
end Go.Proofs.YtfpghfmdkbdojaaGreatDoor
