/-
  What is told of one that is there; labels that are right.
-/
import Derived.Test.YtncokblinocgaaaGreatDoorRowsA
import Derived.Test.YtncokblinocgaaaGreatDoorBaseA
namespace Go.Proofs.YtncokblinocgaaaGreatDoor
set_option linter.unusedVariables false
theorem told_at {l : List Nat} {f : Nat} (h : f < l.length) : told l (f : Int) = row l f := by unfold told; rw [if_pos (by omega)]; rfl
theorem labs_of {L : List Int} {n : Nat} (h : labsCode L n 8 = 0) : ∀ i, i < n → labOk (gI L (i * 2)) (gI L (i * 2 + 1)) := (labsCode_ok h).2
end Go.Proofs.YtncokblinocgaaaGreatDoor
