/-
  Contracts, said of all worlds that lie over one. No program is looked at.
-/
import Derived.Test.YtfpghfmdkbdojaaGreatDoorBase
namespace Go.Proofs.YtfpghfmdkbdojaaGreatDoor
open Go.RowKit

/-- A contract, said of all worlds that lie over one. -/
theorem over {P : Program} {f : FuncId} {args : Array Value} {w V : World} {v : Value} (hV : Below w.heap.size w V) (h : Calls P f args V fun e w' => e = .returned v ∧ Below V.heap.size V w') :
    Calls P f args V fun e w' => e = .returned v ∧ Below w.heap.size w w' := h.mono fun _ _ ⟨he, hb⟩ => ⟨he, hV.trans (hb.mono hV.size)⟩
/-- The same, where more is said of what comes back. -/
theorem overR {P : Program} {f : FuncId} {args : Array Value} {w V : World} {R : Ending → World → Prop} (hV : Below w.heap.size w V) (h : Calls P f args V fun e w' => R e w' ∧ Below V.heap.size V w') :
    Calls P f args V fun e w' => R e w' ∧ Below w.heap.size w w' := h.mono fun _ _ ⟨he, hb⟩ => ⟨he, hV.trans (hb.mono hV.size)⟩
theorem belowD {B : Nat} {a w : World} (h : Below B a w) (n : Nat) : Below B a (w.drewN n) := ⟨h.os, h.tape, h.output, h.size, h.block⟩
end Go.Proofs.YtfpghfmdkbdojaaGreatDoor
