/-
  KernelPlays, all ways.
-/
import Derived.Test.YtgkanbaboeppfaaDoorKPlays
namespace Go.Proofs.YtgkanbaboeppfaaDoor
open Go.RowKit
set_option linter.unusedVariables false
theorem KernelPlays_walk (L : List (List Int)) (P T : List Int) (q : Nat) (Ap Ao At : Option Addr) (cp co ct : Nat) {W : World} (hL : RowsIn anyB 3 W Ap L) (hP : IntsIn anyB W Ao P) (hl : P.length = q * 2) (hT : IntsIn anyB W At T) (nL : L.length ≤ maxLen) (nq : q ≤ maxLen) (nT : T.length ≤ maxLen)
    (X : List Int) (Ax : Option Addr) (cx : Nat) (hX : IntsAt W Ax X) (nX : X.length < 2 ^ 47) (_ : ∀ x ∈ X, I64 x) (w : World) (hw : w = W) (hP10 : Pow10 W.heap.size W) (hE : ErrT W) :
    Calls Tryd.prog 4 #[.agg #[.slice Ap L.length cp, .slice Ao q co, .slice At T.length ct], .slice Ax X.length cx] w fun e w' => e = .returned (.bool true) ∧ Below W.heap.size W w' := by
  subst hw
  by_cases hc : sysCode L P q T = 0
  · exact KernelPlays_ok hL hP hl hT nL nq nT hX (by omega) hc hE hP10
  · exact KernelPlays_bad hL hP hl hT nL nq nT rfl hc hE
end Go.Proofs.YtgkanbaboeppfaaDoor
