/-
  The walk of TopTrail.
-/
import Derived.Test.YtncokblinocgaaaGreatDoorTopTrailB
namespace Go.Proofs.YtncokblinocgaaaGreatDoor
open Go.RowKit
set_option maxRecDepth 100000
set_option linter.unusedVariables false

theorem TopTrail_walk (m : Nat) (U : List Int) (Ua : Option Addr) (Uc : Nat) {W : World} (hU : U.length = m * 2) (iU : IntsAt W Ua U) (sU : m * 2 < 2 ^ 47) (bU : ∀ x ∈ U, I64 x) (n : Nat) (F : List Int) (Fa : Option Addr) (Fc : Nat) (hF : F.length = n * 2) (iF : IntsAt W Fa F) (sF : n * 2 < 2 ^ 47) (bF : ∀ x ∈ F, I64 x)
    (q : Nat) (K : List Int) (Ka : Option Addr) (Kc : Nat) (hn : K.length = q * 4) (hK : IntsAt W Ka K) (sK : q * 4 < 2 ^ 47) (bK : ∀ x ∈ K, I64 x)
    (k : Int) (bk : I64 k) (z : Nat) (M : List Int) (Ma : Option Addr) (Mc : Nat) (hz : M.length = z * 4) (hM : IntsAt W Ma M) (sM : z * 4 < 2 ^ 47) (bM : ∀ x ∈ M, I64 x) (w : World) (hw : w = W) (hG : Glob W) :
    Calls Tryz.prog 9 #[.slice Ua m Uc, .slice Fa n Fc, .slice Ka q Kc, .int .i64 k, .slice Ma z Mc] w fun e w' => e = .returned (.bool true) ∧ Below W.heap.size W w' := by
  rcases Nat.lt_or_ge 45 q with h1 | h1
  · rcases Nat.lt_or_ge 45 z with h2 | h2
    · exact TopTrail_11 m U Ua Uc hU iU sU bU n F Fa Fc hF iF sF bF q K Ka Kc hn hK sK bK k bk z M Ma Mc hz hM sM bM w hw hG h1 h2
    · exact TopTrail_10 m U Ua Uc hU iU sU bU n F Fa Fc hF iF sF bF q K Ka Kc hn hK sK bK k bk z M Ma Mc hz hM sM bM w hw hG h1 h2
  · rcases Nat.lt_or_ge 45 z with h2 | h2
    · exact TopTrail_01 m U Ua Uc hU iU sU bU n F Fa Fc hF iF sF bF q K Ka Kc hn hK sK bK k bk z M Ma Mc hz hM sM bM w hw hG h1 h2
    · exact TopTrail_00 m U Ua Uc hU iU sU bU n F Fa Fc hF iF sF bF q K Ka Kc hn hK sK bK k bk z M Ma Mc hz hM sM bM w hw hG h1 h2
end Go.Proofs.YtncokblinocgaaaGreatDoor
