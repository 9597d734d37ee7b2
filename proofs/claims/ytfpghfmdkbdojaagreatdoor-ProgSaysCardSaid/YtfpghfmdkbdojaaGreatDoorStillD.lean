/-
  Regions that read and then do one thing: the world's words kept. No program is looked at.
-/
import Derived.Test.YtfpghfmdkbdojaaGreatDoorBase
import Derived.StillTailTactics
namespace Go.Proofs.YtfpghfmdkbdojaaGreatDoor
open Go.RowKit

section
/-- As wp_region_still_tail, with the world's words kept. -/
theorem wp_still_tailD {P : Program} {id : Nat} {Q : Exit → Act → World → Prop} {a : Act} {w : World} {l : List Oper} (n : Nat) (hm : P.follows .mixedOrders = true) (hB : Region.lexTailB .any l.toArray n = true)
    (h : wpStill P l.toArray (w.drewN 1) (fun a' => wpList P l.toArray Q (l.drop n) a' (w.drewN 1)) (l.take n) a) : (Code.region id l.toArray true).wp P Q a w := wp_region_still_tail n hm hB h
theorem wp_still_tailD2 {P : Program} {id : Nat} {Q : Exit → Act → World → Prop} {a : Act} {w : World} {q : Nat} {l : List Oper} (n : Nat) (hm : P.follows .mixedOrders = true) (hB : Region.lexTailB .any l.toArray n = true)
    (h : wpStill P l.toArray (w.drewN (q + 1)) (fun a' => wpList P l.toArray Q (l.drop n) a' (w.drewN (q + 1))) (l.take n) a) : (Code.region id l.toArray true).wp P Q a (w.drewN q) := wp_region_still_tail n hm hB h
end

end Go.Proofs.YtfpghfmdkbdojaaGreatDoor
