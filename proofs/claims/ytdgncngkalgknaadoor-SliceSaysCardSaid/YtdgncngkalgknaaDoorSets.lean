/-
  What is within what, as sets and as numbers.
-/
import Derived.Test.YtdgncngkalgknaaDoorLeaf
import Derived.Test.YtdgncngkalgknaaDoorSetsN
namespace Go.Proofs.YtdgncngkalgknaaDoor
open Go.RowKit

theorem within_sub {a b : Nat} (h : Sub a b) : within a b = true := (within_iff a b).2 h
theorem sub_within {a b : Nat} (h : within a b = true) : Sub a b := (within_iff a b).1 h

end Go.Proofs.YtdgncngkalgknaaDoor
