/-
  The words for slices of sets, and the contracts of rel, together.
-/
import Derived.Test.YtndeplakkhfmlaaDoorRelF
import Derived.Test.YtndeplakkhfmlaaDoorSets
