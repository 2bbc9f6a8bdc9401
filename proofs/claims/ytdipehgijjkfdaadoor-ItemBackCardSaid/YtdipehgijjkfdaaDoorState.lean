/-
  What item.List and the fact listed lean on, at a seat without buckets.
-/
import Derived.Test.YtdipehgijjkfdaaDoorAsAt
import Derived.Test.YtdipehgijjkfdaaDoorItemC
import Derived.Test.YtdipehgijjkfdaaDoorOnly
import Derived.StillTailTactics
import Derived.BigRegion
namespace Go.Proofs.YtdipehgijjkfdaaDoor
open Go.RowKit Bkt
set_option linter.unusedVariables false
end Go.Proofs.YtdipehgijjkfdaaDoor
