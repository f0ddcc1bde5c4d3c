/- The library's slices.Compact, by the kit's contract, over a row of the call's own. -/
import Derived.Test.YtganjkhdlehhdaaGreatFwSortM
import Derived.Shelf.SlicesG.CompactI
import Derived.Test.YtganjkhdlehhdaaGreatCL1toRL2
set_option linter.unusedVariables false
set_option linter.unusedSimpArgs false
set_option maxHeartbeats 4000000
set_option maxRecDepth 100000
namespace Go.Mu
open Go.RowKit (Below)
open Go.Sort Go.Proofs Go.Shelf
end Go.Mu
namespace Go.Proofs
open Go.Mu
end Go.Proofs
