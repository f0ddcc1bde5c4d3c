/- The library's slices.Sort, by the kit's contract, over a row of the call's own. -/
import Derived.Test.YtganjkhdlehhdaaGreatFwQtoFwT
import Derived.Shelf.SortM.Plain
import Derived.Shelf.SortM.SortNone
set_option linter.unusedVariables false
set_option linter.unusedSimpArgs false
namespace Go.Mu
open Go.RowKit (Below)
open Go.Sort Go.Proofs Go.Shelf
end Go.Mu
