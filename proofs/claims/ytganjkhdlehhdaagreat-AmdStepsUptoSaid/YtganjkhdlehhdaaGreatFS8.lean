/- Functions of Go's library as they stand in this program: laid by the kit's own tool. -/
import Derived.Test.YtganjkhdlehhdaaGreatFwSortM
import Derived.Test.YtganjkhdlehhdaaGreatProg
set_option linter.unusedVariables false
set_option linter.unusedSimpArgs false
namespace Go.Proofs
open Go.Shelf
end Go.Proofs
