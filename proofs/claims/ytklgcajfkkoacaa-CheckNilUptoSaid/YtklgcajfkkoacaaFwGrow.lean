/- The library's slices.Grow of no row, by the kit's contract: a row of one's own of noughts, cut to none. -/
import Derived.Test.YtklgcajfkkoacaaFwCompacttoCN2
import Derived.Test.YtklgcajfkkoacaaFwUtoCV5
import Derived.Shelf.Spec.SlicesGrow
set_option linter.unusedVariables false
set_option linter.unusedSimpArgs false
namespace Go.Mu
open Go.Proofs Go.Shelf
end Go.Mu
