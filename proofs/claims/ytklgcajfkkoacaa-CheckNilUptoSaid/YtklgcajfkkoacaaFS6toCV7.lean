/- Functions of Go's library as they stand in this program: laid by the kit's own tool. -/
import Derived.Test.YtklgcajfkkoacaaFwGrow
import Derived.Test.YtklgcajfkkoacaaProg
import Derived.Test.YtklgcajfkkoacaaFwUtoCV5
set_option linter.unusedVariables false
set_option linter.unusedSimpArgs false
set_option maxHeartbeats 4000000
set_option maxRecDepth 100000
namespace Go.Proofs
open Go.Shelf
end Go.Proofs
namespace Go.Proofs
open Go.Mu
end Go.Proofs
namespace Go.Proofs
open Go.Mu
end Go.Proofs
