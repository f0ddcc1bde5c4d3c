/- How long what comes of a run is. -/
import Derived.Test.YtganjkhdlehhdaaGreatRL4toAMS
set_option linter.unusedVariables false
set_option linter.unusedSimpArgs false
set_option maxHeartbeats 4000000
set_option maxRecDepth 100000
namespace Go.Proofs
open Go.Mu
end Go.Proofs
