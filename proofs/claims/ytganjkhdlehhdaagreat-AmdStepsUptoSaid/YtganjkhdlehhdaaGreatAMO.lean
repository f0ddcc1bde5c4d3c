/- amd.Reads walked. -/
import Derived.Test.YtganjkhdlehhdaaGreatFS9toAMQ
set_option linter.unusedVariables false
set_option linter.unusedSimpArgs false
set_option maxHeartbeats 4000000
set_option maxRecDepth 100000
namespace Go.Proofs
open Go.Mu
end Go.Proofs
