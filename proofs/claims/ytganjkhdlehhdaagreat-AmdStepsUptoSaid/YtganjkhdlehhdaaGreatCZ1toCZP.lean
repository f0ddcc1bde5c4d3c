/- What is live in code that goes straight on, reckoned (no program in sight). -/
import Derived.Test.YtganjkhdlehhdaaGreatCL1toRL2
import Derived.Test.YtganjkhdlehhdaaGreatFwSeqNtoCWA
set_option linter.unusedVariables false
set_option linter.unusedSimpArgs false
set_option maxHeartbeats 4000000
set_option maxRecDepth 100000
namespace Go.Proofs
open Go.Mu
end Go.Proofs
namespace Go.Proofs
open Go.Mu
end Go.Proofs
