/- The document: what is asked of registers first. -/
import Derived.Test.YtganjkhdlehhdaaGreatCWBtoRL6
import Derived.Test.YtganjkhdlehhdaaGreatCY1toCY4
import Derived.Test.YtganjkhdlehhdaaGreatCZ1toCZP
set_option linter.unusedVariables false
set_option linter.unusedSimpArgs false
set_option maxHeartbeats 4000000
set_option maxRecDepth 100000
namespace Go.Proofs
open Go.Mu
end Go.Proofs
namespace Go.Proofs
open Go.Mu
end Go.Proofs
namespace Go.Proofs
open Go.Mu
end Go.Proofs
namespace Go.Proofs
open Go.Mu
end Go.Proofs
