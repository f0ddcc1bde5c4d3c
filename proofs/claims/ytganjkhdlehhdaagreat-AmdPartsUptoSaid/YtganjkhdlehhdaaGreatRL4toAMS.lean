/- Linear code is run. -/
import Derived.Test.YtganjkhdlehhdaaGreatFwJmptoAMG
import Derived.Test.YtganjkhdlehhdaaGreatAMPtoAMR
import Derived.Test.YtganjkhdlehhdaaGreatAMO
set_option linter.unusedVariables false
set_option linter.unusedSimpArgs false
set_option maxHeartbeats 4000000
set_option maxRecDepth 100000
namespace Go.Proofs
open Go.Mu
end Go.Proofs
namespace Go.Proofs
open Go.Mu
end Go.Proofs
namespace Go.Proofs
open Go.Mu
structure stOk (s : Mst) : Prop where
  R : s.R.length = 16
  W : ∀ x ∈ s.R, Wd x
  seen : s.seen = []
  b : s.b = zeroB
  at_ : -9223372036854775808 ≤ s.at_ ∧ s.at_ ≤ 9223372036854775807
  steps : -9223372036854775808 ≤ s.steps ∧ s.steps ≤ 9223372036854775807
section
variable {s : Mst}
end
end Go.Proofs
