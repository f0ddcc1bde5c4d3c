/- A single step. -/
import Derived.Test.YtganjkhdlehhdaaGreatFwJmptoAMG
import Derived.Test.YtganjkhdlehhdaaGreatFwUtoFwBox
import Derived.Test.YtganjkhdlehhdaaGreatFS9toAMQ
import Derived.Test.YtganjkhdlehhdaaGreatKN41toAMJ
set_option linter.unusedVariables false
set_option linter.unusedSimpArgs false
set_option maxHeartbeats 4000000
set_option maxRecDepth 100000
namespace Go.Proofs
open Go.Mu
end Go.Proofs
namespace Go.Proofs
open Go.Mu
structure Apart (i : Amd) (s : Mst) (r x : Int) (A B : Mst × Int) : Prop where
  e : A.2 = B.2
  f : A.1.f = B.1.f
  at_ : A.1.at_ = B.1.at_
  steps : A.1.steps = B.1.steps
  seen : A.1.seen = B.1.seen
  same : writesE i = (r, true) → A.2 = 0 → A.1.R = B.1.R
  less : ¬ (writesE i = (r, true) ∧ A.2 = 0) → vg A.1.R r = vg s.R r ∧ vg B.1.R r = x ∧ A.1.R.set r.toNat x = B.1.R
end Go.Proofs
