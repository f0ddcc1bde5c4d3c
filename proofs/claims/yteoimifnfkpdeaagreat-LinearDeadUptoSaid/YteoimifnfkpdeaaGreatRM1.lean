/- More steps, and variables that are not live: plain law of runs. -/
import Derived.Test.YteoimifnfkpdeaaGreatFwJmptoRM4
set_option linter.unusedVariables false
set_option linter.unusedSimpArgs false
set_option maxHeartbeats 4000000
set_option maxRecDepth 100000
namespace Go.Proofs
open Go.Mu
structure More (A B : Ran) (fuel : Nat) : Prop where
  steps : A.steps ≤ fuel
  same : A.err ≠ 7 → A = B
  off : A.err = 7 → A.steps = fuel ∧ A.rets = [] ∧ ∃ t, B.seen = A.seen ++ t
end Go.Proofs
