/- The same programs, as the document's layer 5 has it. -/
import Derived.Test.YtpibcbilkpoomaaGreatFwXtoLR
set_option linter.unusedVariables false
set_option linter.unusedSimpArgs false
set_option maxHeartbeats 4000000
set_option maxRecDepth 100000
namespace Go.Proofs
open Go.Mu
end Go.Proofs
