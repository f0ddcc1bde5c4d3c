/- The document's layer 7: what a program uses. -/
import Derived.Test.YtpibcbilkpoomaaGreatU12toFO16
import Derived.Test.YtpibcbilkpoomaaGreatFO20toFO22
import Derived.Test.YtpibcbilkpoomaaGreatRS5
set_option linter.unusedVariables false
set_option linter.unusedSimpArgs false
set_option maxHeartbeats 4000000
set_option maxRecDepth 100000
namespace Go.Proofs
open Go.Mu
end Go.Proofs
namespace Go.Proofs
open Go.Mu
end Go.Proofs
