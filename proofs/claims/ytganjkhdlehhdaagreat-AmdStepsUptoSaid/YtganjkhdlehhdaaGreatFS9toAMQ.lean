/- Functions of Go's library as they stand in this program: laid by the kit's own tool. -/
import Derived.Test.YtganjkhdlehhdaaGreatFwCompacttoCN2
import Derived.Test.YtganjkhdlehhdaaGreatProg
import Derived.Test.YtganjkhdlehhdaaGreatFwJmptoAMG
import Derived.Test.YtganjkhdlehhdaaGreatKN41toAMJ
import Derived.Test.YtganjkhdlehhdaaGreatFwRowtoME6
import Derived.Test.YtganjkhdlehhdaaGreatFwSortM
import Derived.Test.YtganjkhdlehhdaaGreatFS8
set_option linter.unusedVariables false
set_option linter.unusedSimpArgs false
set_option maxHeartbeats 4000000
set_option maxRecDepth 100000
namespace Go.Proofs
open Go.Shelf
end Go.Proofs
namespace Go.Proofs
open Go.Mu
def partOf (i : Amd) : Int := (Lm.partsT.lookup i.op).getD 0
end Go.Proofs
namespace Go.Proofs
open Go.Mu
def asksO (op : Int) : Bool := op == 11 || op == 12 || op == 13
def writesE (i : Amd) : Int × Bool := if Lm.mayOne i && !asksO i.op && Lm.bitP (partOf i) 1 then (i.dst, true) else (0, false)
end Go.Proofs
