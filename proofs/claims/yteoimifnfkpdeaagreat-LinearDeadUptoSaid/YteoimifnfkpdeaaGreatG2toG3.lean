/- Lists of texts. -/
import Derived.Test.YteoimifnfkpdeaaGreatG1toL8
set_option linter.unusedVariables false
set_option linter.unusedSimpArgs false
set_option maxHeartbeats 4000000
set_option maxRecDepth 100000
namespace Go.Proofs
open Go.Mu
abbrev St.sl (l : List ByteArray) : AV := .vs 1 (l.map fun s => [St s])
end Go.Proofs
namespace Go.Proofs
open Go.Mu
inductive Ex where
  | mk (op word : Int) (name : ByteArray) (args : List Ex)
inductive Sm where
  | mk (kind : Int) (name : ByteArray) (names : List ByteArray) (e a : Ex) (args : List Ex) (low high : Int) (body els : List Sm)
structure Vr where
  name : ByteArray
  (kind size : Int)
  secret : Bool
deriving DecidableEq
structure Rg where
  name : ByteArray
  (addr size : Int)
  secret : Bool
deriving DecidableEq
structure Fc where
  name : ByteArray
  (params vars : List Vr)
  rets : List ByteArray
  body : List Sm
structure Pg where
  regions : List Rg
  funcs : List Fc
def Ex.op : Ex → Int | .mk o _ _ _ => o
def Ex.word : Ex → Int | .mk _ w _ _ => w
def Ex.name : Ex → ByteArray | .mk _ _ n _ => n
def Ex.args : Ex → List Ex | .mk _ _ _ a => a
mutual
def Ex.cells : Ex → List AV
  | .mk o w n a => [I o, U w, St n, .vs 4 (exCells a)]
def exCells : List Ex → List (List AV)
  | [] => []
  | e :: l => e.cells :: exCells l
end
abbrev Ex.sl (l : List Ex) : AV := .vs 4 (l.map Ex.cells)
mutual
def Sm.cells : Sm → List AV
  | .mk k n ns e a l lo hi b el => [I k, St n, St.sl ns, I e.op, U e.word, St e.name, Ex.sl e.args, I a.op, U a.word, St a.name, Ex.sl a.args, Ex.sl l, U lo, U hi, .vs 16 (smCells b), .vs 16 (smCells el)]
def smCells : List Sm → List (List AV)
  | [] => []
  | s :: l => s.cells :: smCells l
end
abbrev Sm.sl (l : List Sm) : AV := .vs 16 (l.map Sm.cells)
@[simp] def Vr.cells (v : Vr) : List AV := [St v.name, I v.kind, I v.size, Bo v.secret]
@[simp] def Rg.cells (r : Rg) : List AV := [St r.name, I r.addr, I r.size, Bo r.secret]
abbrev Vr.sl (l : List Vr) : AV := .vs 4 (l.map Vr.cells)
abbrev Rg.sl (l : List Rg) : AV := .vs 4 (l.map Rg.cells)
@[simp] def Fc.cells (f : Fc) : List AV := [St f.name, Vr.sl f.params, Vr.sl f.vars, St.sl f.rets, Sm.sl f.body]
end Go.Proofs
