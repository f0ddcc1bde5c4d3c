/- A call that is handed in what it may only read: own memory stays as it is, whatever own rows the arguments show. -/
import Derived.Test.YtpibcbilkpoomaaGreatFwUtoG24
set_option linter.unusedVariables false
set_option linter.unusedSimpArgs false
set_option maxHeartbeats 4000000
set_option maxRecDepth 100000
namespace Go.Mu
open Go.RowKit (Below)
section
variable {P : Program}
end
end Go.Mu
namespace Go.Proofs
open Go.Mu
end Go.Proofs
namespace Go.Proofs
open Go.Mu
def findV : List Vr → ByteArray → Int
  | [], _ => 0
  | v :: l, n => if v.name = n then (if v.kind = 1 then 1 else 2) else findV l n
def findR : List Rg → ByteArray → Int
  | [], _ => 0
  | r :: l, n => if r.name = n then 3 else findR l n
def findK (rs : List Rg) (vs : List Vr) (n : ByteArray) : Int := if findV vs n = 0 then findR rs n else findV vs n
def wordK (k : Int) : Int := if k = 0 then 8 else if k = 1 then 0 else 9
def arrayK (k : Int) : Int := if k = 0 then 8 else if k = 1 then 9 else 0
end Go.Proofs
namespace Go.Proofs
open Go.Mu
structure NamesAt (p : Pg) (k : Nat) (hk : k < p.funcs.length) (tv : List (ByteArray × Vr)) (ta : List (ByteArray × Bool)) : Prop where
  word : ∀ n, wordE tv ta n = wordK (findK p.regions (p.funcs[k].params ++ p.funcs[k].vars) n)
  array : ∀ n, arrayE tv ta n = arrayK (findK p.regions (p.funcs[k].params ++ p.funcs[k].vars) n)
end Go.Proofs
namespace Go.Proofs
open Go.Mu
end Go.Proofs
namespace Go.Proofs
open Go.Mu
end Go.Proofs
namespace Go.Proofs
open Go.Mu
end Go.Proofs
namespace Go.Proofs
open Go.Mu
end Go.Proofs
namespace Go.Proofs
open Go.Mu
mutual
def Ex.num (deep : Nat) : Ex → Nat
  | .mk _ _ _ args => if 64 < deep then 0 else 1 + exsNum (deep + 1) args
def exsNum (deep : Nat) : List Ex → Nat
  | [] => 0
  | e :: l => e.num deep + exsNum deep l
end
end Go.Proofs
namespace Go.Proofs
open Go.Mu
def Ex.nz (deep : Nat) (e : Ex) : Nat := if blankB e then 0 else e.num deep
def exsNz (deep : Nat) : List Ex → Nat
  | [] => 0
  | e :: l => e.nz deep + exsNz deep l
mutual
def Sm.num (deep : Nat) : Sm → Nat
  | .mk _ _ _ e a args _ _ body els => 1 + e.nz deep + a.nz deep + exsNz deep args + smsNum (deep + 1) body + smsNum (deep + 1) els
def smsNum (deep : Nat) : List Sm → Nat
  | [] => 0
  | s :: l => if 64 < deep then 0 else s.num deep + smsNum deep l
end
end Go.Proofs
namespace Go.Proofs
open Go.Mu
def funcsNum : List Fc → Nat
  | [] => 0
  | f :: l => smsNum 1 f.body + funcsNum l
end Go.Proofs
