/- A range over an iterator whose elements come in any order (the keys of a map). -/
import Derived.Test.YtganjkhdlehhdaaGreatFwRg
import Derived.Test.YtganjkhdlehhdaaGreatCW1toCW3
import Derived.Test.YtganjkhdlehhdaaGreatFwCompacttoCN2
import Derived.Test.YtganjkhdlehhdaaGreatFwSortM
import Derived.Test.YtganjkhdlehhdaaGreatCW4toCW5
import Derived.Test.YtganjkhdlehhdaaGreatFwRowtoME6
set_option linter.unusedVariables false
set_option linter.unusedSimpArgs false
set_option maxHeartbeats 4000000
set_option maxRecDepth 100000
namespace Go.Mu
open Go.RowKit (Below)
end Go.Mu
namespace Go.Proofs
open Go.Mu
end Go.Proofs
namespace Go.Proofs
open Go.Mu
end Go.Proofs
namespace Go.Proofs
open Go.Mu
def atM (t : List (Int × Int)) : List (Value × AV) := t.map fun p => (.int .i64 p.1, I p.2)
def iset (n x : Int) : List (Int × Int) → List (Int × Int)
  | [] => [(n, x)]
  | (a, b) :: t => if n = a then (n, x) :: t else (a, b) :: iset n x t
def whereM : List Line → Nat → List (Int × Int) → List (Int × Int)
  | [], _, t => t
  | x :: c, i, t => whereM c (i + 1) (if x.kind = 2 then iset x.label (i : Int) t else t)
end Go.Proofs
namespace Go.Proofs
open Go.Mu
abbrev OwnI (B M : List Blk) (h : Option Nat) (l : List Int) : Prop := Own 3 1 B M h (l.map fun n => [I n])
structure Two (B M : List Blk) (h hd : Option Nat) (u d : List Int) : Prop where
  own : OwnI B M h u
  dwn : OwnI B M hd d
  ne : ∀ k, h = some k → hd ≠ some k
end Go.Proofs
namespace Go.Proofs
open Go.Mu
structure AtR (l : Linear) (H : List Blk) (k : Nat) (M : List Blk) : Prop where
  pre : ∃ L, M = H ++ L
  new : H.length ≤ k
  map : M[k]? = some (.map (atM (whereM l.code 0 [])))
end Go.Proofs
namespace Go.Proofs
open Go.Mu
end Go.Proofs
namespace Go.Proofs
open Go.Mu
structure Linear.Sm (l : Linear) : Prop where
  params : l.params.length ≤ 2^36
  rets : l.rets.length ≤ 2^36
  code : l.code.length ≤ 2^36
end Go.Proofs
