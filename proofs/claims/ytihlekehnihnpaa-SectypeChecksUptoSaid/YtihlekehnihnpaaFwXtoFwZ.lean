/- On the way: handles kept free, rows given away that may be empty, boxes told less of. -/
import Derived.Test.YtihlekehnihnpaaFwWtoL6
set_option linter.unusedVariables false
set_option linter.unusedSimpArgs false
namespace Go.Mu
open Go.RowKit (Below)
section
variable {P : Program} {n : Nat} {c : Code} {Q : AQ}
end
end Go.Mu
namespace Go.Mu
inductive FT where
  | lin (p : OPlan)
  | fork (pre : List Nat) (ats : FT)
  | alt (i : Nat) (late : List Nat) (t more : FT)
  | none
section
variable {P : Program} {n : Nat} {pu : Nat → Bool} {ops : Array Oper} {Q : AQ}
variable {hn : Nat → Bool}
end
end Go.Mu
namespace Go.Mu
open Go.RowKit (Below)
section
variable {P : Program} {n : Nat} {Q : AQ}
def M2 (H : List Blk) (c : Nat) (X o t : Blk) (L : List Blk) : List Blk := H.set c X ++ o :: t :: L
variable {H : List Blk} {c : Nat}
end
end Go.Mu
