/- Two rows given away at the end; what is decided of a condition; a row in a box given away. -/
import Derived.Test.YtihlekehnihnpaaGreatFwXtoV7
set_option linter.unusedVariables false
set_option linter.unusedSimpArgs false
namespace Go.Mu
open Go.RowKit (Below)
section
variable {P : Program} {n : Nat} {Q : AQ}
theorem weakR_app {a a' b b' : List (List AV)} (h : WeakR a a') (k : WeakR b b') : WeakR (a ++ b) (a' ++ b') := by
  induction h with
  | nil => exact k
  | cons h _ ih => exact .cons h ih
def M2 (H : List Blk) (c : Nat) (X o t : Blk) (L : List Blk) : List Blk := H.set c X ++ o :: t :: L
variable {H : List Blk} {c : Nat}
end
end Go.Mu
