/- The document's layer 12: names, once, rising. -/
import Derived.Test.YtpibcbilkpoomaaGreatFO9toFO14
set_option linter.unusedVariables false
set_option linter.unusedSimpArgs false
set_option maxHeartbeats 4000000
set_option maxRecDepth 100000
namespace Go.Proofs
open Go.Mu
structure RowIn (t : TypeId) (sz : Nat) (M : List Blk) (h : Option Nat) (es : List (List AV)) : Prop where
  row : ∀ k, h = some k → M[k]? = some (.row t sz es)
  nil : h = none → es = []
structure RStep (M M' : List Blk) (h h' : Option Nat) : Prop where
  len : M.length ≤ M'.length
  get : ∀ i, i < M.length → h ≠ some i → M'[i]? = M[i]?
  new : h' = h ∨ ∃ i, h' = some i ∧ M.length ≤ i
end Go.Proofs
namespace Go.Proofs
open Go.Mu
end Go.Proofs
