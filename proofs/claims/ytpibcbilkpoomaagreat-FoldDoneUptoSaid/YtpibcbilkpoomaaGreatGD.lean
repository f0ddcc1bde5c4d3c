/- Leakage and terms, as data. -/
import Derived.Test.YtpibcbilkpoomaaGreatG1toRN
set_option linter.unusedVariables false
set_option linter.unusedSimpArgs false
set_option maxHeartbeats 4000000
set_option maxRecDepth 100000
namespace Go.Proofs
open Go.Mu
inductive Lk where
  | mk (kind : Int) (items : List Int) (taken : Bool) (subs : List (List Lk))
structure Pk where
  (kind item word : Int)
  stack : Bool
deriving DecidableEq
inductive Tm where
  | mk (kind : Int) (lines : List (List Pk)) (taken : Bool) (subs : List (List Tm))
def Tm.kind : Tm → Int | .mk k _ _ _ => k
def Tm.lines : Tm → List (List Pk) | .mk _ i _ _ => i
def Tm.taken : Tm → Bool | .mk _ _ t _ => t
def Tm.subs : Tm → List (List Tm) | .mk _ _ _ s => s
@[simp] def Pk.cells (p : Pk) : List AV := [I p.kind, I p.item, U p.word, Bo p.stack]
abbrev Pk.sl (l : List Pk) : AV := .vs 4 (l.map Pk.cells)
abbrev Pk.sls (l : List (List Pk)) : AV := .vs 1 (l.map fun a => [Pk.sl a])
mutual
def Tm.cells : Tm → List AV
  | .mk k i t s => [I k, Pk.sls i, Bo t, .vs 1 (tmssCells s)]
def tmsCells : List Tm → List (List AV)
  | [] => []
  | x :: l => x.cells :: tmsCells l
def tmssCells : List (List Tm) → List (List AV)
  | [] => []
  | a :: l => [.vs 4 (tmsCells a)] :: tmssCells l
end
theorem tmsCells_map (l : List Tm) : tmsCells l = l.map Tm.cells := by
  induction l with
  | nil => simp [tmsCells]
  | cons n l ih => simp [tmsCells, ih]
abbrev Tm.sl (l : List Tm) : AV := .vs 4 (l.map Tm.cells)
abbrev Tm.sls (l : List (List Tm)) : AV := .vs 1 (l.map fun a => [Tm.sl a])
theorem tmssCells_map (l : List (List Tm)) : tmssCells l = l.map fun a => [Tm.sl a] := by
  induction l with
  | nil => simp [tmssCells]
  | cons n l ih => simp [tmssCells, ih, tmsCells_map]
@[simp] theorem Tm.cells_eq (x : Tm) : x.cells = [I x.kind, Pk.sls x.lines, Bo x.taken, Tm.sls x.subs] := by
  cases x; simp [Tm.cells, tmssCells_map, Tm.kind, Tm.lines, Tm.taken, Tm.subs]
end Go.Proofs
