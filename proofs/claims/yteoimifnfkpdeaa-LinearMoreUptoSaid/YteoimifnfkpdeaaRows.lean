/-
  NARROWER THAN 'FOR EVERY INPUT', by the rows' own cells (each row's printed sentence says how): LinearMakes: loops.
  DERIVED. THE GIVEN ROWS OF THIS SEAT. 6 by the template 'for every input the law returns true; each argument reads behind the call as it read before'; 0 by the template 'total and deterministic' (their statements: YteoimifnfkpdeaaTotals.lean).
  GIVEN WITH THE SEED: the statements are not yours to turn. If you find one false, say at which input.
  Laid BY PROGRAM, IN A SANDBOX (cutbox-rows.mjs): the forced cells as the released guide's own fill.sh prints them over the translation e1263395b81b3439… (all of the seat's roots in one cut). By AI agents, Wed Nov 11 2026. No macro, syntax, notation, axiom, sorry.
-/
import Derived.Test.YteoimifnfkpdeaaChecked
import GoSem.Claim
import GoSem.ClaimJoined
import GoSem.ClaimMapViews
import Derived.JoinedTies
import Derived.KernelRfl
namespace Go.Proofs.Yteoimifnfkpdeaa
/- THE CELL 'sum', in the pinned program and in every row, IS THE sha256 OF THE DUMP (.gsa) THAT YteoimifnfkpdeaaProg.lean LOADS. Nothing in Lean hashes anything: it is a label: what it is worth is what the hold of that sum in a sandbox is worth. -/
noncomputable def Try.pinned : Pinned := { name := "yteoimifnfkpdeaa", sum := "e1263395b81b343957aa4eceda28665f39af7cbff9b478987b705cf287c66567", checked := Try.checked }
namespace Rows
def none {H : Type} : Left H := { results := [], args := [] }

/-- 'mufflelaw16.LinearMakes': WHATEVER THE INPUT: true; the input reads as it did. -/
def linearMakesSpec : ChangeSpec := { name := "linearMakes", fn := fun _ => fun
  | [d] => { results := [.lit (.bool true)], args := [d] }
  | _ => none }
def linearMakesRow : OpenClaim := { program := "yteoimifnfkpdeaa", sum := "e1263395b81b343957aa4eceda28665f39af7cbff9b478987b705cf287c66567", func := "muffle/mufflelaw16.LinearMakes", spec := "linearMakes", unfollowed := true, recurses := true, loops := true, apart := false }
def LinearMakesSaid : Prop := linearMakesRow.holds Try.pinned (OpenSpec.ofChange linearMakesSpec)

/-- ITS FALSE NEIGHBOUR: 'it returns false'. Refute it at one input. -/
def linearMakesWrong : ChangeSpec := { name := "linearMakes", fn := fun _ => fun
  | [d] => { results := [.lit (.bool false)], args := [d] }
  | _ => none }
def LinearMakesWrongFalsely : Prop := linearMakesRow.holds Try.pinned (OpenSpec.ofChange linearMakesWrong)

/-- 'mufflelaw20.LowerLines': WHATEVER THE INPUT: true; the input reads as it did. -/
def lowerLinesSpec : ChangeSpec := { name := "lowerLines", fn := fun _ => fun
  | [d1, d2] => { results := [.lit (.bool true)], args := [d1, d2] }
  | _ => none }
def lowerLinesRow : OpenClaim := { program := "yteoimifnfkpdeaa", sum := "e1263395b81b343957aa4eceda28665f39af7cbff9b478987b705cf287c66567", func := "muffle/mufflelaw20.LowerLines", spec := "lowerLines", unfollowed := true, recurses := true, apart := false }
def LowerLinesSaid : Prop := lowerLinesRow.holds Try.pinned (OpenSpec.ofChange lowerLinesSpec)

/-- ITS FALSE NEIGHBOUR: 'it returns false'. Refute it at one input. -/
def lowerLinesWrong : ChangeSpec := { name := "lowerLines", fn := fun _ => fun
  | [d1, d2] => { results := [.lit (.bool false)], args := [d1, d2] }
  | _ => none }
def LowerLinesWrongFalsely : Prop := lowerLinesRow.holds Try.pinned (OpenSpec.ofChange lowerLinesWrong)

/-- 'mufflelaw20.LowerSizes': WHATEVER THE INPUT: true; the input reads as it did. -/
def lowerSizesSpec : ChangeSpec := { name := "lowerSizes", fn := fun _ => fun
  | [d] => { results := [.lit (.bool true)], args := [d] }
  | _ => none }
def lowerSizesRow : OpenClaim := { program := "yteoimifnfkpdeaa", sum := "e1263395b81b343957aa4eceda28665f39af7cbff9b478987b705cf287c66567", func := "muffle/mufflelaw20.LowerSizes", spec := "lowerSizes", unfollowed := true, recurses := true, apart := false }
def LowerSizesSaid : Prop := lowerSizesRow.holds Try.pinned (OpenSpec.ofChange lowerSizesSpec)

/-- ITS FALSE NEIGHBOUR: 'it returns false'. Refute it at one input. -/
def lowerSizesWrong : ChangeSpec := { name := "lowerSizes", fn := fun _ => fun
  | [d] => { results := [.lit (.bool false)], args := [d] }
  | _ => none }
def LowerSizesWrongFalsely : Prop := lowerSizesRow.holds Try.pinned (OpenSpec.ofChange lowerSizesWrong)

/-- 'mufflelaw20.LowerMay': WHATEVER THE INPUT: true; the input reads as it did. -/
def lowerMaySpec : ChangeSpec := { name := "lowerMay", fn := fun _ => fun
  | [d] => { results := [.lit (.bool true)], args := [d] }
  | _ => none }
def lowerMayRow : OpenClaim := { program := "yteoimifnfkpdeaa", sum := "e1263395b81b343957aa4eceda28665f39af7cbff9b478987b705cf287c66567", func := "muffle/mufflelaw20.LowerMay", spec := "lowerMay", unfollowed := true, recurses := true, apart := false }
def LowerMaySaid : Prop := lowerMayRow.holds Try.pinned (OpenSpec.ofChange lowerMaySpec)

/-- ITS FALSE NEIGHBOUR: 'it returns false'. Refute it at one input. -/
def lowerMayWrong : ChangeSpec := { name := "lowerMay", fn := fun _ => fun
  | [d] => { results := [.lit (.bool false)], args := [d] }
  | _ => none }
def LowerMayWrongFalsely : Prop := lowerMayRow.holds Try.pinned (OpenSpec.ofChange lowerMayWrong)

/-- 'mufflelaw20.LowerMakes': WHATEVER THE INPUT: true; the input reads as it did. -/
def lowerMakesSpec : ChangeSpec := { name := "lowerMakes", fn := fun _ => fun
  | [d] => { results := [.lit (.bool true)], args := [d] }
  | _ => none }
def lowerMakesRow : OpenClaim := { program := "yteoimifnfkpdeaa", sum := "e1263395b81b343957aa4eceda28665f39af7cbff9b478987b705cf287c66567", func := "muffle/mufflelaw20.LowerMakes", spec := "lowerMakes", unfollowed := true, recurses := true, apart := false }
def LowerMakesSaid : Prop := lowerMakesRow.holds Try.pinned (OpenSpec.ofChange lowerMakesSpec)

/-- ITS FALSE NEIGHBOUR: 'it returns false'. Refute it at one input. -/
def lowerMakesWrong : ChangeSpec := { name := "lowerMakes", fn := fun _ => fun
  | [d] => { results := [.lit (.bool false)], args := [d] }
  | _ => none }
def LowerMakesWrongFalsely : Prop := lowerMakesRow.holds Try.pinned (OpenSpec.ofChange lowerMakesWrong)

/-- 'mufflelaw16.LinearMore': WHATEVER THE INPUT: true; the input reads as it did. -/
def linearMoreSpec : ChangeSpec := { name := "linearMore", fn := fun _ => fun
  | [d1, d2, d3, d4, d5, d6] => { results := [.lit (.bool true)], args := [d1, d2, d3, d4, d5, d6] }
  | _ => none }
def linearMoreRow : OpenClaim := { program := "yteoimifnfkpdeaa", sum := "e1263395b81b343957aa4eceda28665f39af7cbff9b478987b705cf287c66567", func := "muffle/mufflelaw16.LinearMore", spec := "linearMore", unfollowed := true, recurses := true, apart := false }
def LinearMoreSaid : Prop := linearMoreRow.holds Try.pinned (OpenSpec.ofChange linearMoreSpec)

/-- ITS FALSE NEIGHBOUR: 'it returns false'. Refute it at one input. -/
def linearMoreWrong : ChangeSpec := { name := "linearMore", fn := fun _ => fun
  | [d1, d2, d3, d4, d5, d6] => { results := [.lit (.bool false)], args := [d1, d2, d3, d4, d5, d6] }
  | _ => none }
def LinearMoreWrongFalsely : Prop := linearMoreRow.holds Try.pinned (OpenSpec.ofChange linearMoreWrong)

/- THE SECOND FORM. 'bulk': how many values and letters a reading holds, each counted each time it is reached (what is shared counts as often as it is met; a slice's spare places count too). A statement '..UptoSaid' is the law's where the arguments, and the package variables that the reading takes, are together of bulk at most 1048576: NARROWER than '..Said'. Prove '..Said' where nothing that the law and all that it calls make is longer than what came in: it says more and counts as full. Else prove '..UptoSaid'. A law counts once. -/
mutual
def uptoBulk {H : Type} : DataW H → Nat
  | .lit (.string bytes) => bytes.length + 1
  | .lit _ => 1
  | .nil => 1
  | .ptr d => uptoBulk d + 1
  | .slice elems spare => uptoBulkAll elems + uptoBulkAll spare + 1
  | .agg parts => uptoBulkAll parts + 1
  | .iface _ d => uptoBulk d + 1
  | .map entries => uptoBulkEntries entries + 1
  | .held _ => 1
def uptoBulkAll {H : Type} : List (DataW H) → Nat
  | [] => 0
  | d :: r => uptoBulk d + uptoBulkAll r
def uptoBulkEntries {H : Type} : List (Lit × DataW H) → Nat
  | [] => 0
  | x :: r => uptoBulkEntry x + uptoBulkEntries r
def uptoBulkEntry {H : Type} : Lit × DataW H → Nat
  | (.string bytes, d) => bytes.length + uptoBulk d + 1
  | (_, d) => uptoBulk d + 1
 end
def uptoSmall : (H : Type) → List (DataW H) → Bool := fun _ ds => decide (uptoBulkAll ds ≤ 1048576)
def OpenSpec.upto (s : _root_.Go.ChangeSpec) : _root_.Go.OpenSpec := { _root_.Go.OpenSpec.ofChange s with cond := some uptoSmall }

/-- 'mufflelaw16.LinearMakes', WHERE WHAT IT READS IS OF BULK AT MOST 1048576: true; the input reads as it did. -/
def linearMakesUptoRow : OpenClaim := { program := "yteoimifnfkpdeaa", sum := "e1263395b81b343957aa4eceda28665f39af7cbff9b478987b705cf287c66567", func := "muffle/mufflelaw16.LinearMakes", spec := "linearMakes", unfollowed := true, recurses := true, loops := true, apart := false, narrowed := true }
def LinearMakesUptoSaid : Prop := linearMakesUptoRow.holds Try.pinned (OpenSpec.upto linearMakesSpec)

/-- 'mufflelaw20.LowerLines', WHERE WHAT IT READS IS OF BULK AT MOST 1048576: true; the input reads as it did. -/
def lowerLinesUptoRow : OpenClaim := { program := "yteoimifnfkpdeaa", sum := "e1263395b81b343957aa4eceda28665f39af7cbff9b478987b705cf287c66567", func := "muffle/mufflelaw20.LowerLines", spec := "lowerLines", unfollowed := true, recurses := true, apart := false, narrowed := true }
def LowerLinesUptoSaid : Prop := lowerLinesUptoRow.holds Try.pinned (OpenSpec.upto lowerLinesSpec)

/-- 'mufflelaw20.LowerSizes', WHERE WHAT IT READS IS OF BULK AT MOST 1048576: true; the input reads as it did. -/
def lowerSizesUptoRow : OpenClaim := { program := "yteoimifnfkpdeaa", sum := "e1263395b81b343957aa4eceda28665f39af7cbff9b478987b705cf287c66567", func := "muffle/mufflelaw20.LowerSizes", spec := "lowerSizes", unfollowed := true, recurses := true, apart := false, narrowed := true }
def LowerSizesUptoSaid : Prop := lowerSizesUptoRow.holds Try.pinned (OpenSpec.upto lowerSizesSpec)

/-- 'mufflelaw20.LowerMay', WHERE WHAT IT READS IS OF BULK AT MOST 1048576: true; the input reads as it did. -/
def lowerMayUptoRow : OpenClaim := { program := "yteoimifnfkpdeaa", sum := "e1263395b81b343957aa4eceda28665f39af7cbff9b478987b705cf287c66567", func := "muffle/mufflelaw20.LowerMay", spec := "lowerMay", unfollowed := true, recurses := true, apart := false, narrowed := true }
def LowerMayUptoSaid : Prop := lowerMayUptoRow.holds Try.pinned (OpenSpec.upto lowerMaySpec)

/-- 'mufflelaw20.LowerMakes', WHERE WHAT IT READS IS OF BULK AT MOST 1048576: true; the input reads as it did. -/
def lowerMakesUptoRow : OpenClaim := { program := "yteoimifnfkpdeaa", sum := "e1263395b81b343957aa4eceda28665f39af7cbff9b478987b705cf287c66567", func := "muffle/mufflelaw20.LowerMakes", spec := "lowerMakes", unfollowed := true, recurses := true, apart := false, narrowed := true }
def LowerMakesUptoSaid : Prop := lowerMakesUptoRow.holds Try.pinned (OpenSpec.upto lowerMakesSpec)

/-- 'mufflelaw16.LinearMore', WHERE WHAT IT READS IS OF BULK AT MOST 1048576: true; the input reads as it did. -/
def linearMoreUptoRow : OpenClaim := { program := "yteoimifnfkpdeaa", sum := "e1263395b81b343957aa4eceda28665f39af7cbff9b478987b705cf287c66567", func := "muffle/mufflelaw16.LinearMore", spec := "linearMore", unfollowed := true, recurses := true, apart := false, narrowed := true }
def LinearMoreUptoSaid : Prop := linearMoreUptoRow.holds Try.pinned (OpenSpec.upto linearMoreSpec)

end Rows
end Go.Proofs.Yteoimifnfkpdeaa
