/-
  NARROWER THAN 'FOR EVERY INPUT', by the rows' own cells (each row's printed sentence says how): UnrollPrograms: loops · SectypeLevels: loops · SourceRuns: loops · SourceQuiet: loops · SourceBare: loops · SourceMore: loops · SectypeHides: loops.
  DERIVED. THE GIVEN ROWS OF THIS SEAT. 7 by the template 'for every input the law returns true; each argument reads behind the call as it read before'; 0 by the template 'total and deterministic' (their statements: YtihlekehnihnpaaGreatTotals.lean).
  GIVEN WITH THE SEED: the statements are not yours to turn. If you find one false, say at which input.
  Laid BY PROGRAM, IN A SANDBOX (cutbox-rows.mjs): the forced cells as the released guide's own fill.sh prints them over the translation 7facb000e9eb90f8… (all of the seat's roots in one cut). By AI agents, Wed Nov 11 2026. No macro, syntax, notation, axiom, sorry.
-/
import Derived.Test.YtihlekehnihnpaaGreatChecked
import GoSem.Claim
import GoSem.ClaimJoined
import GoSem.ClaimMapViews
import Derived.JoinedTies
import Derived.KernelRfl
namespace Go.Proofs.YtihlekehnihnpaaGreat
/- THE CELL 'sum', in the pinned program and in every row, IS THE sha256 OF THE DUMP (.gsa) THAT YtihlekehnihnpaaGreatProg.lean LOADS. Nothing in Lean hashes anything: it is a label: what it is worth is what the hold of that sum in a sandbox is worth. -/
noncomputable def Tryz.pinned : Pinned := { name := "ytihlekehnihnpaagreat", sum := "7facb000e9eb90f8eedaeec2cc6e23a76e2e92c250507ec9ed023ab6146d638f", checked := Tryz.checked }
namespace Rows
def none {H : Type} : Left H := { results := [], args := [] }

/-- 'mufflelaw11.UnrollPrograms': WHATEVER THE INPUT: true; the input reads as it did. -/
def unrollProgramsSpec : ChangeSpec := { name := "unrollPrograms", fn := fun _ => fun
  | [d] => { results := [.lit (.bool true)], args := [d] }
  | _ => none }
def unrollProgramsRow : OpenClaim := { program := "ytihlekehnihnpaagreat", sum := "7facb000e9eb90f8eedaeec2cc6e23a76e2e92c250507ec9ed023ab6146d638f", func := "muffle/mufflelaw11.UnrollPrograms", spec := "unrollPrograms", unfollowed := true, recurses := true, loops := true, apart := false }
def UnrollProgramsSaid : Prop := unrollProgramsRow.holds Tryz.pinned (OpenSpec.ofChange unrollProgramsSpec)

/-- ITS FALSE NEIGHBOUR: 'it returns false'. Refute it at one input. -/
def unrollProgramsWrong : ChangeSpec := { name := "unrollPrograms", fn := fun _ => fun
  | [d] => { results := [.lit (.bool false)], args := [d] }
  | _ => none }
def UnrollProgramsWrongFalsely : Prop := unrollProgramsRow.holds Tryz.pinned (OpenSpec.ofChange unrollProgramsWrong)

/-- 'mufflelaw09.SectypeLevels': WHATEVER THE INPUT: true; the input reads as it did. -/
def sectypeLevelsSpec : ChangeSpec := { name := "sectypeLevels", fn := fun _ => fun
  | [d1, d2, d3, d4] => { results := [.lit (.bool true)], args := [d1, d2, d3, d4] }
  | _ => none }
def sectypeLevelsRow : OpenClaim := { program := "ytihlekehnihnpaagreat", sum := "7facb000e9eb90f8eedaeec2cc6e23a76e2e92c250507ec9ed023ab6146d638f", func := "muffle/mufflelaw09.SectypeLevels", spec := "sectypeLevels", inPlace := ["maps.clone"], unfollowed := true, recurses := true, loops := true, apart := false }
def SectypeLevelsSaid : Prop := sectypeLevelsRow.holds Tryz.pinned (OpenSpec.ofChange sectypeLevelsSpec)

/-- ITS FALSE NEIGHBOUR: 'it returns false'. Refute it at one input. -/
def sectypeLevelsWrong : ChangeSpec := { name := "sectypeLevels", fn := fun _ => fun
  | [d1, d2, d3, d4] => { results := [.lit (.bool false)], args := [d1, d2, d3, d4] }
  | _ => none }
def SectypeLevelsWrongFalsely : Prop := sectypeLevelsRow.holds Tryz.pinned (OpenSpec.ofChange sectypeLevelsWrong)

/-- 'mufflelaw08.SourceRuns': WHATEVER THE INPUT: true; the input reads as it did. -/
def sourceRunsSpec : ChangeSpec := { name := "sourceRuns", fn := fun _ => fun
  | [d1, d2, d3] => { results := [.lit (.bool true)], args := [d1, d2, d3] }
  | _ => none }
def sourceRunsRow : OpenClaim := { program := "ytihlekehnihnpaagreat", sum := "7facb000e9eb90f8eedaeec2cc6e23a76e2e92c250507ec9ed023ab6146d638f", func := "muffle/mufflelaw08.SourceRuns", spec := "sourceRuns", unfollowed := true, recurses := true, loops := true, apart := false }
def SourceRunsSaid : Prop := sourceRunsRow.holds Tryz.pinned (OpenSpec.ofChange sourceRunsSpec)

/-- ITS FALSE NEIGHBOUR: 'it returns false'. Refute it at one input. -/
def sourceRunsWrong : ChangeSpec := { name := "sourceRuns", fn := fun _ => fun
  | [d1, d2, d3] => { results := [.lit (.bool false)], args := [d1, d2, d3] }
  | _ => none }
def SourceRunsWrongFalsely : Prop := sourceRunsRow.holds Tryz.pinned (OpenSpec.ofChange sourceRunsWrong)

/-- 'mufflelaw08.SourceQuiet': WHATEVER THE INPUT: true; the input reads as it did. -/
def sourceQuietSpec : ChangeSpec := { name := "sourceQuiet", fn := fun _ => fun
  | [d1, d2, d3] => { results := [.lit (.bool true)], args := [d1, d2, d3] }
  | _ => none }
def sourceQuietRow : OpenClaim := { program := "ytihlekehnihnpaagreat", sum := "7facb000e9eb90f8eedaeec2cc6e23a76e2e92c250507ec9ed023ab6146d638f", func := "muffle/mufflelaw08.SourceQuiet", spec := "sourceQuiet", unfollowed := true, recurses := true, loops := true, apart := false }
def SourceQuietSaid : Prop := sourceQuietRow.holds Tryz.pinned (OpenSpec.ofChange sourceQuietSpec)

/-- ITS FALSE NEIGHBOUR: 'it returns false'. Refute it at one input. -/
def sourceQuietWrong : ChangeSpec := { name := "sourceQuiet", fn := fun _ => fun
  | [d1, d2, d3] => { results := [.lit (.bool false)], args := [d1, d2, d3] }
  | _ => none }
def SourceQuietWrongFalsely : Prop := sourceQuietRow.holds Tryz.pinned (OpenSpec.ofChange sourceQuietWrong)

/-- 'mufflelaw08.SourceBare': WHATEVER THE INPUT: true; the input reads as it did. -/
def sourceBareSpec : ChangeSpec := { name := "sourceBare", fn := fun _ => fun
  | [d1, d2] => { results := [.lit (.bool true)], args := [d1, d2] }
  | _ => none }
def sourceBareRow : OpenClaim := { program := "ytihlekehnihnpaagreat", sum := "7facb000e9eb90f8eedaeec2cc6e23a76e2e92c250507ec9ed023ab6146d638f", func := "muffle/mufflelaw08.SourceBare", spec := "sourceBare", unfollowed := true, recurses := true, loops := true, apart := false }
def SourceBareSaid : Prop := sourceBareRow.holds Tryz.pinned (OpenSpec.ofChange sourceBareSpec)

/-- ITS FALSE NEIGHBOUR: 'it returns false'. Refute it at one input. -/
def sourceBareWrong : ChangeSpec := { name := "sourceBare", fn := fun _ => fun
  | [d1, d2] => { results := [.lit (.bool false)], args := [d1, d2] }
  | _ => none }
def SourceBareWrongFalsely : Prop := sourceBareRow.holds Tryz.pinned (OpenSpec.ofChange sourceBareWrong)

/-- 'mufflelaw08.SourceMore': WHATEVER THE INPUT: true; the input reads as it did. -/
def sourceMoreSpec : ChangeSpec := { name := "sourceMore", fn := fun _ => fun
  | [d1, d2, d3, d4] => { results := [.lit (.bool true)], args := [d1, d2, d3, d4] }
  | _ => none }
def sourceMoreRow : OpenClaim := { program := "ytihlekehnihnpaagreat", sum := "7facb000e9eb90f8eedaeec2cc6e23a76e2e92c250507ec9ed023ab6146d638f", func := "muffle/mufflelaw08.SourceMore", spec := "sourceMore", unfollowed := true, recurses := true, loops := true, apart := false }
def SourceMoreSaid : Prop := sourceMoreRow.holds Tryz.pinned (OpenSpec.ofChange sourceMoreSpec)

/-- ITS FALSE NEIGHBOUR: 'it returns false'. Refute it at one input. -/
def sourceMoreWrong : ChangeSpec := { name := "sourceMore", fn := fun _ => fun
  | [d1, d2, d3, d4] => { results := [.lit (.bool false)], args := [d1, d2, d3, d4] }
  | _ => none }
def SourceMoreWrongFalsely : Prop := sourceMoreRow.holds Tryz.pinned (OpenSpec.ofChange sourceMoreWrong)

/-- 'mufflelaw09.SectypeHides': WHATEVER THE INPUT: true; the input reads as it did. -/
def sectypeHidesSpec : ChangeSpec := { name := "sectypeHides", fn := fun _ => fun
  | [d1, d2, d3, d4] => { results := [.lit (.bool true)], args := [d1, d2, d3, d4] }
  | _ => none }
def sectypeHidesRow : OpenClaim := { program := "ytihlekehnihnpaagreat", sum := "7facb000e9eb90f8eedaeec2cc6e23a76e2e92c250507ec9ed023ab6146d638f", func := "muffle/mufflelaw09.SectypeHides", spec := "sectypeHides", inPlace := ["maps.clone"], unfollowed := true, recurses := true, loops := true, apart := false }
def SectypeHidesSaid : Prop := sectypeHidesRow.holds Tryz.pinned (OpenSpec.ofChange sectypeHidesSpec)

/-- ITS FALSE NEIGHBOUR: 'it returns false'. Refute it at one input. -/
def sectypeHidesWrong : ChangeSpec := { name := "sectypeHides", fn := fun _ => fun
  | [d1, d2, d3, d4] => { results := [.lit (.bool false)], args := [d1, d2, d3, d4] }
  | _ => none }
def SectypeHidesWrongFalsely : Prop := sectypeHidesRow.holds Tryz.pinned (OpenSpec.ofChange sectypeHidesWrong)

/- THE SECOND FORM. 'bulk': how many values and letters a reading holds, each counted each time it is reached (what is shared counts as often as it is met; a slice's spare places count too). A statement '..UptoSaid' is the law's where the arguments, and the package variables that the reading takes, are together of bulk at most 1048576: NARROWER than '..Said'. Prove '..Said' where nothing that the law and all that it calls make is longer than what came in: it says more and counts as full. Else prove '..UptoSaid'. A law counts once. -/
mutual
def uptoBulk {H : Type} : DataW H → Nat
  | .lit (.string bytes) => bytes.length + 1
  | .lit _ => 1
  | .nil => 1
  | .ptr d => uptoBulk d + 1
  | .slice elems spare => uptoBulkAll elems + uptoBulkAll spare + 1
  | .agg parts => uptoBulkAll parts + 1
  | .iface _ d => uptoBulk d + 1
  | .map entries => uptoBulkEntries entries + 1
  | .held _ => 1
def uptoBulkAll {H : Type} : List (DataW H) → Nat
  | [] => 0
  | d :: r => uptoBulk d + uptoBulkAll r
def uptoBulkEntries {H : Type} : List (Lit × DataW H) → Nat
  | [] => 0
  | x :: r => uptoBulkEntry x + uptoBulkEntries r
def uptoBulkEntry {H : Type} : Lit × DataW H → Nat
  | (.string bytes, d) => bytes.length + uptoBulk d + 1
  | (_, d) => uptoBulk d + 1
 end
def uptoSmall : (H : Type) → List (DataW H) → Bool := fun _ ds => decide (uptoBulkAll ds ≤ 1048576)
def OpenSpec.upto (s : _root_.Go.ChangeSpec) : _root_.Go.OpenSpec := { _root_.Go.OpenSpec.ofChange s with cond := some uptoSmall }

/-- 'mufflelaw11.UnrollPrograms', WHERE WHAT IT READS IS OF BULK AT MOST 1048576: true; the input reads as it did. -/
def unrollProgramsUptoRow : OpenClaim := { program := "ytihlekehnihnpaagreat", sum := "7facb000e9eb90f8eedaeec2cc6e23a76e2e92c250507ec9ed023ab6146d638f", func := "muffle/mufflelaw11.UnrollPrograms", spec := "unrollPrograms", unfollowed := true, recurses := true, loops := true, apart := false, narrowed := true }
def UnrollProgramsUptoSaid : Prop := unrollProgramsUptoRow.holds Tryz.pinned (OpenSpec.upto unrollProgramsSpec)

/-- 'mufflelaw09.SectypeLevels', WHERE WHAT IT READS IS OF BULK AT MOST 1048576: true; the input reads as it did. -/
def sectypeLevelsUptoRow : OpenClaim := { program := "ytihlekehnihnpaagreat", sum := "7facb000e9eb90f8eedaeec2cc6e23a76e2e92c250507ec9ed023ab6146d638f", func := "muffle/mufflelaw09.SectypeLevels", spec := "sectypeLevels", inPlace := ["maps.clone"], unfollowed := true, recurses := true, loops := true, apart := false, narrowed := true }
def SectypeLevelsUptoSaid : Prop := sectypeLevelsUptoRow.holds Tryz.pinned (OpenSpec.upto sectypeLevelsSpec)

/-- 'mufflelaw08.SourceRuns', WHERE WHAT IT READS IS OF BULK AT MOST 1048576: true; the input reads as it did. -/
def sourceRunsUptoRow : OpenClaim := { program := "ytihlekehnihnpaagreat", sum := "7facb000e9eb90f8eedaeec2cc6e23a76e2e92c250507ec9ed023ab6146d638f", func := "muffle/mufflelaw08.SourceRuns", spec := "sourceRuns", unfollowed := true, recurses := true, loops := true, apart := false, narrowed := true }
def SourceRunsUptoSaid : Prop := sourceRunsUptoRow.holds Tryz.pinned (OpenSpec.upto sourceRunsSpec)

/-- 'mufflelaw08.SourceQuiet', WHERE WHAT IT READS IS OF BULK AT MOST 1048576: true; the input reads as it did. -/
def sourceQuietUptoRow : OpenClaim := { program := "ytihlekehnihnpaagreat", sum := "7facb000e9eb90f8eedaeec2cc6e23a76e2e92c250507ec9ed023ab6146d638f", func := "muffle/mufflelaw08.SourceQuiet", spec := "sourceQuiet", unfollowed := true, recurses := true, loops := true, apart := false, narrowed := true }
def SourceQuietUptoSaid : Prop := sourceQuietUptoRow.holds Tryz.pinned (OpenSpec.upto sourceQuietSpec)

/-- 'mufflelaw08.SourceBare', WHERE WHAT IT READS IS OF BULK AT MOST 1048576: true; the input reads as it did. -/
def sourceBareUptoRow : OpenClaim := { program := "ytihlekehnihnpaagreat", sum := "7facb000e9eb90f8eedaeec2cc6e23a76e2e92c250507ec9ed023ab6146d638f", func := "muffle/mufflelaw08.SourceBare", spec := "sourceBare", unfollowed := true, recurses := true, loops := true, apart := false, narrowed := true }
def SourceBareUptoSaid : Prop := sourceBareUptoRow.holds Tryz.pinned (OpenSpec.upto sourceBareSpec)

/-- 'mufflelaw08.SourceMore', WHERE WHAT IT READS IS OF BULK AT MOST 1048576: true; the input reads as it did. -/
def sourceMoreUptoRow : OpenClaim := { program := "ytihlekehnihnpaagreat", sum := "7facb000e9eb90f8eedaeec2cc6e23a76e2e92c250507ec9ed023ab6146d638f", func := "muffle/mufflelaw08.SourceMore", spec := "sourceMore", unfollowed := true, recurses := true, loops := true, apart := false, narrowed := true }
def SourceMoreUptoSaid : Prop := sourceMoreUptoRow.holds Tryz.pinned (OpenSpec.upto sourceMoreSpec)

/-- 'mufflelaw09.SectypeHides', WHERE WHAT IT READS IS OF BULK AT MOST 1048576: true; the input reads as it did. -/
def sectypeHidesUptoRow : OpenClaim := { program := "ytihlekehnihnpaagreat", sum := "7facb000e9eb90f8eedaeec2cc6e23a76e2e92c250507ec9ed023ab6146d638f", func := "muffle/mufflelaw09.SectypeHides", spec := "sectypeHides", inPlace := ["maps.clone"], unfollowed := true, recurses := true, loops := true, apart := false, narrowed := true }
def SectypeHidesUptoSaid : Prop := sectypeHidesUptoRow.holds Tryz.pinned (OpenSpec.upto sectypeHidesSpec)

end Rows
end Go.Proofs.YtihlekehnihnpaaGreat
