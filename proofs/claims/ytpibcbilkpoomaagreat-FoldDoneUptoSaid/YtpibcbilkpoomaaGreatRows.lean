/-
  NARROWER THAN 'FOR EVERY INPUT', by the rows' own cells (each row's printed sentence says how): FoldMeans: loops · FoldSets: loops · FoldPrograms: loops · FoldDone: loops.
  DERIVED. THE GIVEN ROWS OF THIS SEAT. 4 by the template 'for every input the law returns true; each argument reads behind the call as it read before'; 0 by the template 'total and deterministic' (their statements: YtpibcbilkpoomaaGreatTotals.lean).
  GIVEN WITH THE SEED: the statements are not yours to turn. If you find one false, say at which input.
  Laid BY PROGRAM, IN A SANDBOX (cutbox-rows.mjs): the forced cells as the released guide's own fill.sh prints them over the translation 0c5adc4fed55d859… (all of the seat's roots in one cut). By AI agents, Wed Nov 11 2026. No macro, syntax, notation, axiom, sorry.
-/
import Derived.Test.YtpibcbilkpoomaaGreatChecked
import GoSem.Claim
import GoSem.ClaimJoined
import GoSem.ClaimMapViews
import Derived.JoinedTies
import Derived.KernelRfl
namespace Go.Proofs.YtpibcbilkpoomaaGreat
/- THE CELL 'sum', in the pinned program and in every row, IS THE sha256 OF THE DUMP (.gsa) THAT YtpibcbilkpoomaaGreatProg.lean LOADS. Nothing in Lean hashes anything: it is a label: what it is worth is what the hold of that sum in a sandbox is worth. -/
noncomputable def Tryz.pinned : Pinned := { name := "ytpibcbilkpoomaagreat", sum := "0c5adc4fed55d85968794e4fd69af2471e25b9d4931e4189a594b7f222111b4b", checked := Tryz.checked }
namespace Rows
def none {H : Type} : Left H := { results := [], args := [] }

/-- 'mufflelaw12.FoldMeans': WHATEVER THE INPUT: true; the input reads as it did. -/
def foldMeansSpec : ChangeSpec := { name := "foldMeans", fn := fun _ => fun
  | [d1, d2, d3] => { results := [.lit (.bool true)], args := [d1, d2, d3] }
  | _ => none }
def foldMeansRow : OpenClaim := { program := "ytpibcbilkpoomaagreat", sum := "0c5adc4fed55d85968794e4fd69af2471e25b9d4931e4189a594b7f222111b4b", func := "muffle/mufflelaw12.FoldMeans", spec := "foldMeans", inPlace := ["maps.clone"], unfollowed := true, recurses := true, loops := true, apart := false }
def FoldMeansSaid : Prop := foldMeansRow.holds Tryz.pinned (OpenSpec.ofChange foldMeansSpec)

/-- ITS FALSE NEIGHBOUR: 'it returns false'. Refute it at one input. -/
def foldMeansWrong : ChangeSpec := { name := "foldMeans", fn := fun _ => fun
  | [d1, d2, d3] => { results := [.lit (.bool false)], args := [d1, d2, d3] }
  | _ => none }
def FoldMeansWrongFalsely : Prop := foldMeansRow.holds Tryz.pinned (OpenSpec.ofChange foldMeansWrong)

/-- 'mufflelaw12.FoldSets': WHATEVER THE INPUT: true; the input reads as it did. -/
def foldSetsSpec : ChangeSpec := { name := "foldSets", fn := fun _ => fun
  | [d] => { results := [.lit (.bool true)], args := [d] }
  | _ => none }
def foldSetsRow : OpenClaim := { program := "ytpibcbilkpoomaagreat", sum := "0c5adc4fed55d85968794e4fd69af2471e25b9d4931e4189a594b7f222111b4b", func := "muffle/mufflelaw12.FoldSets", spec := "foldSets", inPlace := ["maps.clone"], unfollowed := true, recurses := true, loops := true, apart := false }
def FoldSetsSaid : Prop := foldSetsRow.holds Tryz.pinned (OpenSpec.ofChange foldSetsSpec)

/-- ITS FALSE NEIGHBOUR: 'it returns false'. Refute it at one input. -/
def foldSetsWrong : ChangeSpec := { name := "foldSets", fn := fun _ => fun
  | [d] => { results := [.lit (.bool false)], args := [d] }
  | _ => none }
def FoldSetsWrongFalsely : Prop := foldSetsRow.holds Tryz.pinned (OpenSpec.ofChange foldSetsWrong)

/-- 'mufflelaw12.FoldPrograms': WHATEVER THE INPUT: true; the input reads as it did. -/
def foldProgramsSpec : ChangeSpec := { name := "foldPrograms", fn := fun _ => fun
  | [d] => { results := [.lit (.bool true)], args := [d] }
  | _ => none }
def foldProgramsRow : OpenClaim := { program := "ytpibcbilkpoomaagreat", sum := "0c5adc4fed55d85968794e4fd69af2471e25b9d4931e4189a594b7f222111b4b", func := "muffle/mufflelaw12.FoldPrograms", spec := "foldPrograms", inPlace := ["maps.clone"], unfollowed := true, recurses := true, loops := true, apart := false }
def FoldProgramsSaid : Prop := foldProgramsRow.holds Tryz.pinned (OpenSpec.ofChange foldProgramsSpec)

/-- ITS FALSE NEIGHBOUR: 'it returns false'. Refute it at one input. -/
def foldProgramsWrong : ChangeSpec := { name := "foldPrograms", fn := fun _ => fun
  | [d] => { results := [.lit (.bool false)], args := [d] }
  | _ => none }
def FoldProgramsWrongFalsely : Prop := foldProgramsRow.holds Tryz.pinned (OpenSpec.ofChange foldProgramsWrong)

/-- 'mufflelaw12.FoldDone': WHATEVER THE INPUT: true; the input reads as it did. -/
def foldDoneSpec : ChangeSpec := { name := "foldDone", fn := fun _ => fun
  | [d1, d2] => { results := [.lit (.bool true)], args := [d1, d2] }
  | _ => none }
def foldDoneRow : OpenClaim := { program := "ytpibcbilkpoomaagreat", sum := "0c5adc4fed55d85968794e4fd69af2471e25b9d4931e4189a594b7f222111b4b", func := "muffle/mufflelaw12.FoldDone", spec := "foldDone", inPlace := ["maps.clone"], unfollowed := true, recurses := true, loops := true, apart := false }
def FoldDoneSaid : Prop := foldDoneRow.holds Tryz.pinned (OpenSpec.ofChange foldDoneSpec)

/-- ITS FALSE NEIGHBOUR: 'it returns false'. Refute it at one input. -/
def foldDoneWrong : ChangeSpec := { name := "foldDone", fn := fun _ => fun
  | [d1, d2] => { results := [.lit (.bool false)], args := [d1, d2] }
  | _ => none }
def FoldDoneWrongFalsely : Prop := foldDoneRow.holds Tryz.pinned (OpenSpec.ofChange foldDoneWrong)

/- THE SECOND FORM. 'bulk': how many values and letters a reading holds, each counted each time it is reached (what is shared counts as often as it is met; a slice's spare places count too). A statement '..UptoSaid' is the law's where the arguments, and the package variables that the reading takes, are together of bulk at most 1048576: NARROWER than '..Said'. Prove '..Said' where nothing that the law and all that it calls make is longer than what came in: it says more and counts as full. Else prove '..UptoSaid'. A law counts once. -/
mutual
def uptoBulk {H : Type} : DataW H → Nat
  | .lit (.string bytes) => bytes.length + 1
  | .lit _ => 1
  | .nil => 1
  | .ptr d => uptoBulk d + 1
  | .slice elems spare => uptoBulkAll elems + uptoBulkAll spare + 1
  | .agg parts => uptoBulkAll parts + 1
  | .iface _ d => uptoBulk d + 1
  | .map entries => uptoBulkEntries entries + 1
  | .held _ => 1
def uptoBulkAll {H : Type} : List (DataW H) → Nat
  | [] => 0
  | d :: r => uptoBulk d + uptoBulkAll r
def uptoBulkEntries {H : Type} : List (Lit × DataW H) → Nat
  | [] => 0
  | x :: r => uptoBulkEntry x + uptoBulkEntries r
def uptoBulkEntry {H : Type} : Lit × DataW H → Nat
  | (.string bytes, d) => bytes.length + uptoBulk d + 1
  | (_, d) => uptoBulk d + 1
 end
def uptoSmall : (H : Type) → List (DataW H) → Bool := fun _ ds => decide (uptoBulkAll ds ≤ 1048576)
def OpenSpec.upto (s : _root_.Go.ChangeSpec) : _root_.Go.OpenSpec := { _root_.Go.OpenSpec.ofChange s with cond := some uptoSmall }

/-- 'mufflelaw12.FoldMeans', WHERE WHAT IT READS IS OF BULK AT MOST 1048576: true; the input reads as it did. -/
def foldMeansUptoRow : OpenClaim := { program := "ytpibcbilkpoomaagreat", sum := "0c5adc4fed55d85968794e4fd69af2471e25b9d4931e4189a594b7f222111b4b", func := "muffle/mufflelaw12.FoldMeans", spec := "foldMeans", inPlace := ["maps.clone"], unfollowed := true, recurses := true, loops := true, apart := false, narrowed := true }
def FoldMeansUptoSaid : Prop := foldMeansUptoRow.holds Tryz.pinned (OpenSpec.upto foldMeansSpec)

/-- 'mufflelaw12.FoldSets', WHERE WHAT IT READS IS OF BULK AT MOST 1048576: true; the input reads as it did. -/
def foldSetsUptoRow : OpenClaim := { program := "ytpibcbilkpoomaagreat", sum := "0c5adc4fed55d85968794e4fd69af2471e25b9d4931e4189a594b7f222111b4b", func := "muffle/mufflelaw12.FoldSets", spec := "foldSets", inPlace := ["maps.clone"], unfollowed := true, recurses := true, loops := true, apart := false, narrowed := true }
def FoldSetsUptoSaid : Prop := foldSetsUptoRow.holds Tryz.pinned (OpenSpec.upto foldSetsSpec)

/-- 'mufflelaw12.FoldPrograms', WHERE WHAT IT READS IS OF BULK AT MOST 1048576: true; the input reads as it did. -/
def foldProgramsUptoRow : OpenClaim := { program := "ytpibcbilkpoomaagreat", sum := "0c5adc4fed55d85968794e4fd69af2471e25b9d4931e4189a594b7f222111b4b", func := "muffle/mufflelaw12.FoldPrograms", spec := "foldPrograms", inPlace := ["maps.clone"], unfollowed := true, recurses := true, loops := true, apart := false, narrowed := true }
def FoldProgramsUptoSaid : Prop := foldProgramsUptoRow.holds Tryz.pinned (OpenSpec.upto foldProgramsSpec)

/-- 'mufflelaw12.FoldDone', WHERE WHAT IT READS IS OF BULK AT MOST 1048576: true; the input reads as it did. -/
def foldDoneUptoRow : OpenClaim := { program := "ytpibcbilkpoomaagreat", sum := "0c5adc4fed55d85968794e4fd69af2471e25b9d4931e4189a594b7f222111b4b", func := "muffle/mufflelaw12.FoldDone", spec := "foldDone", inPlace := ["maps.clone"], unfollowed := true, recurses := true, loops := true, apart := false, narrowed := true }
def FoldDoneUptoSaid : Prop := foldDoneUptoRow.holds Tryz.pinned (OpenSpec.upto foldDoneSpec)

end Rows
end Go.Proofs.YtpibcbilkpoomaaGreat
