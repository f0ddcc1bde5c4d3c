/-
  NARROWER THAN 'FOR EVERY INPUT', by the rows' own cells (each row's printed sentence says how): UnrollRounds: loops · UnrollPuts: loops · UnrollDone: loops · SectypeChecks: loops · SectypeAlike: loops.
  DERIVED. THE GIVEN ROWS OF THIS SEAT. 5 by the template 'for every input the law returns true; each argument reads behind the call as it read before'; 0 by the template 'total and deterministic' (their statements: YtihlekehnihnpaaTotals.lean).
  GIVEN WITH THE SEED: the statements are not yours to turn. If you find one false, say at which input.
  Laid BY PROGRAM, IN A SANDBOX (cutbox-rows.mjs): the forced cells as the released guide's own fill.sh prints them over the translation 9e0c65684fe9e916… (all of the seat's roots in one cut). By AI agents, Wed Nov 11 2026. No macro, syntax, notation, axiom, sorry.
-/
import Derived.Test.YtihlekehnihnpaaChecked
import GoSem.Claim
import GoSem.ClaimJoined
import GoSem.ClaimMapViews
import Derived.JoinedTies
import Derived.KernelRfl
namespace Go.Proofs.Ytihlekehnihnpaa
/- THE CELL 'sum', in the pinned program and in every row, IS THE sha256 OF THE DUMP (.gsa) THAT YtihlekehnihnpaaProg.lean LOADS. Nothing in Lean hashes anything: it is a label: what it is worth is what the hold of that sum in a sandbox is worth. -/
noncomputable def Try.pinned : Pinned := { name := "ytihlekehnihnpaa", sum := "9e0c65684fe9e91639748599fe306557c18cef19722aeb2e930c1e3f06398dba", checked := Try.checked }
namespace Rows
def none {H : Type} : Left H := { results := [], args := [] }

/-- 'mufflelaw11.UnrollRounds': WHATEVER THE INPUT: true; the input reads as it did. -/
def unrollRoundsSpec : ChangeSpec := { name := "unrollRounds", fn := fun _ => fun
  | [d] => { results := [.lit (.bool true)], args := [d] }
  | _ => none }
def unrollRoundsRow : OpenClaim := { program := "ytihlekehnihnpaa", sum := "9e0c65684fe9e91639748599fe306557c18cef19722aeb2e930c1e3f06398dba", func := "muffle/mufflelaw11.UnrollRounds", spec := "unrollRounds", unfollowed := true, recurses := true, loops := true, apart := false }
def UnrollRoundsSaid : Prop := unrollRoundsRow.holds Try.pinned (OpenSpec.ofChange unrollRoundsSpec)

/-- ITS FALSE NEIGHBOUR: 'it returns false'. Refute it at one input. -/
def unrollRoundsWrong : ChangeSpec := { name := "unrollRounds", fn := fun _ => fun
  | [d] => { results := [.lit (.bool false)], args := [d] }
  | _ => none }
def UnrollRoundsWrongFalsely : Prop := unrollRoundsRow.holds Try.pinned (OpenSpec.ofChange unrollRoundsWrong)

/-- 'mufflelaw11.UnrollPuts': WHATEVER THE INPUT: true; the input reads as it did. -/
def unrollPutsSpec : ChangeSpec := { name := "unrollPuts", fn := fun _ => fun
  | [d1, d2, d3] => { results := [.lit (.bool true)], args := [d1, d2, d3] }
  | _ => none }
def unrollPutsRow : OpenClaim := { program := "ytihlekehnihnpaa", sum := "9e0c65684fe9e91639748599fe306557c18cef19722aeb2e930c1e3f06398dba", func := "muffle/mufflelaw11.UnrollPuts", spec := "unrollPuts", unfollowed := true, recurses := true, loops := true, apart := false }
def UnrollPutsSaid : Prop := unrollPutsRow.holds Try.pinned (OpenSpec.ofChange unrollPutsSpec)

/-- ITS FALSE NEIGHBOUR: 'it returns false'. Refute it at one input. -/
def unrollPutsWrong : ChangeSpec := { name := "unrollPuts", fn := fun _ => fun
  | [d1, d2, d3] => { results := [.lit (.bool false)], args := [d1, d2, d3] }
  | _ => none }
def UnrollPutsWrongFalsely : Prop := unrollPutsRow.holds Try.pinned (OpenSpec.ofChange unrollPutsWrong)

/-- 'mufflelaw11.UnrollDone': WHATEVER THE INPUT: true; the input reads as it did. -/
def unrollDoneSpec : ChangeSpec := { name := "unrollDone", fn := fun _ => fun
  | [d] => { results := [.lit (.bool true)], args := [d] }
  | _ => none }
def unrollDoneRow : OpenClaim := { program := "ytihlekehnihnpaa", sum := "9e0c65684fe9e91639748599fe306557c18cef19722aeb2e930c1e3f06398dba", func := "muffle/mufflelaw11.UnrollDone", spec := "unrollDone", unfollowed := true, recurses := true, loops := true, apart := false }
def UnrollDoneSaid : Prop := unrollDoneRow.holds Try.pinned (OpenSpec.ofChange unrollDoneSpec)

/-- ITS FALSE NEIGHBOUR: 'it returns false'. Refute it at one input. -/
def unrollDoneWrong : ChangeSpec := { name := "unrollDone", fn := fun _ => fun
  | [d] => { results := [.lit (.bool false)], args := [d] }
  | _ => none }
def UnrollDoneWrongFalsely : Prop := unrollDoneRow.holds Try.pinned (OpenSpec.ofChange unrollDoneWrong)

/-- 'mufflelaw09.SectypeChecks': WHATEVER THE INPUT: true; the input reads as it did. -/
def sectypeChecksSpec : ChangeSpec := { name := "sectypeChecks", fn := fun _ => fun
  | [d] => { results := [.lit (.bool true)], args := [d] }
  | _ => none }
def sectypeChecksRow : OpenClaim := { program := "ytihlekehnihnpaa", sum := "9e0c65684fe9e91639748599fe306557c18cef19722aeb2e930c1e3f06398dba", func := "muffle/mufflelaw09.SectypeChecks", spec := "sectypeChecks", inPlace := ["maps.clone"], unfollowed := true, recurses := true, loops := true, apart := false }
def SectypeChecksSaid : Prop := sectypeChecksRow.holds Try.pinned (OpenSpec.ofChange sectypeChecksSpec)

/-- ITS FALSE NEIGHBOUR: 'it returns false'. Refute it at one input. -/
def sectypeChecksWrong : ChangeSpec := { name := "sectypeChecks", fn := fun _ => fun
  | [d] => { results := [.lit (.bool false)], args := [d] }
  | _ => none }
def SectypeChecksWrongFalsely : Prop := sectypeChecksRow.holds Try.pinned (OpenSpec.ofChange sectypeChecksWrong)

/-- 'mufflelaw09.SectypeAlike': WHATEVER THE INPUT: true; the input reads as it did. -/
def sectypeAlikeSpec : ChangeSpec := { name := "sectypeAlike", fn := fun _ => fun
  | [d1, d2, d3] => { results := [.lit (.bool true)], args := [d1, d2, d3] }
  | _ => none }
def sectypeAlikeRow : OpenClaim := { program := "ytihlekehnihnpaa", sum := "9e0c65684fe9e91639748599fe306557c18cef19722aeb2e930c1e3f06398dba", func := "muffle/mufflelaw09.SectypeAlike", spec := "sectypeAlike", inPlace := ["maps.clone"], unfollowed := true, recurses := true, loops := true, apart := false }
def SectypeAlikeSaid : Prop := sectypeAlikeRow.holds Try.pinned (OpenSpec.ofChange sectypeAlikeSpec)

/-- ITS FALSE NEIGHBOUR: 'it returns false'. Refute it at one input. -/
def sectypeAlikeWrong : ChangeSpec := { name := "sectypeAlike", fn := fun _ => fun
  | [d1, d2, d3] => { results := [.lit (.bool false)], args := [d1, d2, d3] }
  | _ => none }
def SectypeAlikeWrongFalsely : Prop := sectypeAlikeRow.holds Try.pinned (OpenSpec.ofChange sectypeAlikeWrong)

/- THE SECOND FORM. 'bulk': how many values and letters a reading holds, each counted each time it is reached (what is shared counts as often as it is met; a slice's spare places count too). A statement '..UptoSaid' is the law's where the arguments, and the package variables that the reading takes, are together of bulk at most 1048576: NARROWER than '..Said'. Prove '..Said' where nothing that the law and all that it calls make is longer than what came in: it says more and counts as full. Else prove '..UptoSaid'. A law counts once. -/
mutual
def uptoBulk {H : Type} : DataW H → Nat
  | .lit (.string bytes) => bytes.length + 1
  | .lit _ => 1
  | .nil => 1
  | .ptr d => uptoBulk d + 1
  | .slice elems spare => uptoBulkAll elems + uptoBulkAll spare + 1
  | .agg parts => uptoBulkAll parts + 1
  | .iface _ d => uptoBulk d + 1
  | .map entries => uptoBulkEntries entries + 1
  | .held _ => 1
def uptoBulkAll {H : Type} : List (DataW H) → Nat
  | [] => 0
  | d :: r => uptoBulk d + uptoBulkAll r
def uptoBulkEntries {H : Type} : List (Lit × DataW H) → Nat
  | [] => 0
  | x :: r => uptoBulkEntry x + uptoBulkEntries r
def uptoBulkEntry {H : Type} : Lit × DataW H → Nat
  | (.string bytes, d) => bytes.length + uptoBulk d + 1
  | (_, d) => uptoBulk d + 1
 end
def uptoSmall : (H : Type) → List (DataW H) → Bool := fun _ ds => decide (uptoBulkAll ds ≤ 1048576)
def OpenSpec.upto (s : _root_.Go.ChangeSpec) : _root_.Go.OpenSpec := { _root_.Go.OpenSpec.ofChange s with cond := some uptoSmall }

/-- 'mufflelaw11.UnrollRounds', WHERE WHAT IT READS IS OF BULK AT MOST 1048576: true; the input reads as it did. -/
def unrollRoundsUptoRow : OpenClaim := { program := "ytihlekehnihnpaa", sum := "9e0c65684fe9e91639748599fe306557c18cef19722aeb2e930c1e3f06398dba", func := "muffle/mufflelaw11.UnrollRounds", spec := "unrollRounds", unfollowed := true, recurses := true, loops := true, apart := false, narrowed := true }
def UnrollRoundsUptoSaid : Prop := unrollRoundsUptoRow.holds Try.pinned (OpenSpec.upto unrollRoundsSpec)

/-- 'mufflelaw11.UnrollPuts', WHERE WHAT IT READS IS OF BULK AT MOST 1048576: true; the input reads as it did. -/
def unrollPutsUptoRow : OpenClaim := { program := "ytihlekehnihnpaa", sum := "9e0c65684fe9e91639748599fe306557c18cef19722aeb2e930c1e3f06398dba", func := "muffle/mufflelaw11.UnrollPuts", spec := "unrollPuts", unfollowed := true, recurses := true, loops := true, apart := false, narrowed := true }
def UnrollPutsUptoSaid : Prop := unrollPutsUptoRow.holds Try.pinned (OpenSpec.upto unrollPutsSpec)

/-- 'mufflelaw11.UnrollDone', WHERE WHAT IT READS IS OF BULK AT MOST 1048576: true; the input reads as it did. -/
def unrollDoneUptoRow : OpenClaim := { program := "ytihlekehnihnpaa", sum := "9e0c65684fe9e91639748599fe306557c18cef19722aeb2e930c1e3f06398dba", func := "muffle/mufflelaw11.UnrollDone", spec := "unrollDone", unfollowed := true, recurses := true, loops := true, apart := false, narrowed := true }
def UnrollDoneUptoSaid : Prop := unrollDoneUptoRow.holds Try.pinned (OpenSpec.upto unrollDoneSpec)

/-- 'mufflelaw09.SectypeChecks', WHERE WHAT IT READS IS OF BULK AT MOST 1048576: true; the input reads as it did. -/
def sectypeChecksUptoRow : OpenClaim := { program := "ytihlekehnihnpaa", sum := "9e0c65684fe9e91639748599fe306557c18cef19722aeb2e930c1e3f06398dba", func := "muffle/mufflelaw09.SectypeChecks", spec := "sectypeChecks", inPlace := ["maps.clone"], unfollowed := true, recurses := true, loops := true, apart := false, narrowed := true }
def SectypeChecksUptoSaid : Prop := sectypeChecksUptoRow.holds Try.pinned (OpenSpec.upto sectypeChecksSpec)

/-- 'mufflelaw09.SectypeAlike', WHERE WHAT IT READS IS OF BULK AT MOST 1048576: true; the input reads as it did. -/
def sectypeAlikeUptoRow : OpenClaim := { program := "ytihlekehnihnpaa", sum := "9e0c65684fe9e91639748599fe306557c18cef19722aeb2e930c1e3f06398dba", func := "muffle/mufflelaw09.SectypeAlike", spec := "sectypeAlike", inPlace := ["maps.clone"], unfollowed := true, recurses := true, loops := true, apart := false, narrowed := true }
def SectypeAlikeUptoSaid : Prop := sectypeAlikeUptoRow.holds Try.pinned (OpenSpec.upto sectypeAlikeSpec)

end Rows
end Go.Proofs.Ytihlekehnihnpaa
