/-
  No cell of these rows narrows 'for every input' (looked for: loops, veiled, ifaces, maps, wideKeys, modest, calm, conditions, laid).
  DERIVED. THE GIVEN ROWS OF THIS SEAT. 2 by the template 'for every input the law returns true; each argument reads behind the call as it read before'; 0 by the template 'total and deterministic' (their statements: YtganjkhdlehhdaaTotals.lean).
  GIVEN WITH THE SEED: the statements are not yours to turn. If you find one false, say at which input.
  Laid BY PROGRAM, IN A SANDBOX (cutbox-rows.mjs): the forced cells as the released guide's own fill.sh prints them over the translation 4307593a950ad506… (all of the seat's roots in one cut). By AI agents, Wed Nov 11 2026. No macro, syntax, notation, axiom, sorry.
-/
import Derived.Test.YtganjkhdlehhdaaChecked
import GoSem.Claim
import GoSem.ClaimJoined
import GoSem.ClaimMapViews
import Derived.JoinedTies
import Derived.KernelRfl
namespace Go.Proofs.Ytganjkhdlehhdaa
/- THE CELL 'sum', in the pinned program and in every row, IS THE sha256 OF THE DUMP (.gsa) THAT YtganjkhdlehhdaaProg.lean LOADS. Nothing in Lean hashes anything: it is a label: what it is worth is what the hold of that sum in a sandbox is worth. -/
noncomputable def Try.pinned : Pinned := { name := "ytganjkhdlehhdaa", sum := "4307593a950ad506a30b5b7ab7cc97131ecf989fe3c5a02a88f6ee003f0ad66f", checked := Try.checked }
namespace Rows
def none {H : Type} : Left H := { results := [], args := [] }

/-- 'mufflelaw19.AmdMay': WHATEVER THE INPUT: true; the input reads as it did. -/
def amdMaySpec : ChangeSpec := { name := "amdMay", fn := fun _ => fun
  | [d1, d2] => { results := [.lit (.bool true)], args := [d1, d2] }
  | _ => none }
def amdMayRow : OpenClaim := { program := "ytganjkhdlehhdaa", sum := "4307593a950ad506a30b5b7ab7cc97131ecf989fe3c5a02a88f6ee003f0ad66f", func := "muffle/mufflelaw19.AmdMay", spec := "amdMay", inPlace := ["math/bits.Add64", "math/bits.Sub64"], unfollowed := true, recurses := true, apart := false }
def AmdMaySaid : Prop := amdMayRow.holds Try.pinned (OpenSpec.ofChange amdMaySpec)

/-- ITS FALSE NEIGHBOUR: 'it returns false'. Refute it at one input. -/
def amdMayWrong : ChangeSpec := { name := "amdMay", fn := fun _ => fun
  | [d1, d2] => { results := [.lit (.bool false)], args := [d1, d2] }
  | _ => none }
def AmdMayWrongFalsely : Prop := amdMayRow.holds Try.pinned (OpenSpec.ofChange amdMayWrong)

/-- 'mufflelaw19.AmdNil': WHATEVER THE INPUT: true; the input reads as it did. -/
def amdNilSpec : ChangeSpec := { name := "amdNil", fn := fun _ => fun
  | [] => { results := [.lit (.bool true)], args := [] }
  | _ => none }
def amdNilRow : OpenClaim := { program := "ytganjkhdlehhdaa", sum := "4307593a950ad506a30b5b7ab7cc97131ecf989fe3c5a02a88f6ee003f0ad66f", func := "muffle/mufflelaw19.AmdNil", spec := "amdNil", inPlace := ["math/bits.Add64", "math/bits.Sub64"], unfollowed := true, recurses := true, apart := false }
def AmdNilSaid : Prop := amdNilRow.holds Try.pinned (OpenSpec.ofChange amdNilSpec)

/-- ITS FALSE NEIGHBOUR: 'it returns false'. Refute it at one input. -/
def amdNilWrong : ChangeSpec := { name := "amdNil", fn := fun _ => fun
  | [] => { results := [.lit (.bool false)], args := [] }
  | _ => none }
def AmdNilWrongFalsely : Prop := amdNilRow.holds Try.pinned (OpenSpec.ofChange amdNilWrong)

/- THE SECOND FORM. 'bulk': how many values and letters a reading holds, each counted each time it is reached (what is shared counts as often as it is met; a slice's spare places count too). A statement '..UptoSaid' is the law's where the arguments, and the package variables that the reading takes, are together of bulk at most 1048576: NARROWER than '..Said'. Prove '..Said' where nothing that the law and all that it calls make is longer than what came in: it says more and counts as full. Else prove '..UptoSaid'. A law counts once. -/
mutual
def uptoBulk {H : Type} : DataW H → Nat
  | .lit (.string bytes) => bytes.length + 1
  | .lit _ => 1
  | .nil => 1
  | .ptr d => uptoBulk d + 1
  | .slice elems spare => uptoBulkAll elems + uptoBulkAll spare + 1
  | .agg parts => uptoBulkAll parts + 1
  | .iface _ d => uptoBulk d + 1
  | .map entries => uptoBulkEntries entries + 1
  | .held _ => 1
def uptoBulkAll {H : Type} : List (DataW H) → Nat
  | [] => 0
  | d :: r => uptoBulk d + uptoBulkAll r
def uptoBulkEntries {H : Type} : List (Lit × DataW H) → Nat
  | [] => 0
  | x :: r => uptoBulkEntry x + uptoBulkEntries r
def uptoBulkEntry {H : Type} : Lit × DataW H → Nat
  | (.string bytes, d) => bytes.length + uptoBulk d + 1
  | (_, d) => uptoBulk d + 1
 end
def uptoSmall : (H : Type) → List (DataW H) → Bool := fun _ ds => decide (uptoBulkAll ds ≤ 1048576)
def OpenSpec.upto (s : _root_.Go.ChangeSpec) : _root_.Go.OpenSpec := { _root_.Go.OpenSpec.ofChange s with cond := some uptoSmall }

/-- 'mufflelaw19.AmdMay', WHERE WHAT IT READS IS OF BULK AT MOST 1048576: true; the input reads as it did. -/
def amdMayUptoRow : OpenClaim := { program := "ytganjkhdlehhdaa", sum := "4307593a950ad506a30b5b7ab7cc97131ecf989fe3c5a02a88f6ee003f0ad66f", func := "muffle/mufflelaw19.AmdMay", spec := "amdMay", inPlace := ["math/bits.Add64", "math/bits.Sub64"], unfollowed := true, recurses := true, apart := false, narrowed := true }
def AmdMayUptoSaid : Prop := amdMayUptoRow.holds Try.pinned (OpenSpec.upto amdMaySpec)

/-- 'mufflelaw19.AmdNil', WHERE WHAT IT READS IS OF BULK AT MOST 1048576: true; the input reads as it did. -/
def amdNilUptoRow : OpenClaim := { program := "ytganjkhdlehhdaa", sum := "4307593a950ad506a30b5b7ab7cc97131ecf989fe3c5a02a88f6ee003f0ad66f", func := "muffle/mufflelaw19.AmdNil", spec := "amdNil", inPlace := ["math/bits.Add64", "math/bits.Sub64"], unfollowed := true, recurses := true, apart := false, narrowed := true }
def AmdNilUptoSaid : Prop := amdNilUptoRow.holds Try.pinned (OpenSpec.upto amdNilSpec)

end Rows
end Go.Proofs.Ytganjkhdlehhdaa
