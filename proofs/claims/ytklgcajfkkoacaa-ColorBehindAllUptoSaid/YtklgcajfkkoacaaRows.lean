/-
  No cell of these rows narrows 'for every input' (looked for: loops, veiled, ifaces, maps, wideKeys, modest, calm, conditions, laid).
  DERIVED. THE GIVEN ROWS OF THIS SEAT. 8 by the template 'for every input the law returns true; each argument reads behind the call as it read before'; 0 by the template 'total and deterministic' (their statements: YtklgcajfkkoacaaTotals.lean).
  GIVEN WITH THE SEED: the statements are not yours to turn. If you find one false, say at which input.
  Laid BY PROGRAM, IN A SANDBOX (cutbox-rows.mjs): the forced cells as the released guide's own fill.sh prints them over the translation ddf304b3702b6825… (all of the seat's roots in one cut). By AI agents, Wed Nov 11 2026. No macro, syntax, notation, axiom, sorry.
-/
import Derived.Test.YtklgcajfkkoacaaChecked
import GoSem.Claim
import GoSem.ClaimJoined
import GoSem.ClaimMapViews
import Derived.JoinedTies
import Derived.KernelRfl
namespace Go.Proofs.Ytklgcajfkkoacaa
/- THE CELL 'sum', in the pinned program and in every row, IS THE sha256 OF THE DUMP (.gsa) THAT YtklgcajfkkoacaaProg.lean LOADS. Nothing in Lean hashes anything: it is a label: what it is worth is what the hold of that sum in a sandbox is worth. -/
noncomputable def Try.pinned : Pinned := { name := "ytklgcajfkkoacaa", sum := "ddf304b3702b68255b1149ecf330356de675a75f3246a202467ee5259b664b2c", checked := Try.checked }
namespace Rows
def none {H : Type} : Left H := { results := [], args := [] }

/-- 'mufflelaw18.CheckChecks': WHATEVER THE INPUT: true; the input reads as it did. -/
def checkChecksSpec : ChangeSpec := { name := "checkChecks", fn := fun _ => fun
  | [d1, d2] => { results := [.lit (.bool true)], args := [d1, d2] }
  | _ => none }
def checkChecksRow : OpenClaim := { program := "ytklgcajfkkoacaa", sum := "ddf304b3702b68255b1149ecf330356de675a75f3246a202467ee5259b664b2c", func := "muffle/mufflelaw18.CheckChecks", spec := "checkChecks", unfollowed := true, recurses := true, plainKeys := false, apart := false }
def CheckChecksSaid : Prop := checkChecksRow.holds Try.pinned (OpenSpec.ofChange checkChecksSpec)

/-- ITS FALSE NEIGHBOUR: 'it returns false'. Refute it at one input. -/
def checkChecksWrong : ChangeSpec := { name := "checkChecks", fn := fun _ => fun
  | [d1, d2] => { results := [.lit (.bool false)], args := [d1, d2] }
  | _ => none }
def CheckChecksWrongFalsely : Prop := checkChecksRow.holds Try.pinned (OpenSpec.ofChange checkChecksWrong)

/-- 'mufflelaw18.CheckNil': WHATEVER THE INPUT: true; the input reads as it did. -/
def checkNilSpec : ChangeSpec := { name := "checkNil", fn := fun _ => fun
  | [] => { results := [.lit (.bool true)], args := [] }
  | _ => none }
def checkNilRow : OpenClaim := { program := "ytklgcajfkkoacaa", sum := "ddf304b3702b68255b1149ecf330356de675a75f3246a202467ee5259b664b2c", func := "muffle/mufflelaw18.CheckNil", spec := "checkNil", unfollowed := true, recurses := true, plainKeys := false, apart := false }
def CheckNilSaid : Prop := checkNilRow.holds Try.pinned (OpenSpec.ofChange checkNilSpec)

/-- ITS FALSE NEIGHBOUR: 'it returns false'. Refute it at one input. -/
def checkNilWrong : ChangeSpec := { name := "checkNil", fn := fun _ => fun
  | [] => { results := [.lit (.bool false)], args := [] }
  | _ => none }
def CheckNilWrongFalsely : Prop := checkNilRow.holds Try.pinned (OpenSpec.ofChange checkNilWrong)

/-- 'mufflelaw18.CheckRenames': WHATEVER THE INPUT: true; the input reads as it did. -/
def checkRenamesSpec : ChangeSpec := { name := "checkRenames", fn := fun _ => fun
  | [d1, d2] => { results := [.lit (.bool true)], args := [d1, d2] }
  | _ => none }
def checkRenamesRow : OpenClaim := { program := "ytklgcajfkkoacaa", sum := "ddf304b3702b68255b1149ecf330356de675a75f3246a202467ee5259b664b2c", func := "muffle/mufflelaw18.CheckRenames", spec := "checkRenames", unfollowed := true, recurses := true, plainKeys := false, apart := false }
def CheckRenamesSaid : Prop := checkRenamesRow.holds Try.pinned (OpenSpec.ofChange checkRenamesSpec)

/-- ITS FALSE NEIGHBOUR: 'it returns false'. Refute it at one input. -/
def checkRenamesWrong : ChangeSpec := { name := "checkRenames", fn := fun _ => fun
  | [d1, d2] => { results := [.lit (.bool false)], args := [d1, d2] }
  | _ => none }
def CheckRenamesWrongFalsely : Prop := checkRenamesRow.holds Try.pinned (OpenSpec.ofChange checkRenamesWrong)

/-- 'mufflelaw18.CheckSpread': WHATEVER THE INPUT: true; the input reads as it did. -/
def checkSpreadSpec : ChangeSpec := { name := "checkSpread", fn := fun _ => fun
  | [d] => { results := [.lit (.bool true)], args := [d] }
  | _ => none }
def checkSpreadRow : OpenClaim := { program := "ytklgcajfkkoacaa", sum := "ddf304b3702b68255b1149ecf330356de675a75f3246a202467ee5259b664b2c", func := "muffle/mufflelaw18.CheckSpread", spec := "checkSpread", unfollowed := true, recurses := true, plainKeys := false, apart := false }
def CheckSpreadSaid : Prop := checkSpreadRow.holds Try.pinned (OpenSpec.ofChange checkSpreadSpec)

/-- ITS FALSE NEIGHBOUR: 'it returns false'. Refute it at one input. -/
def checkSpreadWrong : ChangeSpec := { name := "checkSpread", fn := fun _ => fun
  | [d] => { results := [.lit (.bool false)], args := [d] }
  | _ => none }
def CheckSpreadWrongFalsely : Prop := checkSpreadRow.holds Try.pinned (OpenSpec.ofChange checkSpreadWrong)

/-- 'mufflelaw17.ColorProposes': WHATEVER THE INPUT: true; the input reads as it did. -/
def colorProposesSpec : ChangeSpec := { name := "colorProposes", fn := fun _ => fun
  | [d] => { results := [.lit (.bool true)], args := [d] }
  | _ => none }
def colorProposesRow : OpenClaim := { program := "ytklgcajfkkoacaa", sum := "ddf304b3702b68255b1149ecf330356de675a75f3246a202467ee5259b664b2c", func := "muffle/mufflelaw17.ColorProposes", spec := "colorProposes", unfollowed := true, recurses := true, plainKeys := false, apart := false }
def ColorProposesSaid : Prop := colorProposesRow.holds Try.pinned (OpenSpec.ofChange colorProposesSpec)

/-- ITS FALSE NEIGHBOUR: 'it returns false'. Refute it at one input. -/
def colorProposesWrong : ChangeSpec := { name := "colorProposes", fn := fun _ => fun
  | [d] => { results := [.lit (.bool false)], args := [d] }
  | _ => none }
def ColorProposesWrongFalsely : Prop := colorProposesRow.holds Try.pinned (OpenSpec.ofChange colorProposesWrong)

/-- 'mufflelaw17.ColorBehind': WHATEVER THE INPUT: true; the input reads as it did. -/
def colorBehindSpec : ChangeSpec := { name := "colorBehind", fn := fun _ => fun
  | [d1, d2] => { results := [.lit (.bool true)], args := [d1, d2] }
  | _ => none }
def colorBehindRow : OpenClaim := { program := "ytklgcajfkkoacaa", sum := "ddf304b3702b68255b1149ecf330356de675a75f3246a202467ee5259b664b2c", func := "muffle/mufflelaw17.ColorBehind", spec := "colorBehind", unfollowed := true, recurses := true, plainKeys := false, apart := false }
def ColorBehindSaid : Prop := colorBehindRow.holds Try.pinned (OpenSpec.ofChange colorBehindSpec)

/-- ITS FALSE NEIGHBOUR: 'it returns false'. Refute it at one input. -/
def colorBehindWrong : ChangeSpec := { name := "colorBehind", fn := fun _ => fun
  | [d1, d2] => { results := [.lit (.bool false)], args := [d1, d2] }
  | _ => none }
def ColorBehindWrongFalsely : Prop := colorBehindRow.holds Try.pinned (OpenSpec.ofChange colorBehindWrong)

/-- 'mufflelaw17.ColorApart': WHATEVER THE INPUT: true; the input reads as it did. -/
def colorApartSpec : ChangeSpec := { name := "colorApart", fn := fun _ => fun
  | [d] => { results := [.lit (.bool true)], args := [d] }
  | _ => none }
def colorApartRow : OpenClaim := { program := "ytklgcajfkkoacaa", sum := "ddf304b3702b68255b1149ecf330356de675a75f3246a202467ee5259b664b2c", func := "muffle/mufflelaw17.ColorApart", spec := "colorApart", unfollowed := true, recurses := true, plainKeys := false, apart := false }
def ColorApartSaid : Prop := colorApartRow.holds Try.pinned (OpenSpec.ofChange colorApartSpec)

/-- ITS FALSE NEIGHBOUR: 'it returns false'. Refute it at one input. -/
def colorApartWrong : ChangeSpec := { name := "colorApart", fn := fun _ => fun
  | [d] => { results := [.lit (.bool false)], args := [d] }
  | _ => none }
def ColorApartWrongFalsely : Prop := colorApartRow.holds Try.pinned (OpenSpec.ofChange colorApartWrong)

/-- 'mufflelaw17.ColorBehindAll': WHATEVER THE INPUT: true; the input reads as it did. -/
def colorBehindAllSpec : ChangeSpec := { name := "colorBehindAll", fn := fun _ => fun
  | [d] => { results := [.lit (.bool true)], args := [d] }
  | _ => none }
def colorBehindAllRow : OpenClaim := { program := "ytklgcajfkkoacaa", sum := "ddf304b3702b68255b1149ecf330356de675a75f3246a202467ee5259b664b2c", func := "muffle/mufflelaw17.ColorBehindAll", spec := "colorBehindAll", unfollowed := true, recurses := true, plainKeys := false, apart := false }
def ColorBehindAllSaid : Prop := colorBehindAllRow.holds Try.pinned (OpenSpec.ofChange colorBehindAllSpec)

/-- ITS FALSE NEIGHBOUR: 'it returns false'. Refute it at one input. -/
def colorBehindAllWrong : ChangeSpec := { name := "colorBehindAll", fn := fun _ => fun
  | [d] => { results := [.lit (.bool false)], args := [d] }
  | _ => none }
def ColorBehindAllWrongFalsely : Prop := colorBehindAllRow.holds Try.pinned (OpenSpec.ofChange colorBehindAllWrong)

/- THE SECOND FORM. 'bulk': how many values and letters a reading holds, each counted each time it is reached (what is shared counts as often as it is met; a slice's spare places count too). A statement '..UptoSaid' is the law's where the arguments, and the package variables that the reading takes, are together of bulk at most 1048576: NARROWER than '..Said'. Prove '..Said' where nothing that the law and all that it calls make is longer than what came in: it says more and counts as full. Else prove '..UptoSaid'. A law counts once. -/
mutual
def uptoBulk {H : Type} : DataW H → Nat
  | .lit (.string bytes) => bytes.length + 1
  | .lit _ => 1
  | .nil => 1
  | .ptr d => uptoBulk d + 1
  | .slice elems spare => uptoBulkAll elems + uptoBulkAll spare + 1
  | .agg parts => uptoBulkAll parts + 1
  | .iface _ d => uptoBulk d + 1
  | .map entries => uptoBulkEntries entries + 1
  | .held _ => 1
def uptoBulkAll {H : Type} : List (DataW H) → Nat
  | [] => 0
  | d :: r => uptoBulk d + uptoBulkAll r
def uptoBulkEntries {H : Type} : List (Lit × DataW H) → Nat
  | [] => 0
  | x :: r => uptoBulkEntry x + uptoBulkEntries r
def uptoBulkEntry {H : Type} : Lit × DataW H → Nat
  | (.string bytes, d) => bytes.length + uptoBulk d + 1
  | (_, d) => uptoBulk d + 1
 end
def uptoSmall : (H : Type) → List (DataW H) → Bool := fun _ ds => decide (uptoBulkAll ds ≤ 1048576)
def OpenSpec.upto (s : _root_.Go.ChangeSpec) : _root_.Go.OpenSpec := { _root_.Go.OpenSpec.ofChange s with cond := some uptoSmall }

/-- 'mufflelaw18.CheckChecks', WHERE WHAT IT READS IS OF BULK AT MOST 1048576: true; the input reads as it did. -/
def checkChecksUptoRow : OpenClaim := { program := "ytklgcajfkkoacaa", sum := "ddf304b3702b68255b1149ecf330356de675a75f3246a202467ee5259b664b2c", func := "muffle/mufflelaw18.CheckChecks", spec := "checkChecks", unfollowed := true, recurses := true, plainKeys := false, apart := false, narrowed := true }
def CheckChecksUptoSaid : Prop := checkChecksUptoRow.holds Try.pinned (OpenSpec.upto checkChecksSpec)

/-- 'mufflelaw18.CheckNil', WHERE WHAT IT READS IS OF BULK AT MOST 1048576: true; the input reads as it did. -/
def checkNilUptoRow : OpenClaim := { program := "ytklgcajfkkoacaa", sum := "ddf304b3702b68255b1149ecf330356de675a75f3246a202467ee5259b664b2c", func := "muffle/mufflelaw18.CheckNil", spec := "checkNil", unfollowed := true, recurses := true, plainKeys := false, apart := false, narrowed := true }
def CheckNilUptoSaid : Prop := checkNilUptoRow.holds Try.pinned (OpenSpec.upto checkNilSpec)

/-- 'mufflelaw18.CheckRenames', WHERE WHAT IT READS IS OF BULK AT MOST 1048576: true; the input reads as it did. -/
def checkRenamesUptoRow : OpenClaim := { program := "ytklgcajfkkoacaa", sum := "ddf304b3702b68255b1149ecf330356de675a75f3246a202467ee5259b664b2c", func := "muffle/mufflelaw18.CheckRenames", spec := "checkRenames", unfollowed := true, recurses := true, plainKeys := false, apart := false, narrowed := true }
def CheckRenamesUptoSaid : Prop := checkRenamesUptoRow.holds Try.pinned (OpenSpec.upto checkRenamesSpec)

/-- 'mufflelaw18.CheckSpread', WHERE WHAT IT READS IS OF BULK AT MOST 1048576: true; the input reads as it did. -/
def checkSpreadUptoRow : OpenClaim := { program := "ytklgcajfkkoacaa", sum := "ddf304b3702b68255b1149ecf330356de675a75f3246a202467ee5259b664b2c", func := "muffle/mufflelaw18.CheckSpread", spec := "checkSpread", unfollowed := true, recurses := true, plainKeys := false, apart := false, narrowed := true }
def CheckSpreadUptoSaid : Prop := checkSpreadUptoRow.holds Try.pinned (OpenSpec.upto checkSpreadSpec)

/-- 'mufflelaw17.ColorProposes', WHERE WHAT IT READS IS OF BULK AT MOST 1048576: true; the input reads as it did. -/
def colorProposesUptoRow : OpenClaim := { program := "ytklgcajfkkoacaa", sum := "ddf304b3702b68255b1149ecf330356de675a75f3246a202467ee5259b664b2c", func := "muffle/mufflelaw17.ColorProposes", spec := "colorProposes", unfollowed := true, recurses := true, plainKeys := false, apart := false, narrowed := true }
def ColorProposesUptoSaid : Prop := colorProposesUptoRow.holds Try.pinned (OpenSpec.upto colorProposesSpec)

/-- 'mufflelaw17.ColorBehind', WHERE WHAT IT READS IS OF BULK AT MOST 1048576: true; the input reads as it did. -/
def colorBehindUptoRow : OpenClaim := { program := "ytklgcajfkkoacaa", sum := "ddf304b3702b68255b1149ecf330356de675a75f3246a202467ee5259b664b2c", func := "muffle/mufflelaw17.ColorBehind", spec := "colorBehind", unfollowed := true, recurses := true, plainKeys := false, apart := false, narrowed := true }
def ColorBehindUptoSaid : Prop := colorBehindUptoRow.holds Try.pinned (OpenSpec.upto colorBehindSpec)

/-- 'mufflelaw17.ColorApart', WHERE WHAT IT READS IS OF BULK AT MOST 1048576: true; the input reads as it did. -/
def colorApartUptoRow : OpenClaim := { program := "ytklgcajfkkoacaa", sum := "ddf304b3702b68255b1149ecf330356de675a75f3246a202467ee5259b664b2c", func := "muffle/mufflelaw17.ColorApart", spec := "colorApart", unfollowed := true, recurses := true, plainKeys := false, apart := false, narrowed := true }
def ColorApartUptoSaid : Prop := colorApartUptoRow.holds Try.pinned (OpenSpec.upto colorApartSpec)

/-- 'mufflelaw17.ColorBehindAll', WHERE WHAT IT READS IS OF BULK AT MOST 1048576: true; the input reads as it did. -/
def colorBehindAllUptoRow : OpenClaim := { program := "ytklgcajfkkoacaa", sum := "ddf304b3702b68255b1149ecf330356de675a75f3246a202467ee5259b664b2c", func := "muffle/mufflelaw17.ColorBehindAll", spec := "colorBehindAll", unfollowed := true, recurses := true, plainKeys := false, apart := false, narrowed := true }
def ColorBehindAllUptoSaid : Prop := colorBehindAllUptoRow.holds Try.pinned (OpenSpec.upto colorBehindAllSpec)

end Rows
end Go.Proofs.Ytklgcajfkkoacaa
