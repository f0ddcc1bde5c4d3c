/-
  NARROWER THAN 'FOR EVERY INPUT', by the rows' own cells (each row's printed sentence says how): FrameLays: loops · FrameFits: loops.
  DERIVED. THE GIVEN ROWS OF THIS SEAT. 2 by the template 'for every input the law returns true; each argument reads behind the call as it read before'; 0 by the template 'total and deterministic' (their statements: YtfoghfmmcogheaaGreatTotals.lean).
  GIVEN WITH THE SEED: the statements are not yours to turn. If you find one false, say at which input.
  Laid BY PROGRAM, IN A SANDBOX (cutbox-rows.mjs): the forced cells as the released guide's own fill.sh prints them over the translation 3ac526b99a471202… (all of the seat's roots in one cut). By AI agents, Wed Nov 11 2026. No macro, syntax, notation, axiom, sorry.
-/
import Derived.Test.YtfoghfmmcogheaaGreatChecked
import GoSem.Claim
import GoSem.ClaimJoined
import GoSem.ClaimMapViews
import Derived.JoinedTies
import Derived.KernelRfl
namespace Go.Proofs.YtfoghfmmcogheaaGreat
/- THE CELL 'sum', in the pinned program and in every row, IS THE sha256 OF THE DUMP (.gsa) THAT YtfoghfmmcogheaaGreatProg.lean LOADS. Nothing in Lean hashes anything: it is a label: what it is worth is what the hold of that sum in a sandbox is worth. -/
noncomputable def Tryz.pinned : Pinned := { name := "ytfoghfmmcogheaagreat", sum := "3ac526b99a4712022710d24df6ab664da2858576da021832617fcb9054ca11fb", checked := Tryz.checked }
namespace Rows
def none {H : Type} : Left H := { results := [], args := [] }

/-- 'mufflelaw14.FrameLays': WHATEVER THE INPUT: true; the input reads as it did. -/
def frameLaysSpec : ChangeSpec := { name := "frameLays", fn := fun _ => fun
  | [d] => { results := [.lit (.bool true)], args := [d] }
  | _ => none }
def frameLaysRow : OpenClaim := { program := "ytfoghfmmcogheaagreat", sum := "3ac526b99a4712022710d24df6ab664da2858576da021832617fcb9054ca11fb", func := "muffle/mufflelaw14.FrameLays", spec := "frameLays", unfollowed := true, recurses := true, loops := true, apart := false }
def FrameLaysSaid : Prop := frameLaysRow.holds Tryz.pinned (OpenSpec.ofChange frameLaysSpec)

/-- ITS FALSE NEIGHBOUR: 'it returns false'. Refute it at one input. -/
def frameLaysWrong : ChangeSpec := { name := "frameLays", fn := fun _ => fun
  | [d] => { results := [.lit (.bool false)], args := [d] }
  | _ => none }
def FrameLaysWrongFalsely : Prop := frameLaysRow.holds Tryz.pinned (OpenSpec.ofChange frameLaysWrong)

/-- 'mufflelaw14.FrameFits': WHATEVER THE INPUT: true; the input reads as it did. -/
def frameFitsSpec : ChangeSpec := { name := "frameFits", fn := fun _ => fun
  | [d1, d2, d3] => { results := [.lit (.bool true)], args := [d1, d2, d3] }
  | _ => none }
def frameFitsRow : OpenClaim := { program := "ytfoghfmmcogheaagreat", sum := "3ac526b99a4712022710d24df6ab664da2858576da021832617fcb9054ca11fb", func := "muffle/mufflelaw14.FrameFits", spec := "frameFits", unfollowed := true, recurses := true, loops := true, apart := false }
def FrameFitsSaid : Prop := frameFitsRow.holds Tryz.pinned (OpenSpec.ofChange frameFitsSpec)

/-- ITS FALSE NEIGHBOUR: 'it returns false'. Refute it at one input. -/
def frameFitsWrong : ChangeSpec := { name := "frameFits", fn := fun _ => fun
  | [d1, d2, d3] => { results := [.lit (.bool false)], args := [d1, d2, d3] }
  | _ => none }
def FrameFitsWrongFalsely : Prop := frameFitsRow.holds Tryz.pinned (OpenSpec.ofChange frameFitsWrong)

/- THE SECOND FORM. 'bulk': how many values and letters a reading holds, each counted each time it is reached (what is shared counts as often as it is met; a slice's spare places count too). A statement '..UptoSaid' is the law's where the arguments, and the package variables that the reading takes, are together of bulk at most 1048576: NARROWER than '..Said'. Prove '..Said' where nothing that the law and all that it calls make is longer than what came in: it says more and counts as full. Else prove '..UptoSaid'. A law counts once. -/
mutual
def uptoBulk {H : Type} : DataW H → Nat
  | .lit (.string bytes) => bytes.length + 1
  | .lit _ => 1
  | .nil => 1
  | .ptr d => uptoBulk d + 1
  | .slice elems spare => uptoBulkAll elems + uptoBulkAll spare + 1
  | .agg parts => uptoBulkAll parts + 1
  | .iface _ d => uptoBulk d + 1
  | .map entries => uptoBulkEntries entries + 1
  | .held _ => 1
def uptoBulkAll {H : Type} : List (DataW H) → Nat
  | [] => 0
  | d :: r => uptoBulk d + uptoBulkAll r
def uptoBulkEntries {H : Type} : List (Lit × DataW H) → Nat
  | [] => 0
  | x :: r => uptoBulkEntry x + uptoBulkEntries r
def uptoBulkEntry {H : Type} : Lit × DataW H → Nat
  | (.string bytes, d) => bytes.length + uptoBulk d + 1
  | (_, d) => uptoBulk d + 1
 end
def uptoSmall : (H : Type) → List (DataW H) → Bool := fun _ ds => decide (uptoBulkAll ds ≤ 1048576)
def OpenSpec.upto (s : _root_.Go.ChangeSpec) : _root_.Go.OpenSpec := { _root_.Go.OpenSpec.ofChange s with cond := some uptoSmall }

/-- 'mufflelaw14.FrameLays', WHERE WHAT IT READS IS OF BULK AT MOST 1048576: true; the input reads as it did. -/
def frameLaysUptoRow : OpenClaim := { program := "ytfoghfmmcogheaagreat", sum := "3ac526b99a4712022710d24df6ab664da2858576da021832617fcb9054ca11fb", func := "muffle/mufflelaw14.FrameLays", spec := "frameLays", unfollowed := true, recurses := true, loops := true, apart := false, narrowed := true }
def FrameLaysUptoSaid : Prop := frameLaysUptoRow.holds Tryz.pinned (OpenSpec.upto frameLaysSpec)

/-- 'mufflelaw14.FrameFits', WHERE WHAT IT READS IS OF BULK AT MOST 1048576: true; the input reads as it did. -/
def frameFitsUptoRow : OpenClaim := { program := "ytfoghfmmcogheaagreat", sum := "3ac526b99a4712022710d24df6ab664da2858576da021832617fcb9054ca11fb", func := "muffle/mufflelaw14.FrameFits", spec := "frameFits", unfollowed := true, recurses := true, loops := true, apart := false, narrowed := true }
def FrameFitsUptoSaid : Prop := frameFitsUptoRow.holds Tryz.pinned (OpenSpec.upto frameFitsSpec)

end Rows
end Go.Proofs.YtfoghfmmcogheaaGreat
