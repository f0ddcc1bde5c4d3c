/-
  NARROWER THAN 'FOR EVERY INPUT', by the rows' own cells (each row's printed sentence says how): ScopeFit: loops · ScopeSame: loops · LeakTerms: loops · LeakBroken: loops · LeakThrough: loops · LeakSame: loops.
  DERIVED. THE GIVEN ROWS OF THIS SEAT. 8 by the template 'for every input the law returns true; each argument reads behind the call as it read before'; 0 by the template 'total and deterministic' (their statements: YtamblilpfacolaaTotals.lean).
  GIVEN WITH THE SEED: the statements are not yours to turn. If you find one false, say at which input.
  Laid BY PROGRAM, IN A SANDBOX (cutbox-rows.mjs): the forced cells as the released guide's own fill.sh prints them over the translation 6e83a642967af12d… (all of the seat's roots in one cut). By AI agents, Wed Nov 11 2026. No macro, syntax, notation, axiom, sorry.
-/
import Derived.Test.YtamblilpfacolaaChecked
import GoSem.Claim
import GoSem.ClaimJoined
import GoSem.ClaimMapViews
import Derived.JoinedTies
import Derived.KernelRfl
namespace Go.Proofs.Ytamblilpfacolaa
/- THE CELL 'sum', in the pinned program and in every row, IS THE sha256 OF THE DUMP (.gsa) THAT YtamblilpfacolaaProg.lean LOADS. Nothing in Lean hashes anything: it is a label: what it is worth is what the hold of that sum in a sandbox is worth. -/
noncomputable def Try.pinned : Pinned := { name := "ytamblilpfacolaa", sum := "6e83a642967af12db6f5fe993ac2132926aad7f3565873b8be6d60d116b5ff36", checked := Try.checked }
namespace Rows
def none {H : Type} : Left H := { results := [], args := [] }

/-- 'mufflelaw07.ScopeDeep': WHATEVER THE INPUT: true; the input reads as it did. -/
def scopeDeepSpec : ChangeSpec := { name := "scopeDeep", fn := fun _ => fun
  | [] => { results := [.lit (.bool true)], args := [] }
  | _ => none }
def scopeDeepRow : OpenClaim := { program := "ytamblilpfacolaa", sum := "6e83a642967af12db6f5fe993ac2132926aad7f3565873b8be6d60d116b5ff36", func := "muffle/mufflelaw07.ScopeDeep", spec := "scopeDeep", unfollowed := true, recurses := true, apart := false }
def ScopeDeepSaid : Prop := scopeDeepRow.holds Try.pinned (OpenSpec.ofChange scopeDeepSpec)

/-- ITS FALSE NEIGHBOUR: 'it returns false'. Refute it at one input. -/
def scopeDeepWrong : ChangeSpec := { name := "scopeDeep", fn := fun _ => fun
  | [] => { results := [.lit (.bool false)], args := [] }
  | _ => none }
def ScopeDeepWrongFalsely : Prop := scopeDeepRow.holds Try.pinned (OpenSpec.ofChange scopeDeepWrong)

/-- 'mufflelaw07.ScopeFit': WHATEVER THE INPUT: true; the input reads as it did. -/
def scopeFitSpec : ChangeSpec := { name := "scopeFit", fn := fun _ => fun
  | [d1, d2] => { results := [.lit (.bool true)], args := [d1, d2] }
  | _ => none }
def scopeFitRow : OpenClaim := { program := "ytamblilpfacolaa", sum := "6e83a642967af12db6f5fe993ac2132926aad7f3565873b8be6d60d116b5ff36", func := "muffle/mufflelaw07.ScopeFit", spec := "scopeFit", unfollowed := true, recurses := true, loops := true, apart := false }
def ScopeFitSaid : Prop := scopeFitRow.holds Try.pinned (OpenSpec.ofChange scopeFitSpec)

/-- ITS FALSE NEIGHBOUR: 'it returns false'. Refute it at one input. -/
def scopeFitWrong : ChangeSpec := { name := "scopeFit", fn := fun _ => fun
  | [d1, d2] => { results := [.lit (.bool false)], args := [d1, d2] }
  | _ => none }
def ScopeFitWrongFalsely : Prop := scopeFitRow.holds Try.pinned (OpenSpec.ofChange scopeFitWrong)

/-- 'mufflelaw07.ScopeSame': WHATEVER THE INPUT: true; the input reads as it did. -/
def scopeSameSpec : ChangeSpec := { name := "scopeSame", fn := fun _ => fun
  | [d1, d2] => { results := [.lit (.bool true)], args := [d1, d2] }
  | _ => none }
def scopeSameRow : OpenClaim := { program := "ytamblilpfacolaa", sum := "6e83a642967af12db6f5fe993ac2132926aad7f3565873b8be6d60d116b5ff36", func := "muffle/mufflelaw07.ScopeSame", spec := "scopeSame", unfollowed := true, recurses := true, loops := true, apart := false }
def ScopeSameSaid : Prop := scopeSameRow.holds Try.pinned (OpenSpec.ofChange scopeSameSpec)

/-- ITS FALSE NEIGHBOUR: 'it returns false'. Refute it at one input. -/
def scopeSameWrong : ChangeSpec := { name := "scopeSame", fn := fun _ => fun
  | [d1, d2] => { results := [.lit (.bool false)], args := [d1, d2] }
  | _ => none }
def ScopeSameWrongFalsely : Prop := scopeSameRow.holds Try.pinned (OpenSpec.ofChange scopeSameWrong)

/-- 'mufflelaw02.LeakTerms': WHATEVER THE INPUT: true; the input reads as it did. -/
def leakTermsSpec : ChangeSpec := { name := "leakTerms", fn := fun _ => fun
  | [d] => { results := [.lit (.bool true)], args := [d] }
  | _ => none }
def leakTermsRow : OpenClaim := { program := "ytamblilpfacolaa", sum := "6e83a642967af12db6f5fe993ac2132926aad7f3565873b8be6d60d116b5ff36", func := "muffle/mufflelaw02.LeakTerms", spec := "leakTerms", unfollowed := true, recurses := true, loops := true, apart := false }
def LeakTermsSaid : Prop := leakTermsRow.holds Try.pinned (OpenSpec.ofChange leakTermsSpec)

/-- ITS FALSE NEIGHBOUR: 'it returns false'. Refute it at one input. -/
def leakTermsWrong : ChangeSpec := { name := "leakTerms", fn := fun _ => fun
  | [d] => { results := [.lit (.bool false)], args := [d] }
  | _ => none }
def LeakTermsWrongFalsely : Prop := leakTermsRow.holds Try.pinned (OpenSpec.ofChange leakTermsWrong)

/-- 'mufflelaw02.LeakBroken': WHATEVER THE INPUT: true; the input reads as it did. -/
def leakBrokenSpec : ChangeSpec := { name := "leakBroken", fn := fun _ => fun
  | [d1, d2, d3, d4] => { results := [.lit (.bool true)], args := [d1, d2, d3, d4] }
  | _ => none }
def leakBrokenRow : OpenClaim := { program := "ytamblilpfacolaa", sum := "6e83a642967af12db6f5fe993ac2132926aad7f3565873b8be6d60d116b5ff36", func := "muffle/mufflelaw02.LeakBroken", spec := "leakBroken", unfollowed := true, recurses := true, loops := true, apart := false }
def LeakBrokenSaid : Prop := leakBrokenRow.holds Try.pinned (OpenSpec.ofChange leakBrokenSpec)

/-- ITS FALSE NEIGHBOUR: 'it returns false'. Refute it at one input. -/
def leakBrokenWrong : ChangeSpec := { name := "leakBroken", fn := fun _ => fun
  | [d1, d2, d3, d4] => { results := [.lit (.bool false)], args := [d1, d2, d3, d4] }
  | _ => none }
def LeakBrokenWrongFalsely : Prop := leakBrokenRow.holds Try.pinned (OpenSpec.ofChange leakBrokenWrong)

/-- 'mufflelaw02.LeakDeep': WHATEVER THE INPUT: true; the input reads as it did. -/
def leakDeepSpec : ChangeSpec := { name := "leakDeep", fn := fun _ => fun
  | [] => { results := [.lit (.bool true)], args := [] }
  | _ => none }
def leakDeepRow : OpenClaim := { program := "ytamblilpfacolaa", sum := "6e83a642967af12db6f5fe993ac2132926aad7f3565873b8be6d60d116b5ff36", func := "muffle/mufflelaw02.LeakDeep", spec := "leakDeep", unfollowed := true, recurses := true, apart := false }
def LeakDeepSaid : Prop := leakDeepRow.holds Try.pinned (OpenSpec.ofChange leakDeepSpec)

/-- ITS FALSE NEIGHBOUR: 'it returns false'. Refute it at one input. -/
def leakDeepWrong : ChangeSpec := { name := "leakDeep", fn := fun _ => fun
  | [] => { results := [.lit (.bool false)], args := [] }
  | _ => none }
def LeakDeepWrongFalsely : Prop := leakDeepRow.holds Try.pinned (OpenSpec.ofChange leakDeepWrong)

/-- 'mufflelaw02.LeakThrough': WHATEVER THE INPUT: true; the input reads as it did. -/
def leakThroughSpec : ChangeSpec := { name := "leakThrough", fn := fun _ => fun
  | [d1, d2, d3, d4, d5] => { results := [.lit (.bool true)], args := [d1, d2, d3, d4, d5] }
  | _ => none }
def leakThroughRow : OpenClaim := { program := "ytamblilpfacolaa", sum := "6e83a642967af12db6f5fe993ac2132926aad7f3565873b8be6d60d116b5ff36", func := "muffle/mufflelaw02.LeakThrough", spec := "leakThrough", unfollowed := true, recurses := true, loops := true, apart := false }
def LeakThroughSaid : Prop := leakThroughRow.holds Try.pinned (OpenSpec.ofChange leakThroughSpec)

/-- ITS FALSE NEIGHBOUR: 'it returns false'. Refute it at one input. -/
def leakThroughWrong : ChangeSpec := { name := "leakThrough", fn := fun _ => fun
  | [d1, d2, d3, d4, d5] => { results := [.lit (.bool false)], args := [d1, d2, d3, d4, d5] }
  | _ => none }
def LeakThroughWrongFalsely : Prop := leakThroughRow.holds Try.pinned (OpenSpec.ofChange leakThroughWrong)

/-- 'mufflelaw02.LeakSame': WHATEVER THE INPUT: true; the input reads as it did. -/
def leakSameSpec : ChangeSpec := { name := "leakSame", fn := fun _ => fun
  | [d1, d2, d3, d4, d5] => { results := [.lit (.bool true)], args := [d1, d2, d3, d4, d5] }
  | _ => none }
def leakSameRow : OpenClaim := { program := "ytamblilpfacolaa", sum := "6e83a642967af12db6f5fe993ac2132926aad7f3565873b8be6d60d116b5ff36", func := "muffle/mufflelaw02.LeakSame", spec := "leakSame", unfollowed := true, recurses := true, loops := true, apart := false }
def LeakSameSaid : Prop := leakSameRow.holds Try.pinned (OpenSpec.ofChange leakSameSpec)

/-- ITS FALSE NEIGHBOUR: 'it returns false'. Refute it at one input. -/
def leakSameWrong : ChangeSpec := { name := "leakSame", fn := fun _ => fun
  | [d1, d2, d3, d4, d5] => { results := [.lit (.bool false)], args := [d1, d2, d3, d4, d5] }
  | _ => none }
def LeakSameWrongFalsely : Prop := leakSameRow.holds Try.pinned (OpenSpec.ofChange leakSameWrong)

/- THE SECOND FORM. 'bulk': how many values and letters a reading holds, each counted each time it is reached (what is shared counts as often as it is met; a slice's spare places count too). A statement '..UptoSaid' is the law's where the arguments, and the package variables that the reading takes, are together of bulk at most 1048576: NARROWER than '..Said'. Prove '..Said' where nothing that the law and all that it calls make is longer than what came in: it says more and counts as full. Else prove '..UptoSaid'. A law counts once. -/
mutual
def uptoBulk {H : Type} : DataW H → Nat
  | .lit (.string bytes) => bytes.length + 1
  | .lit _ => 1
  | .nil => 1
  | .ptr d => uptoBulk d + 1
  | .slice elems spare => uptoBulkAll elems + uptoBulkAll spare + 1
  | .agg parts => uptoBulkAll parts + 1
  | .iface _ d => uptoBulk d + 1
  | .map entries => uptoBulkEntries entries + 1
  | .held _ => 1
def uptoBulkAll {H : Type} : List (DataW H) → Nat
  | [] => 0
  | d :: r => uptoBulk d + uptoBulkAll r
def uptoBulkEntries {H : Type} : List (Lit × DataW H) → Nat
  | [] => 0
  | x :: r => uptoBulkEntry x + uptoBulkEntries r
def uptoBulkEntry {H : Type} : Lit × DataW H → Nat
  | (.string bytes, d) => bytes.length + uptoBulk d + 1
  | (_, d) => uptoBulk d + 1
 end
def uptoSmall : (H : Type) → List (DataW H) → Bool := fun _ ds => decide (uptoBulkAll ds ≤ 1048576)
def OpenSpec.upto (s : _root_.Go.ChangeSpec) : _root_.Go.OpenSpec := { _root_.Go.OpenSpec.ofChange s with cond := some uptoSmall }

/-- 'mufflelaw07.ScopeDeep', WHERE WHAT IT READS IS OF BULK AT MOST 1048576: true; the input reads as it did. -/
def scopeDeepUptoRow : OpenClaim := { program := "ytamblilpfacolaa", sum := "6e83a642967af12db6f5fe993ac2132926aad7f3565873b8be6d60d116b5ff36", func := "muffle/mufflelaw07.ScopeDeep", spec := "scopeDeep", unfollowed := true, recurses := true, apart := false, narrowed := true }
def ScopeDeepUptoSaid : Prop := scopeDeepUptoRow.holds Try.pinned (OpenSpec.upto scopeDeepSpec)

/-- 'mufflelaw07.ScopeFit', WHERE WHAT IT READS IS OF BULK AT MOST 1048576: true; the input reads as it did. -/
def scopeFitUptoRow : OpenClaim := { program := "ytamblilpfacolaa", sum := "6e83a642967af12db6f5fe993ac2132926aad7f3565873b8be6d60d116b5ff36", func := "muffle/mufflelaw07.ScopeFit", spec := "scopeFit", unfollowed := true, recurses := true, loops := true, apart := false, narrowed := true }
def ScopeFitUptoSaid : Prop := scopeFitUptoRow.holds Try.pinned (OpenSpec.upto scopeFitSpec)

/-- 'mufflelaw07.ScopeSame', WHERE WHAT IT READS IS OF BULK AT MOST 1048576: true; the input reads as it did. -/
def scopeSameUptoRow : OpenClaim := { program := "ytamblilpfacolaa", sum := "6e83a642967af12db6f5fe993ac2132926aad7f3565873b8be6d60d116b5ff36", func := "muffle/mufflelaw07.ScopeSame", spec := "scopeSame", unfollowed := true, recurses := true, loops := true, apart := false, narrowed := true }
def ScopeSameUptoSaid : Prop := scopeSameUptoRow.holds Try.pinned (OpenSpec.upto scopeSameSpec)

/-- 'mufflelaw02.LeakTerms', WHERE WHAT IT READS IS OF BULK AT MOST 1048576: true; the input reads as it did. -/
def leakTermsUptoRow : OpenClaim := { program := "ytamblilpfacolaa", sum := "6e83a642967af12db6f5fe993ac2132926aad7f3565873b8be6d60d116b5ff36", func := "muffle/mufflelaw02.LeakTerms", spec := "leakTerms", unfollowed := true, recurses := true, loops := true, apart := false, narrowed := true }
def LeakTermsUptoSaid : Prop := leakTermsUptoRow.holds Try.pinned (OpenSpec.upto leakTermsSpec)

/-- 'mufflelaw02.LeakBroken', WHERE WHAT IT READS IS OF BULK AT MOST 1048576: true; the input reads as it did. -/
def leakBrokenUptoRow : OpenClaim := { program := "ytamblilpfacolaa", sum := "6e83a642967af12db6f5fe993ac2132926aad7f3565873b8be6d60d116b5ff36", func := "muffle/mufflelaw02.LeakBroken", spec := "leakBroken", unfollowed := true, recurses := true, loops := true, apart := false, narrowed := true }
def LeakBrokenUptoSaid : Prop := leakBrokenUptoRow.holds Try.pinned (OpenSpec.upto leakBrokenSpec)

/-- 'mufflelaw02.LeakDeep', WHERE WHAT IT READS IS OF BULK AT MOST 1048576: true; the input reads as it did. -/
def leakDeepUptoRow : OpenClaim := { program := "ytamblilpfacolaa", sum := "6e83a642967af12db6f5fe993ac2132926aad7f3565873b8be6d60d116b5ff36", func := "muffle/mufflelaw02.LeakDeep", spec := "leakDeep", unfollowed := true, recurses := true, apart := false, narrowed := true }
def LeakDeepUptoSaid : Prop := leakDeepUptoRow.holds Try.pinned (OpenSpec.upto leakDeepSpec)

/-- 'mufflelaw02.LeakThrough', WHERE WHAT IT READS IS OF BULK AT MOST 1048576: true; the input reads as it did. -/
def leakThroughUptoRow : OpenClaim := { program := "ytamblilpfacolaa", sum := "6e83a642967af12db6f5fe993ac2132926aad7f3565873b8be6d60d116b5ff36", func := "muffle/mufflelaw02.LeakThrough", spec := "leakThrough", unfollowed := true, recurses := true, loops := true, apart := false, narrowed := true }
def LeakThroughUptoSaid : Prop := leakThroughUptoRow.holds Try.pinned (OpenSpec.upto leakThroughSpec)

/-- 'mufflelaw02.LeakSame', WHERE WHAT IT READS IS OF BULK AT MOST 1048576: true; the input reads as it did. -/
def leakSameUptoRow : OpenClaim := { program := "ytamblilpfacolaa", sum := "6e83a642967af12db6f5fe993ac2132926aad7f3565873b8be6d60d116b5ff36", func := "muffle/mufflelaw02.LeakSame", spec := "leakSame", unfollowed := true, recurses := true, loops := true, apart := false, narrowed := true }
def LeakSameUptoSaid : Prop := leakSameUptoRow.holds Try.pinned (OpenSpec.upto leakSameSpec)

end Rows
end Go.Proofs.Ytamblilpfacolaa
