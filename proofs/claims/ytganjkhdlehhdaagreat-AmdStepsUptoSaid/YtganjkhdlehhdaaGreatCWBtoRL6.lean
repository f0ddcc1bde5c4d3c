/- What is live, as sets that grow (no program in sight but the memory they lie in). -/
import Derived.Test.YtganjkhdlehhdaaGreatFwSeqNtoCWA
import Derived.Test.YtganjkhdlehhdaaGreatRL4toAMS
set_option linter.unusedVariables false
set_option linter.unusedSimpArgs false
set_option maxHeartbeats 4000000
set_option maxRecDepth 100000
namespace Go.Proofs
open Go.Mu
structure GoodS (l : Linear) (S : Nat → List Int) : Prop where
  once : ∀ i, i ≤ l.code.length → (S i).Nodup
  live : ∀ i, i ≤ l.code.length → ∀ v ∈ S i, LiveAt l i v
  rets : ∀ v ∈ l.rets, v ∈ S l.code.length
end Go.Proofs
namespace Go.Proofs
open Go.Mu
end Go.Proofs
namespace Go.Proofs
open Go.Mu
end Go.Proofs
namespace Go.Proofs
open Go.Mu
end Go.Proofs
namespace Go.Proofs
open Go.Mu
structure Srch (l : Linear) (i : Nat) (v : Int) (sn : List Bool) (td : List Int) : Prop where
  len : sn.length = l.code.length + 1
  bnd : ∀ k ∈ td, 0 ≤ k ∧ k ≤ l.code.length
  sound : ∀ k ∈ td, LiveAt l k.toNat v → LiveAt l i v
  start : sn[i]? = some true ∨ (i : Int) ∈ td
  done : ∀ k : Nat, sn[k]? = some true → (k = l.code.length → v ∉ l.rets) ∧ ∀ x, l.code[k]? = some x → v ∉ x.raw ∧ (v ∉ x.defs → ∀ j ∈ nxt l k, sn[j.toNat]? = some true ∨ j ∈ td)
end Go.Proofs
namespace Go.Proofs
open Go.Mu
end Go.Proofs
namespace Go.Proofs
open Go.Mu
end Go.Proofs
namespace Go.Proofs
open Go.Mu
end Go.Proofs
namespace Go.Proofs
open Go.Mu
structure RBeg (l : Linear) (regs : List Int) : Prop where
  len : (regs.length : Int) = l.vars
  rng : ∀ n ∈ regs, -1 ≤ n ∧ n < 11
  has : ∀ p ∈ l.params, 0 ≤ rg regs p
  once : ∀ (i k : Nat) (p q : Int), l.params[i]? = some p → l.params[k]? = some q → k ≠ i → rg regs q ≠ rg regs p
  live : ∀ v ∈ liveL l 0, v ∉ l.params → 0 ≤ rg regs v ∧ ∀ p ∈ l.params, rg regs p ≠ rg regs v
structure RRight (l : Linear) (regs : List Int) (i : Nat) (x : Line) : Prop where
  uses : ∀ v ∈ x.uses, 0 ≤ rg regs v
  defs : ∀ d ∈ x.defs, 0 ≤ rg regs d ∧ ∀ b ∈ behL l i, b ≠ d → rg regs b = rg regs d → x.ins.kind = 2 ∧ x.ins.a = b
end Go.Proofs
namespace Go.Proofs
open Go.Mu
end Go.Proofs
namespace Go.Proofs
open Go.Mu
structure ChkOk (l : Linear) (regs : List Int) : Prop where
  beg : RBeg l regs
  nd : (l.params.map (rg regs)).Nodup
  right : ∀ i x, l.code[i]? = some x → RRight l regs i x
  rets : ∀ v ∈ l.rets, 0 ≤ rg regs v
section
variable {l : Linear} {regs : List Int}
structure Sim (l : Linear) (regs : List Int) (i : Nat) (V V' : List Int) : Prop where
  v : (V.length : Int) ≥ l.vars
  v' : V'.length = 11
  eq : ∀ v, LiveAt l i v → vg V v = vg V' (rg regs v)
end
end Go.Proofs
