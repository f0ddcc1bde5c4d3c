/- Linear code: its data; rising lists; what is live (no program in sight). -/
import Derived.Test.YtganjkhdlehhdaaGreatG1toG3
import Derived.Test.YtganjkhdlehhdaaGreatFwRowtoME6
import Derived.Test.YtganjkhdlehhdaaGreatW2toW3
set_option linter.unusedVariables false
set_option linter.unusedSimpArgs false
set_option maxHeartbeats 4000000
set_option maxRecDepth 100000
namespace Go.Proofs
open Go.Mu
@[ext] structure Ins where
  (kind op d a b c word : Int)
  stack : Bool
deriving DecidableEq
@[ext] structure Line where
  kind : Int
  ins : Ins
  (var label : Int)
deriving DecidableEq
structure Linear where
  vars : Int
  params : List Int
  rets : List Int
  frame : Int
  code : List Line
deriving DecidableEq
def putI (n : Int) : List Int → List Int
  | [] => [n]
  | x :: l => if x = n then x :: l else if n < x then n :: x :: l else x :: putI n l
def riseL (l : List Int) : List Int := l.foldl (fun l n => putI n l) []
def Line.raw (x : Line) : List Int :=
  if x.kind = 4 then [x.var]
  else if x.kind = 1 then
    if x.ins.kind = 2 then [x.ins.a]
    else if x.ins.kind = 3 then [x.ins.a] ++ (if x.ins.op = 4 ∨ x.ins.op = 5 then [] else [x.ins.b]) ++ (if x.ins.op = 21 then [x.ins.c] else [])
    else if x.ins.kind = 5 then [x.ins.b] ++ (if 0 ≤ x.ins.a then [x.ins.a] else [])
    else if x.ins.kind = 4 then (if 0 ≤ x.ins.a then [x.ins.a] else [])
    else []
  else []
def Line.uses (x : Line) : List Int := riseL x.raw
def Line.defs (x : Line) : List Int := if x.kind = 1 ∧ x.ins.kind ≠ 5 then [x.ins.d] else []
def isLab (lab : Int) (x : Line) : Bool := x.kind == 2 && x.label == lab
def whr (c : List Line) (lab : Int) : Nat := c.findIdx (isLab lab)
def nxt (l : Linear) (i : Nat) : List Int := match l.code[i]? with
  | none => []
  | some x => if x.kind = 5 then [(l.code.length : Int)] else if x.kind = 3 then [(whr l.code x.label : Int)] else if x.kind = 4 then riseL [(i : Int) + 1, (whr l.code x.label : Int)] else [(i : Int) + 1]
inductive LiveAt (l : Linear) : Nat → Int → Prop
  | told {v : Int} : v ∈ l.rets → LiveAt l l.code.length v
  | read {i : Nat} {x : Line} {v : Int} : l.code[i]? = some x → v ∈ x.raw → LiveAt l i v
  | way {i k : Nat} {x : Line} {v : Int} : l.code[i]? = some x → v ∉ x.defs → (k : Int) ∈ nxt l i → LiveAt l k v → LiveAt l i v
noncomputable def liveL (l : Linear) (i : Nat) : List Int := ((List.range l.vars.toNat).map fun n : Nat => (n : Int)).filter fun v => @decide (LiveAt l i v) (Classical.propDecidable _)
end Go.Proofs
namespace Go.Proofs
open Go.Mu
def isVr (n vars : Int) : Bool := decide (0 ≤ n) && decide (n < vars)
def arityI (op : Int) : Int := if op = 4 ∨ op = 5 then 1 else if 6 ≤ op ∧ op ≤ 20 then 2 else if op = 21 then 3 else 0
def insOk (vars : Int) (x : Ins) : Bool :=
  (x.kind == 1 && isVr x.d vars && x.op == 0 && x.a == 0 && x.b == 0 && x.c == 0 && !x.stack) ||
  (x.kind == 2 && isVr x.d vars && isVr x.a vars && x.op == 0 && x.b == 0 && x.c == 0 && x.word == 0 && !x.stack) ||
  (x.kind == 3 && isVr x.d vars && isVr x.a vars && x.word == 0 && !x.stack &&
    ((arityI x.op == 1 && x.b == 0 && x.c == 0) || (arityI x.op == 2 && isVr x.b vars && x.c == 0) || (arityI x.op == 3 && isVr x.b vars && isVr x.c vars))) ||
  (x.kind == 4 && isVr x.d vars && (x.a == -1 || isVr x.a vars) && x.op == 0 && x.b == 0 && x.c == 0) ||
  (x.kind == 5 && x.d == 0 && (x.a == -1 || isVr x.a vars) && isVr x.b vars && x.op == 0 && x.c == 0)
def zeroIns : Ins := ⟨0, 0, 0, 0, 0, 0, 0, false⟩
def lineOk (vars : Int) (x : Line) : Bool :=
  if x.kind = 1 then insOk vars x.ins && (x.var == 0 && x.label == 0)
  else if x.kind = 2 ∨ x.kind = 3 then decide (x.ins = zeroIns) && x.var == 0 && decide (0 ≤ x.label)
  else if x.kind = 4 then decide (x.ins = zeroIns) && isVr x.var vars && decide (0 ≤ x.label)
  else if x.kind = 5 then decide (x.ins = zeroIns) && x.var == 0 && x.label == 0
  else false
structure LinOk (l : Linear) : Prop where
  len : l.code.length ≤ 65536
  vars : 0 ≤ l.vars ∧ l.vars ≤ 16384
  params : ∀ v ∈ l.params, 0 ≤ v ∧ v < l.vars
  once : l.params.Nodup
  rets : ∀ v ∈ l.rets, 0 ≤ v ∧ v < l.vars
  retl : l.rets.length ≤ 16384
  lines : ∀ x ∈ l.code, lineOk l.vars x = true
  uniq : ∀ i x, l.code[i]? = some x → x.kind = 2 → whr l.code x.label = i
  jump : ∀ x ∈ l.code, x.kind = 3 ∨ x.kind = 4 → whr l.code x.label < l.code.length
end Go.Proofs
namespace Go.Proofs
open Go.Mu
noncomputable def behL (l : Linear) (i : Nat) : List Int := riseL ((nxt l i).flatMap fun k => liveL l k.toNat)
def rg (regs : List Int) (v : Int) : Int := regs.getD v.toNat 0
end Go.Proofs
namespace Go.Proofs
open Go.Mu
end Go.Proofs
namespace Go.Proofs
open Go.Mu
end Go.Proofs
namespace Go.Proofs
open Go.Mu
def vg (V : List Int) (i : Int) : Int := V.getD i.toNat 0
structure DoR where
  (V b : List Int)
  addr : Int
  seen : Bool
  err : Int
structure Se where
  (jump taken : Bool)
  addr : Int
deriving DecidableEq
@[simp] def Se.cells (s : Se) : List AV := [Bo s.jump, Bo s.taken, U s.addr]
abbrev Se.sl (l : List Se) : AV := .vs 3 (l.map Se.cells)
structure RSt where
  (V b : List Int)
  i : Nat
  seen : List Se
structure Ran where
  rets : List Int
  seen : List Se
  steps : Nat
  err : Int
  b : List Int
theorem wU_rng (n : Int) : 0 ≤ wU n ∧ wU n < 2^64 := by
  unfold wU
  simp only [IntKind.wrap, IntKind.bits, IntKind.signed]
  have h : (2 : Int) ^ 64 = 18446744073709551616 := by decide
  simp only [Bool.false_and, Bool.false_eq_true, if_false]
  omega
end Go.Proofs
namespace Go.Proofs
open Go.Mu
abbrev rowU (V : List Int) : Blk := .row 23 1 (V.map fun x => [U x])
structure GG (M : List Blk) (k kb kv n : Nat) (lay : List Rg) (G : List Int → List Int → List Blk) : Prop where
  len : ∀ V b, (G V b).length = M.length
  v : ∀ V b L, (G V b ++ L)[kv]? = some (rowU V)
  m : ∀ V b L, b.length = 65536 → MemAt (G V b ++ L) k kb lay b
  sv : ∀ V V' b L, (G V b ++ L).set kv (rowU V') = G V' b ++ L
  sb : ∀ V b b' L, (G V b ++ L).set kb (byB b') = G V b' ++ L
  get : ∀ V b L i, i ≠ kv → i ≠ kb → i < M.length → (G V b ++ L)[i]? = M[i]?
  und : ∀ V b, underH M.length M = true → underH (G V b).length (G V b) = true
theorem by_under (n : Nat) (b : List Int) : (byB b).under n = true := by
  simp only [Blk.under]
  exact underL_frzB _ _ (fun c hc => by obtain ⟨x, _, rfl⟩ := List.mem_map.1 hc; rfl)
theorem vg_at {V : List Int} {i : Int} (h0 : 0 ≤ i) (h : i < V.length) : V[i.toNat]? = some (vg V i) := getD_at (by omega)
inductive InsK (vars : Int) (x : Ins) : Prop
  | word (h : x.kind = 1) (d : 0 ≤ x.d ∧ x.d < vars) (s : x.stack = false)
  | move (h : x.kind = 2) (d : 0 ≤ x.d ∧ x.d < vars) (a : 0 ≤ x.a ∧ x.a < vars) (s : x.stack = false)
  | op (h : x.kind = 3) (d : 0 ≤ x.d ∧ x.d < vars) (a : 0 ≤ x.a ∧ x.a < vars) (b : 0 ≤ x.b ∧ x.b < vars) (c : 0 ≤ x.c ∧ x.c < vars) (r : wArgN x.op = 1 ∨ wArgN x.op = 2 ∨ wArgN x.op = 3) (s : x.stack = false)
  | load (h : x.kind = 4) (d : 0 ≤ x.d ∧ x.d < vars) (a : x.a = -1 ∨ 0 ≤ x.a ∧ x.a < vars)
  | store (h : x.kind = 5) (a : x.a = -1 ∨ 0 ≤ x.a ∧ x.a < vars) (b : 0 ≤ x.b ∧ x.b < vars)
end Go.Proofs
