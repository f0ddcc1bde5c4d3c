/- The document's data, as lists of abstract values; and what is used everywhere. -/
import Derived.Test.YteoimifnfkpdeaaTaFacts
import Derived.Test.YteoimifnfkpdeaaFwO
set_option linter.unusedVariables false
set_option linter.unusedSimpArgs false
namespace Go.Proofs
open Go.Mu
abbrev I (n : Int) : AV := .v (.int .i64 n)
abbrev U (n : Int) : AV := .v (.int .u64 n)
abbrev Bo (b : Bool) : AV := .v (.bool b)

@[ext] structure Ins where
  (kind op d a b c word : Int)
  stack : Bool
deriving DecidableEq
@[ext] structure Line where
  kind : Int
  ins : Ins
  (var label : Int)
deriving DecidableEq
inductive Node where
  | mk (kind : Int) (ins : Ins) (cond : Int) (ahead body els : List Node)
structure Flat where
  vars : Int
  params : List Int
  rets : List Int
  frame : Int
  code : List Node
structure Linear where
  vars : Int
  params : List Int
  rets : List Int
  frame : Int
  code : List Line
deriving DecidableEq
@[simp] def Ins.cells (i : Ins) : List AV := [I i.kind, I i.op, I i.d, I i.a, I i.b, I i.c, U i.word, Bo i.stack]
@[simp] def Line.cells (l : Line) : List AV := [I l.kind, I l.ins.kind, I l.ins.op, I l.ins.d, I l.ins.a, I l.ins.b, I l.ins.c, U l.ins.word, Bo l.ins.stack, I l.var, I l.label]
mutual
def Node.cells : Node → List AV
  | .mk k i c a b e => [I k, I i.kind, I i.op, I i.d, I i.a, I i.b, I i.c, U i.word, Bo i.stack, I c, .vs 13 (nodeCells a), .vs 13 (nodeCells b), .vs 13 (nodeCells e)]
def nodeCells : List Node → List (List AV)
  | [] => []
  | n :: l => n.cells :: nodeCells l
end
theorem nodeCells_map (l : List Node) : nodeCells l = l.map Node.cells := by
  induction l with
  | nil => simp [nodeCells]
  | cons n l ih => simp [nodeCells, ih]
abbrev Line.sl (l : List Line) : AV := .vs 11 (l.map Line.cells)
abbrev Int.sl (l : List Int) : AV := .vs 1 (l.map fun n => [I n])
abbrev Node.sl (l : List Node) : AV := .vs 13 (l.map Node.cells)
@[simp] def Flat.cells (f : Flat) : List AV := [I f.vars, Int.sl f.params, Int.sl f.rets, I f.frame, Node.sl f.code]
@[simp] def Linear.cells (f : Linear) : List AV := [I f.vars, Int.sl f.params, Int.sl f.rets, I f.frame, Line.sl f.code]
def Node.kind : Node → Int | .mk k _ _ _ _ _ => k
def Node.ins : Node → Ins | .mk _ i _ _ _ _ => i
def Node.cond : Node → Int | .mk _ _ c _ _ _ => c
def Node.ahead : Node → List Node | .mk _ _ _ a _ _ => a
def Node.body : Node → List Node | .mk _ _ _ _ b _ => b
def Node.els : Node → List Node | .mk _ _ _ _ _ e => e
@[simp] theorem Node.cells_eq (n : Node) : n.cells = [I n.kind, I n.ins.kind, I n.ins.op, I n.ins.d, I n.ins.a, I n.ins.b, I n.ins.c, U n.ins.word, Bo n.ins.stack, I n.cond, Node.sl n.ahead, Node.sl n.body, Node.sl n.els] := by
  cases n; simp [Node.cells, nodeCells_map, Node.kind, Node.ins, Node.cond, Node.ahead, Node.body, Node.els]

theorem wrapI {n : Int} (h1 : -9223372036854775808 ≤ n) (h2 : n ≤ 9223372036854775807) : IntKind.i64.wrap n = n := by
  simp [IntKind.wrap, IntKind.bits, IntKind.signed]
  omega
theorem wrapU {n : Int} (h1 : 0 ≤ n) (h2 : n ≤ 18446744073709551615) : IntKind.u64.wrap n = n := by
  simp [IntKind.wrap, IntKind.bits, IntKind.signed]
  omega
theorem drop_cons {α : Type} {l : List α} {i : Nat} (h : i < l.length) : l.drop i = l[i] :: l.drop (i + 1) := List.drop_eq_getElem_cons h
theorem drop_end {α : Type} {l : List α} {i : Nat} (h : ¬ i < l.length) : l.drop i = [] := List.drop_of_length_le (by omega)
theorem wrapS {i : Nat} (h : i < 4611686018427387904) : IntKind.i64.wrap ((i : Int) + 1) = ((i + 1 : Nat) : Int) := by
  rw [wrapI (by omega) (by omega)]; rfl
/-- The first place, from i on, where something holds; -1: none. -/
def idxP {α : Type} (p : α → Bool) : List α → Int → Int
  | [], _ => -1
  | a :: l, i => if p a then i else idxP p l (i + 1)
theorem idxP_any {α : Type} (p : α → Bool) : ∀ (l : List α) (i : Int), 0 ≤ i → decide (0 ≤ idxP p l i) = l.any p
  | [], i, h => by simp [idxP]
  | a :: l, i, h => by
    simp only [idxP, List.any_cons]
    split
    · rename_i hp; simp [hp, h]
    · rename_i hp; simp [hp, idxP_any p l (i + 1) (by omega)]

mutual
/-- How many nodes there are. -/
def Node.count : Node → Nat
  | .mk _ _ _ a b e => 1 + nodesCount a + nodesCount b + nodesCount e
def nodesCount : List Node → Nat
  | [] => 0
  | n :: l => n.count + nodesCount l
end
theorem Node.count_eq (n : Node) : n.count = 1 + nodesCount n.ahead + nodesCount n.body + nodesCount n.els := by cases n; rfl
theorem nodesCount_drop {l : List Node} {i : Nat} (h : i < l.length) : nodesCount (l.drop i) = l[i].count + nodesCount (l.drop (i + 1)) := by rw [drop_cons h, nodesCount]
theorem nodesCount_le (l : List Node) (i : Nat) : nodesCount (l.drop i) ≤ nodesCount l := by
  induction l generalizing i with
  | nil => simp
  | cons n l ih => cases i with
    | zero => simp
    | succ i => simp only [List.drop_succ_cons, nodesCount]; have := ih i; omega
theorem nodes_len (l : List Node) : l.length ≤ nodesCount l := by
  induction l with
  | nil => simp
  | cons n l ih => simp only [List.length_cons, nodesCount, Node.count_eq]; omega
theorem node_parts {l : List Node} {i : Nat} (h : i < l.length) : nodesCount l[i].ahead < nodesCount l ∧ nodesCount l[i].body < nodesCount l ∧ nodesCount l[i].els < nodesCount l := by
  have h1 := nodesCount_drop h
  have h2 := nodesCount_le l i
  rw [Node.count_eq] at h1
  omega
mutual
/-- How deep nodes are nested. -/
def Node.deep : Node → Nat
  | .mk _ _ _ a b e => 1 + max (nodesDeep a) (max (nodesDeep b) (nodesDeep e))
def nodesDeep : List Node → Nat
  | [] => 0
  | n :: l => max n.deep (nodesDeep l)
end
theorem Node.deep_eq (n : Node) : n.deep = 1 + max (nodesDeep n.ahead) (max (nodesDeep n.body) (nodesDeep n.els)) := by cases n; rfl
theorem nodesDeep_drop {l : List Node} {i : Nat} (h : i < l.length) : nodesDeep (l.drop i) = max l[i].deep (nodesDeep (l.drop (i + 1))) := by rw [drop_cons h, nodesDeep]
theorem deep_count : ∀ (n : Nat) (l : List Node), nodesCount l ≤ n → nodesDeep l ≤ nodesCount l := by
  intro n
  induction n with
  | zero => intro l hl; have := nodes_len l; have : l = [] := List.eq_nil_of_length_eq_zero (by omega); subst this; simp [nodesDeep]
  | succ n ih =>
    intro l
    induction l with
    | nil => simp [nodesDeep]
    | cons x l ihl =>
      intro hl
      simp only [nodesCount, nodesDeep, Node.count_eq, Node.deep_eq] at hl ⊢
      have h1 := ih x.ahead (by omega); have h2 := ih x.body (by omega); have h3 := ih x.els (by omega); have h4 := ihl (by omega)
      omega
end Go.Proofs
