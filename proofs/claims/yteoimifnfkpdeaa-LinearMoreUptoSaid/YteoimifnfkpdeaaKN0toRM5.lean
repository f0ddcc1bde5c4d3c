/- The document's data, as lists of abstract values; and what is used everywhere. -/
import Derived.Test.YteoimifnfkpdeaaFacts
import Derived.Test.YteoimifnfkpdeaaFwOtoFwP
import Derived.Test.YteoimifnfkpdeaaFwJmptoRM4
import Derived.Test.YteoimifnfkpdeaaRM1
set_option linter.unusedVariables false
set_option linter.unusedSimpArgs false
set_option maxHeartbeats 4000000
set_option maxRecDepth 100000
namespace Go.Proofs.Lm
open Go.Mu
abbrev I (n : Int) : AV := .v (.int .i64 n)
abbrev U (n : Int) : AV := .v (.int .u64 n)
abbrev Bo (b : Bool) : AV := .v (.bool b)
@[ext] structure Ins where
  (kind op d a b c word : Int)
  stack : Bool
deriving DecidableEq
@[ext] structure Line where
  kind : Int
  ins : Ins
  (var label : Int)
deriving DecidableEq
inductive Node where
  | mk (kind : Int) (ins : Ins) (cond : Int) (ahead body els : List Node)
structure Flat where
  vars : Int
  params : List Int
  rets : List Int
  frame : Int
  code : List Node
structure Linear where
  vars : Int
  params : List Int
  rets : List Int
  frame : Int
  code : List Line
deriving DecidableEq
@[simp] def Ins.cells (i : Ins) : List AV := [I i.kind, I i.op, I i.d, I i.a, I i.b, I i.c, U i.word, Bo i.stack]
@[simp] def Line.cells (l : Line) : List AV := [I l.kind, I l.ins.kind, I l.ins.op, I l.ins.d, I l.ins.a, I l.ins.b, I l.ins.c, U l.ins.word, Bo l.ins.stack, I l.var, I l.label]
mutual
def Node.cells : Node → List AV
  | .mk k i c a b e => [I k, I i.kind, I i.op, I i.d, I i.a, I i.b, I i.c, U i.word, Bo i.stack, I c, .vs 13 (nodeCells a), .vs 13 (nodeCells b), .vs 13 (nodeCells e)]
def nodeCells : List Node → List (List AV)
  | [] => []
  | n :: l => n.cells :: nodeCells l
end
theorem nodeCells_map (l : List Node) : nodeCells l = l.map Node.cells := by
  induction l with
  | nil => simp [nodeCells]
  | cons n l ih => simp [nodeCells, ih]
abbrev Line.sl (l : List Line) : AV := .vs 11 (l.map Line.cells)
abbrev Int.sl (l : List Int) : AV := .vs 1 (l.map fun n => [I n])
abbrev Node.sl (l : List Node) : AV := .vs 13 (l.map Node.cells)
@[simp] def Flat.cells (f : Flat) : List AV := [I f.vars, Int.sl f.params, Int.sl f.rets, I f.frame, Node.sl f.code]
@[simp] def Linear.cells (f : Linear) : List AV := [I f.vars, Int.sl f.params, Int.sl f.rets, I f.frame, Line.sl f.code]
def Node.kind : Node → Int | .mk k _ _ _ _ _ => k
def Node.ins : Node → Ins | .mk _ i _ _ _ _ => i
def Node.cond : Node → Int | .mk _ _ c _ _ _ => c
def Node.ahead : Node → List Node | .mk _ _ _ a _ _ => a
def Node.body : Node → List Node | .mk _ _ _ _ b _ => b
def Node.els : Node → List Node | .mk _ _ _ _ _ e => e
@[simp] theorem Node.cells_eq (n : Node) : n.cells = [I n.kind, I n.ins.kind, I n.ins.op, I n.ins.d, I n.ins.a, I n.ins.b, I n.ins.c, U n.ins.word, Bo n.ins.stack, I n.cond, Node.sl n.ahead, Node.sl n.body, Node.sl n.els] := by
  cases n; simp [Node.cells, nodeCells_map, Node.kind, Node.ins, Node.cond, Node.ahead, Node.body, Node.els]
theorem wrapI {n : Int} (h1 : -9223372036854775808 ≤ n) (h2 : n ≤ 9223372036854775807) : IntKind.i64.wrap n = n := by
  simp [IntKind.wrap, IntKind.bits, IntKind.signed]
  omega
theorem drop_cons {α : Type} {l : List α} {i : Nat} (h : i < l.length) : l.drop i = l[i] :: l.drop (i + 1) := List.drop_eq_getElem_cons h
theorem drop_end {α : Type} {l : List α} {i : Nat} (h : ¬ i < l.length) : l.drop i = [] := List.drop_of_length_le (by omega)
theorem wrapS {i : Nat} (h : i < 4611686018427387904) : IntKind.i64.wrap ((i : Int) + 1) = ((i + 1 : Nat) : Int) := by
  rw [wrapI (by omega) (by omega)]; rfl
def idxP {α : Type} (p : α → Bool) : List α → Int → Int
  | [], _ => -1
  | a :: l, i => if p a then i else idxP p l (i + 1)
theorem idxP_any {α : Type} (p : α → Bool) : ∀ (l : List α) (i : Int), 0 ≤ i → decide (0 ≤ idxP p l i) = l.any p
  | [], i, h => by simp [idxP]
  | a :: l, i, h => by
    simp only [idxP, List.any_cons]
    split
    · rename_i hp; simp [hp, h]
    · rename_i hp; simp [hp, idxP_any p l (i + 1) (by omega)]
mutual
def Node.count : Node → Nat
  | .mk _ _ _ a b e => 1 + nodesCount a + nodesCount b + nodesCount e
def nodesCount : List Node → Nat
  | [] => 0
  | n :: l => n.count + nodesCount l
end
theorem Node.count_eq (n : Node) : n.count = 1 + nodesCount n.ahead + nodesCount n.body + nodesCount n.els := by cases n; rfl
theorem nodesCount_drop {l : List Node} {i : Nat} (h : i < l.length) : nodesCount (l.drop i) = l[i].count + nodesCount (l.drop (i + 1)) := by rw [drop_cons h, nodesCount]
theorem nodesCount_le (l : List Node) (i : Nat) : nodesCount (l.drop i) ≤ nodesCount l := by
  induction l generalizing i with
  | nil => simp
  | cons n l ih => cases i with
    | zero => simp
    | succ i => simp only [List.drop_succ_cons, nodesCount]; have := ih i; omega
theorem nodes_len (l : List Node) : l.length ≤ nodesCount l := by
  induction l with
  | nil => simp
  | cons n l ih => simp only [List.length_cons, nodesCount, Node.count_eq]; omega
theorem node_parts {l : List Node} {i : Nat} (h : i < l.length) : nodesCount l[i].ahead < nodesCount l ∧ nodesCount l[i].body < nodesCount l ∧ nodesCount l[i].els < nodesCount l := by
  have h1 := nodesCount_drop h
  have h2 := nodesCount_le l i
  rw [Node.count_eq] at h1
  omega
end Go.Proofs.Lm
namespace Go.Proofs.Lm
open Go.Mu
def arity (op : Int) : Int := if op = 4 ∨ op = 5 then 1 else if 6 ≤ op ∧ op ≤ 20 then 2 else if op = 21 then 3 else 0
def isV (n vars : Int) : Bool := decide (0 ≤ n) && decide (n < vars)
theorem index_ok (l : List Int) (x : Int) (H : List Blk) (hl : l.length ≤ 2^40) : ACalls Try.prog 94 [Int.sl l, I x] H (fun e H' => e = .ret (I (idxP (x == ·) l 0)) ∧ H' = H) := by
  refine acalls_of_vc (hn := fun _ => false) (od := fun _ => none) Try.func94 rfl (by kernel_rfl) ?_
  simp -dsimp
  refine loop_rule (hn := fun _ => false) (od := fun _ => none) (fun (i : Nat) f H' => H' = H ∧ f 0 = Int.sl l ∧ f 1 = I x ∧ f 7 = I l.length ∧ f 8 = I i ∧ i ≤ l.length ∧ idxP (x == ·) (l.drop i) i = idxP (x == ·) l 0) (fun i => l.length - i) (by kernel_rfl) 0 (by simp) ?_
  rintro i f H' ⟨rfl, h0, h1, h7, h8, hi, ht⟩
  simp -dsimp [h0, h1, h7, h8]
  refine condVW_introD (fun hlt => ?_) (fun hlt => ?_)
  · simp -dsimp [h0, h1, h7, h8, List.getElem?_eq_getElem, hlt]
    rw [drop_cons hlt] at ht
    simp only [idxP] at ht
    repeat' ((with_reducible first | refine And.intro ?_ ?_ | refine guardVW_introTD (fun _ => ?_) (fun _ => ?_) | refine guardVW_introFD (fun _ => ?_) (fun _ => ?_) | refine condVW_introD (fun _ => ?_) (fun _ => ?_) | refine guardVW_introTE (fun _ => ?_) (fun _ _ _ => ?_) | refine guardVW_introFE (fun _ => ?_) (fun _ _ _ => ?_) | refine condVW_introE (fun _ => ?_) (fun _ _ _ => ?_) | refine guardVW_introTNE (fun _ _ _ => ?_) (fun _ => ?_) | refine guardVW_introFNE (fun _ _ _ => ?_) (fun _ => ?_) | refine condVW_introNE (fun _ _ _ => ?_) (fun _ => ?_) | refine guardVW_introTB (fun _ => ?_) (fun _ => ?_) | refine guardVW_introFB (fun _ => ?_) (fun _ => ?_) | refine condVW_introB (fun _ => ?_) (fun _ => ?_) | refine guardVW_introT (fun _ => ?_) (fun _ => ?_) | refine guardVW_introF (fun _ => ?_) (fun _ => ?_) | refine condVW_intro (fun _ => ?_) (fun _ => ?_)) <;> simp -dsimp [*])
    · rename_i h; subst h; rw [← ht]; simp
    · rw [if_neg (by simp; omega)] at ht
      exact ⟨i + 1, by omega, wrapS (by omega), by omega, ht⟩
  · simp -dsimp [h0, h1, h7, h8]
    rw [drop_end hlt] at ht
    exact ht
theorem contains_ok (l : List Int) (x : Int) (H : List Blk) (hl : l.length ≤ 2^40) : ACalls Try.prog 67 [Int.sl l, I x] H (fun e H' => e = .ret (Bo (decide (x ∈ l))) ∧ H' = H) := by
  refine acalls_of_vc (hn := fun _ => false) (od := fun _ => none) Try.func67 rfl (by kernel_rfl) ?_
  simp -dsimp
  refine acallsW_det (index_ok _ _ _ hl) ?_
  simp -dsimp
  have := idxP_any (x == ·) l 0 (by omega)
  rw [Bool.eq_iff_iff] at this
  simpa [List.any_eq] using this
theorem indexFunc_ok {g : FuncId} {cap : List AV} (p : Int → Bool) (l : List Int) (H : List Blk) (hl : l.length ≤ 2^40) (hg : okFn Try.prog g = true) (hp : ∀ x ∈ l, ACalls Try.prog g (I x :: cap) H (fun e H' => e = .ret (Bo (p x)) ∧ H' = H)) :
    ACalls Try.prog 95 [Int.sl l, .fn (.func g) [] cap] H (fun e H' => e = .ret (I (idxP p l 0)) ∧ H' = H) := by
  refine acalls_of_vc (hn := fun _ => false) (od := fun _ => none) Try.func95 rfl (by kernel_rfl) ?_
  simp -dsimp
  refine loop_rule (hn := fun _ => false) (od := fun _ => none) (fun (i : Nat) f H' => H' = H ∧ f 0 = Int.sl l ∧ f 1 = .fn (.func g) [] cap ∧ f 7 = I l.length ∧ f 8 = I i ∧ i ≤ l.length ∧ idxP p (l.drop i) i = idxP p l 0) (fun i => l.length - i) (by kernel_rfl) 0 (by simp) ?_
  rintro i f H' ⟨rfl, h0, h1, h7, h8, hi, ht⟩
  simp -dsimp [h0, h1, h7, h8]
  refine condVW_introD (fun hlt => ?_) (fun hlt => ?_)
  · simp -dsimp [h0, h1, h7, h8, List.getElem?_eq_getElem, hlt, hg]
    rw [drop_cons hlt] at ht
    simp only [idxP] at ht
    refine acallsW_det (hp _ (List.getElem_mem hlt)) ?_
    simp -dsimp [h0, h1, h7, h8]
    repeat' ((with_reducible first | refine And.intro ?_ ?_ | refine guardVW_introTD (fun _ => ?_) (fun _ => ?_) | refine guardVW_introFD (fun _ => ?_) (fun _ => ?_) | refine condVW_introD (fun _ => ?_) (fun _ => ?_) | refine guardVW_introTE (fun _ => ?_) (fun _ _ _ => ?_) | refine guardVW_introFE (fun _ => ?_) (fun _ _ _ => ?_) | refine condVW_introE (fun _ => ?_) (fun _ _ _ => ?_) | refine guardVW_introTNE (fun _ _ _ => ?_) (fun _ => ?_) | refine guardVW_introFNE (fun _ _ _ => ?_) (fun _ => ?_) | refine condVW_introNE (fun _ _ _ => ?_) (fun _ => ?_) | refine guardVW_introTB (fun _ => ?_) (fun _ => ?_) | refine guardVW_introFB (fun _ => ?_) (fun _ => ?_) | refine condVW_introB (fun _ => ?_) (fun _ => ?_) | refine guardVW_introT (fun _ => ?_) (fun _ => ?_) | refine guardVW_introF (fun _ => ?_) (fun _ => ?_) | refine condVW_intro (fun _ => ?_) (fun _ => ?_)) <;> simp -dsimp [*])
    · rw [← ht]; simp [*]
    · rw [if_neg (by simp [*])] at ht
      exact ⟨i + 1, by omega, wrapS (by omega), by omega, ht⟩
  · simp -dsimp [h0, h1, h7, h8]
    rw [drop_end hlt] at ht
    exact ht
theorem containsFunc_ok {g : FuncId} {cap : List AV} (p : Int → Bool) (l : List Int) (H : List Blk) (hl : l.length ≤ 2^40) (hg : okFn Try.prog g = true) (hp : ∀ x ∈ l, ACalls Try.prog g (I x :: cap) H (fun e H' => e = .ret (Bo (p x)) ∧ H' = H)) :
    ACalls Try.prog 68 [Int.sl l, .fn (.func g) [] cap] H (fun e H' => e = .ret (Bo (l.any p)) ∧ H' = H) := by
  refine acalls_of_vc (hn := fun _ => false) (od := fun _ => none) Try.func68 rfl (by kernel_rfl) ?_
  simp -dsimp
  refine acallsW_det (indexFunc_ok p _ _ hl hg hp) ?_
  simp -dsimp
  rw [idxP_any _ _ _ (by omega)]
theorem sameInts_ok (a b : List Int) (H : List Blk) (hl : a.length ≤ 2^40) : ACalls Try.prog 42 [Int.sl a, Int.sl b] H (fun e H' => e = .ret (Bo (decide (a = b))) ∧ H' = H) := by
  refine acalls_of_vc (hn := fun _ => false) (od := fun _ => none) Try.func42 rfl (by kernel_rfl) ?_
  simp -dsimp
  refine condVW_introNE (fun hn _ _ => ?_) (fun hn => ?_)
  · simp -dsimp
    rintro rfl; exact hn rfl
  have hab : a.length = b.length := by omega
  simp -dsimp
  refine loop_rule (hn := fun _ => false) (od := fun _ => none) (fun (i : Nat) f H' => H' = H ∧ f 0 = Int.sl a ∧ f 1 = Int.sl b ∧ f 5 = I i ∧ i ≤ a.length ∧ (a.drop i = b.drop i ↔ a = b)) (fun i => a.length - i) (by kernel_rfl) 0 (by simp) ?_
  rintro i f H' ⟨rfl, h0, h1, h5, hi, ht⟩
  simp -dsimp [h0, h1, h5]
  refine condVW_introD (fun hlt => ?_) (fun hlt => ?_)
  · have hltb : i < b.length := by omega
    simp -dsimp [h0, h1, h5, List.getElem?_eq_getElem, hlt, hltb]
    rw [drop_cons hlt, drop_cons hltb, List.cons.injEq] at ht
    repeat' ((with_reducible first | refine And.intro ?_ ?_ | refine guardVW_introTD (fun _ => ?_) (fun _ => ?_) | refine guardVW_introFD (fun _ => ?_) (fun _ => ?_) | refine condVW_introD (fun _ => ?_) (fun _ => ?_) | refine guardVW_introTE (fun _ => ?_) (fun _ _ _ => ?_) | refine guardVW_introFE (fun _ => ?_) (fun _ _ _ => ?_) | refine condVW_introE (fun _ => ?_) (fun _ _ _ => ?_) | refine guardVW_introTNE (fun _ _ _ => ?_) (fun _ => ?_) | refine guardVW_introFNE (fun _ _ _ => ?_) (fun _ => ?_) | refine condVW_introNE (fun _ _ _ => ?_) (fun _ => ?_) | refine guardVW_introTB (fun _ => ?_) (fun _ => ?_) | refine guardVW_introFB (fun _ => ?_) (fun _ => ?_) | refine condVW_introB (fun _ => ?_) (fun _ => ?_) | refine guardVW_introT (fun _ => ?_) (fun _ => ?_) | refine guardVW_introF (fun _ => ?_) (fun _ => ?_) | refine condVW_intro (fun _ => ?_) (fun _ => ?_)) <;> simp -dsimp [*])
    · rename_i h _ _; simp [← ht, h]
    · rename_i h
      exact ⟨i + 1, by omega, wrapS (by omega), by omega, by rw [← ht]; simp [h]⟩
  · simp -dsimp [h0, h1, h5]
    rw [drop_end hlt, drop_end (by omega)] at ht
    exact ht.1 rfl
theorem asking_is (k : Nat) (t : Nat) (vars nodes n : Int) (H : List Blk) (hk : H[k]? = some (.box t [I vars, I nodes])) : ACalls Try.prog 66 [.bp k 0, I n] H (fun e H' => e = .ret (Bo (isV n vars)) ∧ H' = H) := by
  refine acalls_of_vc (hn := fun _ => false) (od := fun _ => none) Try.func66 rfl (by kernel_rfl) ?_
  simp -dsimp [hk]
  repeat' ((with_reducible first | refine And.intro ?_ ?_ | refine guardVW_introTD (fun _ => ?_) (fun _ => ?_) | refine guardVW_introFD (fun _ => ?_) (fun _ => ?_) | refine condVW_introD (fun _ => ?_) (fun _ => ?_) | refine guardVW_introTE (fun _ => ?_) (fun _ _ _ => ?_) | refine guardVW_introFE (fun _ => ?_) (fun _ _ _ => ?_) | refine condVW_introE (fun _ => ?_) (fun _ _ _ => ?_) | refine guardVW_introTNE (fun _ _ _ => ?_) (fun _ => ?_) | refine guardVW_introFNE (fun _ _ _ => ?_) (fun _ => ?_) | refine condVW_introNE (fun _ _ _ => ?_) (fun _ => ?_) | refine guardVW_introTB (fun _ => ?_) (fun _ => ?_) | refine guardVW_introFB (fun _ => ?_) (fun _ => ?_) | refine condVW_introB (fun _ => ?_) (fun _ => ?_) | refine guardVW_introT (fun _ => ?_) (fun _ => ?_) | refine guardVW_introF (fun _ => ?_) (fun _ => ?_) | refine condVW_intro (fun _ => ?_) (fun _ => ?_)) <;> simp -dsimp [*])
  all_goals simp [isV, *]
theorem arity_ok (op : Int) (H : List Blk) : ACalls Try.prog 110 [I op] H (fun e H' => e = .ret (I (arity op)) ∧ H' = H) := by
  refine acalls_of_vc (hn := fun _ => false) (od := fun _ => none) Try.func110 rfl (by kernel_rfl) ?_
  simp -dsimp
  repeat' ((with_reducible first | refine And.intro ?_ ?_ | refine guardVW_introTD (fun _ => ?_) (fun _ => ?_) | refine guardVW_introFD (fun _ => ?_) (fun _ => ?_) | refine condVW_introD (fun _ => ?_) (fun _ => ?_) | refine guardVW_introTE (fun _ => ?_) (fun _ _ _ => ?_) | refine guardVW_introFE (fun _ => ?_) (fun _ _ _ => ?_) | refine condVW_introE (fun _ => ?_) (fun _ _ _ => ?_) | refine guardVW_introTNE (fun _ _ _ => ?_) (fun _ => ?_) | refine guardVW_introFNE (fun _ _ _ => ?_) (fun _ => ?_) | refine condVW_introNE (fun _ _ _ => ?_) (fun _ => ?_) | refine guardVW_introTB (fun _ => ?_) (fun _ => ?_) | refine guardVW_introFB (fun _ => ?_) (fun _ => ?_) | refine condVW_introB (fun _ => ?_) (fun _ => ?_) | refine guardVW_introT (fun _ => ?_) (fun _ => ?_) | refine guardVW_introF (fun _ => ?_) (fun _ => ?_) | refine condVW_intro (fun _ => ?_) (fun _ => ?_)) <;> simp -dsimp [*])
  all_goals (simp [arity, *] <;> grind)
theorem arity_01 (op : Int) : arity op = 0 ∨ arity op = 1 ∨ arity op = 2 ∨ arity op = 3 := by unfold arity; grind
end Go.Proofs.Lm
namespace Go.Proofs.Lm
open Go.Mu
def insOk (vars : Int) (x : Ins) : Bool :=
  (x.kind == 1 && isV x.d vars && x.op == 0 && x.a == 0 && x.b == 0 && x.c == 0 && !x.stack) ||
  (x.kind == 2 && isV x.d vars && isV x.a vars && x.op == 0 && x.b == 0 && x.c == 0 && x.word == 0 && !x.stack) ||
  (x.kind == 3 && isV x.d vars && isV x.a vars && x.word == 0 && !x.stack &&
    ((arity x.op == 1 && x.b == 0 && x.c == 0) || (arity x.op == 2 && isV x.b vars && x.c == 0) || (arity x.op == 3 && isV x.b vars && isV x.c vars))) ||
  (x.kind == 4 && isV x.d vars && (x.a == -1 || isV x.a vars) && x.op == 0 && x.b == 0 && x.c == 0) ||
  (x.kind == 5 && x.d == 0 && (x.a == -1 || isV x.a vars) && isV x.b vars && x.op == 0 && x.c == 0)
def zeroIns : Ins := ⟨0, 0, 0, 0, 0, 0, 0, false⟩
mutual
def Node.ok (vars deep : Int) : Node → Bool
  | .mk k i c a b e => if k = 1 then insOk vars i && c == 0 && a.isEmpty && b.isEmpty && e.isEmpty
    else if k = 2 ∨ k = 3 then decide (i = zeroIns) && isV c vars && (k == 2 || e.isEmpty) && nodesOk vars (deep + 1) a && nodesOk vars (deep + 1) b && nodesOk vars (deep + 1) e
    else false
def nodesOk (vars deep : Int) : List Node → Bool
  | [] => true
  | n :: l => decide (deep ≤ 65) && n.ok vars deep && nodesOk vars deep l
end
theorem Node.ok_eq (vars deep : Int) (n : Node) : n.ok vars deep = if n.kind = 1 then insOk vars n.ins && n.cond == 0 && n.ahead.isEmpty && n.body.isEmpty && n.els.isEmpty
    else if n.kind = 2 ∨ n.kind = 3 then decide (n.ins = zeroIns) && isV n.cond vars && (n.kind == 2 || n.els.isEmpty) && nodesOk vars (deep + 1) n.ahead && nodesOk vars (deep + 1) n.body && nodesOk vars (deep + 1) n.els
    else false := by cases n; simp only [Node.ok, Node.kind, Node.ins, Node.cond, Node.ahead, Node.body, Node.els]; rfl
theorem nodesOk_drop {vars deep : Int} {l : List Node} {i : Nat} (h : i < l.length) : nodesOk vars deep (l.drop i) = (decide (deep ≤ 65) && l[i].ok vars deep && nodesOk vars deep (l.drop (i + 1))) := by rw [drop_cons h, nodesOk]
end Go.Proofs.Lm
namespace Go.Proofs.Lm
open Go.Mu
end Go.Proofs.Lm
namespace Go.Proofs.Lm
open Go.Mu
theorem zero_ins (x : Ins) : (!x.kind == 0 || (!x.op == 0 || (!x.d == 0 || (!x.a == 0 || (!x.b == 0 || (!x.c == 0 || (!x.word == 0 || x.stack))))))) = !decide (x = zeroIns) := by
  rw [Bool.eq_iff_iff]
  simp [zeroIns, Ins.ext_iff]
def paramsOk (vars : Int) (seen : List Int) : List Int → Bool
  | [] => true
  | x :: l => isV x vars && !decide (x ∈ seen) && paramsOk vars (seen ++ [x]) l
theorem paramsOk_drop {vars : Int} {l : List Int} {i : Nat} (h : i < l.length) : paramsOk vars (l.take i) (l.drop i) = (isV l[i] vars && !decide (l[i] ∈ l.take i) && paramsOk vars (l.take (i + 1)) (l.drop (i + 1))) := by
  rw [drop_cons h, paramsOk, List.take_succ_eq_append_getElem h]
def headOk (vars : Int) (params rets : List Int) (frame : Int) : Bool :=
  decide (0 ≤ vars) && decide (vars ≤ 16384) && decide (0 ≤ frame) && decide (frame ≤ 8192) && decide (frame % 16 = 0) && decide (rets.length ≤ 16384) && paramsOk vars [] params && rets.all (isV · vars)
def Flat.ok (f : Flat) : Bool := headOk f.vars f.params f.rets f.frame && decide (nodesCount f.code ≤ 16384) && nodesOk f.vars 1 f.code
end Go.Proofs.Lm
namespace Go.Proofs.Lm
open Go.Mu
theorem asking_ins (k : Nat) (t : Nat) (vars nodes : Int) (x : Ins) (H : List Blk) (hk : H[k]? = some (.box t [I vars, I nodes])) : ACalls Try.prog 96 [.bp k 0, .agg x.cells] H (fun e H' => e = .ret (Bo (insOk vars x)) ∧ H' = H) := by
  refine acalls_tidy (acalls_of_vc (hn := fun _ => false) (od := fun i => if i = 14 then some [(0, []), (1, []), (2, []), (3, []), (4, []), (5, [2, 3]), (6, []), (7, [])] else if i = 20 then some [(0, []), (1, []), (2, []), (3, [0, 1]), (4, []), (5, [])] else if i = 23 then some [(0, []), (1, []), (2, []), (3, []), (4, []), (5, []), (6, []), (7, [2, 3, 4, 5]), (8, []), (9, [4, 5]), (10, []), (11, [])] else none) Try.func96 rfl (by kernel_rfl) ?_)
  have hk' := fun L => get_app_old hk L
  simp -dsimp [hk]
  repeat' ((with_reducible first | refine And.intro ?_ ?_ | refine guardVW_introTD (fun _ => ?_) (fun _ => ?_) | refine guardVW_introFD (fun _ => ?_) (fun _ => ?_) | refine condVW_introD (fun _ => ?_) (fun _ => ?_) | refine guardVW_introTE (fun _ => ?_) (fun _ _ _ => ?_) | refine guardVW_introFE (fun _ => ?_) (fun _ _ _ => ?_) | refine condVW_introE (fun _ => ?_) (fun _ _ _ => ?_) | refine guardVW_introTNE (fun _ _ _ => ?_) (fun _ => ?_) | refine guardVW_introFNE (fun _ _ _ => ?_) (fun _ => ?_) | refine condVW_introNE (fun _ _ _ => ?_) (fun _ => ?_) | refine guardVW_introTB (fun _ => ?_) (fun _ => ?_) | refine guardVW_introFB (fun _ => ?_) (fun _ => ?_) | refine condVW_introB (fun _ => ?_) (fun _ => ?_) | refine guardVW_introT (fun _ => ?_) (fun _ => ?_) | refine guardVW_introF (fun _ => ?_) (fun _ => ?_) | refine condVW_intro (fun _ => ?_) (fun _ => ?_) | refine acallsW_det (asking_is _ _ _ _ _ _ (hk' _)) ?_ | refine callDW_intro (asking_is _ _ _ _ _ _ (hk' _)) ?_ | refine acallsW_det (arity_ok _ _) ?_ | refine callDW_intro (arity_ok _ _) ?_) <;> simp -dsimp [*])
  all_goals refine tidy_same (by first | rfl | simp [AV.under, underL]) ?_
  all_goals refine ⟨?_, rfl⟩
  all_goals clear hk hk'
  all_goals refine congrArg (fun b => AE.ret (Bo b)) ?_
  all_goals first | (simp_all [insOk]; done) | (have ha := arity_01 x.op; simp only [insOk, isV] at *; grind)
def AListR (vars deep : Int) (l : List Node) (n0 : Nat) (H : List Blk) (k t : Nat) (e : AE) (H' : List Blk) : Prop :=
  ∃ (b : Bool) (n1 : Nat), e = .ret (Bo b) ∧ b = (nodesOk vars deep l && (l.isEmpty || decide (n0 + nodesCount l ≤ 16384))) ∧ n1 ≤ 16385 ∧ H' = H.set k (.box t [I vars, I n1]) ∧ (b = true → n1 = n0 + nodesCount l ∧ n1 ≤ 16384)
theorem AListR.out {vars deep : Int} {l : List Node} {n0 : Nat} {H : List Blk} {k t : Nat} {e : AE} {H' : List Blk} (h : AListR vars deep l n0 H k t e H') :
  ∃ (b : Bool) (n1 : Nat), e = .ret (Bo b) ∧ b = (nodesOk vars deep l && (l.isEmpty || decide (n0 + nodesCount l ≤ 16384))) ∧ n1 ≤ 16385 ∧ H' = H.set k (.box t [I vars, I n1]) ∧ (b = true → n1 = n0 + nodesCount l ∧ n1 ≤ 16384) := h
theorem count_empty (l : List Node) : l.length = 0 → nodesCount l = 0 := by cases l <;> simp [nodesCount]
theorem alist_ok (vars : Int) (n : Nat) : ∀ (l : List Node) (deep : Int), nodesCount l ≤ n → nodesCount l ≤ 2^40 → 0 ≤ deep → ∀ (n0 : Nat), n0 ≤ 16384 → ∀ (H : List Blk) (k t : Nat), H[k]? = some (.box t [I vars, I n0]) →
    ACalls Try.prog 70 [.bp k 0, Node.sl l, I deep] H (AListR vars deep l n0 H k t) := by
  induction n with
  | zero =>
    intro l deep hl hb hdp n0 hn0 H k t hk
    have : l = [] := List.eq_nil_of_length_eq_zero (by have := nodes_len l; omega)
    subst this
    refine acalls_of_vc (hn := fun _ => false) (od := fun _ => none) Try.func70 rfl (by kernel_rfl) ?_
    simp -dsimp
    refine loop_rule (hn := fun _ => false) (od := fun _ => none) (fun (i : Nat) f H' => H' = H ∧ f 16 = Node.sl [] ∧ f 17 = I 0 ∧ f 18 = I 0) (fun i => 0) (by kernel_rfl) 0 (by simp) ?_
    rintro i f H' ⟨rfl, h0, h7, h8⟩
    simp -dsimp [h0, h7, h8]
    exact ⟨true, n0, rfl, by simp [nodesOk], by omega, (set_same hk).symm, fun _ => ⟨by simp [nodesCount], hn0⟩⟩
  | succ n ih =>
    intro l deep hl hb hdp n0 hn0 H k t hk
    refine acalls_tidy (acalls_of_vc (hn := fun _ => false) (od := fun _ => none) Try.func70 rfl (by kernel_rfl) ?_)
    have hkl := lt_of_get hk
    have g1 := fun X L => m1_get hkl X L
    have g2 := fun X Y L => m1_set hkl X Y L
    have g3 := fun X L i => m1_getN (H := H) (k := k) X L i
    have g4 := fun X L => m1_getE (H := H) (k := k) X L
    have hlen := nodes_len l
    have leaf : ∀ (n1 : Nat) (L : List Blk) (c : Bool), n1 ≤ 16385 → c = (nodesOk vars deep l && (l.isEmpty || decide (n0 + nodesCount l ≤ 16384))) → (c = true → n1 = n0 + nodesCount l ∧ n1 ≤ 16384) → Tidy H (AListR vars deep l n0 H k t) (AE.ret (AV.v (Value.bool c))) (H.set k (.box t [I vars, I n1]) ++ L) := by
      intro n1 L c h1 hc h2
      exact tidy_to (by simp) (fun hu => by rw [List.length_set]; exact underH_set hu rfl) rfl ⟨c, n1, rfl, hc, h1, rfl, h2⟩
    have hH : Hid (H = H.set k (.box t [I vars, I n0]) ++ []) := ⟨by rw [List.append_nil]; exact (set_same hk).symm⟩
    have leafS : ∀ (n1 : Nat) (L : List Blk) (c : Bool), n1 + 1 ≤ 16385 → c = (nodesOk vars deep l && (l.isEmpty || decide (n0 + nodesCount l ≤ 16384))) → (c = true → n1 + 1 = n0 + nodesCount l ∧ n1 + 1 ≤ 16384) → Tidy H (AListR vars deep l n0 H k t) (AE.ret (AV.v (Value.bool c))) (H.set k (.box t [I vars, I ((n1 : Int) + 1)]) ++ L) := fun n1 L c h1 h2 h3 => leaf (n1 + 1) L c h1 h2 h3
    replace leaf := Hid.mk leaf
    replace leafS := Hid.mk leafS
    simp -dsimp
    refine guardVW_introTD (fun hpos => ?_) (fun hpos => ?_) <;> simp -dsimp [hpos]
    refine condVW_introD (fun hdeep => ?_) (fun hdeep => ?_) <;> simp -dsimp
    · conv => arg 4; rw [hH.out]
      refine leaf.out n0 [] _ (by omega) ?_ (by simp)
      cases l with
      | nil => simp at hpos
      | cons x l =>
        have : decide (deep ≤ 65) = false := by simp; omega
        simp [nodesOk, this]
    all_goals
      refine loop_rule (hn := fun _ => false) (od := fun _ => none) (fun (i : Nat) f H' => (∃ (ni : Nat) (L : List Blk), H' = H.set k (.box t [I vars, I ni]) ++ L ∧ ni + nodesCount (l.drop i) = n0 + nodesCount l ∧ ni ≤ 16384) ∧ f 0 = .bp k 0 ∧ f 16 = Node.sl l ∧ f 17 = I l.length ∧ f 2 = I deep ∧ f 18 = I i ∧ i ≤ l.length ∧ nodesOk vars deep (l.drop i) = nodesOk vars deep l) (fun i => l.length - i) (by kernel_rfl) 0 (by refine ⟨⟨n0, [], hH.out, by simp, hn0⟩, ?_⟩; simp) ?_
      rintro i f H' ⟨⟨ni, L, rfl, hni, hni2⟩, h0, h16, h17, h2, h18, hi, hok⟩
      simp -dsimp [h0, h16, h17, h2, h18]
      refine condVW_introD (fun hlt => ?_) (fun hlt => ?_)
      · have hp := node_parts hlt
        have hd := nodesOk_drop (vars := vars) (deep := deep) hlt
        have hcd := nodesCount_drop hlt
        have hcle := nodesCount_le l i
        rw [Node.count_eq] at hcd
        rw [Node.ok_eq, hok] at hd
        have hdp2 : decide (deep ≤ 65) = true := by simp; omega
        have hempty : l.isEmpty = false := by rw [isEmpty_len]; simp only [decide_eq_false_iff_not]; omega
        rw [hdp2, Bool.true_and] at hd
        simp only [isEmpty_len] at hd
        replace hd := Hid.mk hd
        replace hok := Hid.mk hok
        replace hempty := Hid.mk hempty
        have hw : IntKind.i64.wrap (deep + 1) = deep + 1 := wrapI (by omega) (by omega)
        have hwn : IntKind.i64.wrap ((ni : Int) + 1) = ((ni + 1 : Nat) : Int) := wrapS (by omega)
        have hwl : IntKind.i64.wrap (↑l[i].ahead.length + ↑l[i].body.length) = ↑l[i].ahead.length + ↑l[i].body.length := by
          have := nodes_len l[i].ahead; have := nodes_len l[i].body; exact wrapI (by omega) (by omega)
        have hwl2 : IntKind.i64.wrap (↑l[i].ahead.length + ↑l[i].body.length + ↑l[i].els.length) = ↑l[i].ahead.length + ↑l[i].body.length + ↑l[i].els.length := by
          have := nodes_len l[i].ahead; have := nodes_len l[i].body; have := nodes_len l[i].els; exact wrapI (by omega) (by omega)
        have hins := fun nn H h => asking_ins k t vars nn l[i].ins H h
        simp only [Ins.cells] at hins
        have ih1 : ni + 1 ≤ 16384 → ∀ H', H'[k]? = some (.box t [I vars, I ((ni : Int) + 1)]) → ACalls Try.prog 70 [.bp k 0, Node.sl l[i].ahead, I (deep + 1)] H' (AListR vars (deep + 1) l[i].ahead (ni + 1) H' k t) := fun hn H' h => ih l[i].ahead (deep + 1) (by omega) (by omega) (by omega) (ni + 1) hn H' k t h
        have ih2 : ∀ n1 : Nat, n1 ≤ 16384 → ∀ H', H'[k]? = some (.box t [I vars, I n1]) → ACalls Try.prog 70 [.bp k 0, Node.sl l[i].body, I (deep + 1)] H' (AListR vars (deep + 1) l[i].body n1 H' k t) := fun n1 hn H' h => ih l[i].body (deep + 1) (by omega) (by omega) (by omega) n1 hn H' k t h
        have ih3 : ∀ n1 : Nat, n1 ≤ 16384 → ∀ H', H'[k]? = some (.box t [I vars, I n1]) → ACalls Try.prog 70 [.bp k 0, Node.sl l[i].els, I (deep + 1)] H' (AListR vars (deep + 1) l[i].els n1 H' k t) := fun n1 hn H' h => ih l[i].els (deep + 1) (by omega) (by omega) (by omega) n1 hn H' k t h
        simp -dsimp [h0, h16, h17, h2, h18, List.getElem?_eq_getElem, hlt, zero_ins, g1, g2, g3, g4, hwn]
        repeat' ((with_reducible first | refine And.intro ?_ ?_ | refine guardVW_introTD (fun _ => ?_) (fun _ => ?_) | refine guardVW_introFD (fun _ => ?_) (fun _ => ?_) | refine condVW_introD (fun _ => ?_) (fun _ => ?_) | refine guardVW_introTE (fun _ => ?_) (fun _ _ _ => ?_) | refine guardVW_introFE (fun _ => ?_) (fun _ _ _ => ?_) | refine condVW_introE (fun _ => ?_) (fun _ _ _ => ?_) | refine guardVW_introTNE (fun _ _ _ => ?_) (fun _ => ?_) | refine guardVW_introFNE (fun _ _ _ => ?_) (fun _ => ?_) | refine condVW_introNE (fun _ _ _ => ?_) (fun _ => ?_) | refine guardVW_introTB (fun _ => ?_) (fun _ => ?_) | refine guardVW_introFB (fun _ => ?_) (fun _ => ?_) | refine condVW_introB (fun _ => ?_) (fun _ => ?_) | refine guardVW_introT (fun _ => ?_) (fun _ => ?_) | refine guardVW_introF (fun _ => ?_) (fun _ => ?_) | refine condVW_intro (fun _ => ?_) (fun _ => ?_) | refine acallsW_det (hins _ _ (g1 _ _)) ?_ | refine callDW_intro (hins _ _ (g1 _ _)) ?_ | refine acallsW_det (asking_is _ _ _ _ _ _ (g1 _ _)) ?_ | refine callDW_intro (asking_is _ _ _ _ _ _ (g1 _ _)) ?_ | (refine acallsW_of (ih1 (by omega) _ (g1 _ _)) (fun e H' hq => ?_); obtain ⟨b1, n1, rfl, hb1, hn1, rfl, he1⟩ := AListR.out hq; replace hb1 := Hid.mk hb1; replace he1 := Hid.mk he1) | (refine acallsW_of (ih2 n1 (he1.out (show b1 = true by assumption)).2 _ (g1 _ _)) (fun e H' hq => ?_); obtain ⟨b2, n2, rfl, hb2, hn2, rfl, he2⟩ := AListR.out hq; replace hb2 := Hid.mk hb2; replace he2 := Hid.mk he2) | (refine acallsW_of (ih3 n2 (he2.out (show b2 = true by assumption)).2 _ (g1 _ _)) (fun e H' hq => ?_); obtain ⟨b3, n3, rfl, hb3, hn3, rfl, he3⟩ := AListR.out hq; replace hb3 := Hid.mk hb3; replace he3 := Hid.mk he3)) <;> simp -dsimp [*, zero_ins])
        all_goals clear ih ih1 ih2 ih3 hins g1 g2 g3 g4 h0 h16 h17 h2 h18 hwl hwl2 hw
        all_goals have hca := count_empty l[i].ahead
        all_goals have hcb := count_empty l[i].body
        all_goals have hce := count_empty l[i].els
        all_goals first
          | (refine leafS.out ni _ _ (by omega) ?_ (by simp); clear leaf leafS; rw [hd.out, hempty.out]; first | (simp [*]; done) | (simp [*, isV, -List.length_eq_zero_iff]; done) | (simp [*, isV, -List.length_eq_zero_iff]; omega))
          | (refine leaf.out n1 _ _ hn1 ?_ (by simp); clear leaf leafS; rw [hempty.out]; have := hb1.out; rw [hd.out]; grind)
          | (refine leaf.out n2 _ _ hn2 ?_ (by simp); clear leaf leafS; rw [hempty.out]; have := hb1.out; have := hb2.out; have := he1.out; rw [hd.out]; grind)
          | (refine leaf.out n3 _ _ hn3 ?_ (by simp); clear leaf leafS; rw [hempty.out]; have := hb1.out; have := hb2.out; have := hb3.out; have := he1.out; have := he2.out; rw [hd.out]; grind)
          | (refine ⟨i + 1, by omega, ⟨n3, ⟨_, rfl⟩, ?_, ?_⟩, wrapS (by omega), by omega, ?_⟩ <;> clear leaf leafS <;> (have := hb1.out; have := hb2.out; have := hb3.out; have := he1.out; have := he2.out; have := he3.out; first | grind | (rw [hd.out]; grind)))
          | (refine ⟨i + 1, by omega, ⟨ni + 1, ⟨_, rfl⟩, ?_, by omega⟩, wrapS (by omega), by omega, ?_⟩ <;> clear leaf leafS <;> first | grind | (rw [hd.out]; grind))
          | trace_state
      · simp -dsimp [h0, h16, h17, h2, h18]
        rw [drop_end hlt] at hok hni
        have hok2 : nodesOk vars deep l = true := by rw [← hok]; rfl
        simp only [nodesCount] at hni
        refine leaf.out _ _ _ (by omega) ?_ (fun _ => by omega)
        rw [hok2]; simp; right; omega
end Go.Proofs.Lm
namespace Go.Proofs.Lm
open Go.Mu
theorem may1_ok (ka kp ta tp : Nat) (vars nodes x : Int) (H : List Blk) (hp : H[kp]? = some (.box tp [.bp ka 0])) (ha : H[ka]? = some (.box ta [I vars, I nodes])) : ACalls Try.prog 69 [I x, .bp kp 0] H (fun e H' => e = .ret (Bo (!isV x vars)) ∧ H' = H) := by
  refine acalls_of_vc (hn := fun _ => false) (od := fun _ => none) Try.func69 rfl (by kernel_rfl) ?_
  simp -dsimp [hp]
  repeat' ((with_reducible first | refine And.intro ?_ ?_ | refine guardVW_introTD (fun _ => ?_) (fun _ => ?_) | refine guardVW_introFD (fun _ => ?_) (fun _ => ?_) | refine condVW_introD (fun _ => ?_) (fun _ => ?_) | refine guardVW_introTE (fun _ => ?_) (fun _ _ _ => ?_) | refine guardVW_introFE (fun _ => ?_) (fun _ _ _ => ?_) | refine condVW_introE (fun _ => ?_) (fun _ _ _ => ?_) | refine guardVW_introTNE (fun _ _ _ => ?_) (fun _ => ?_) | refine guardVW_introFNE (fun _ _ _ => ?_) (fun _ => ?_) | refine condVW_introNE (fun _ _ _ => ?_) (fun _ => ?_) | refine guardVW_introTB (fun _ => ?_) (fun _ => ?_) | refine guardVW_introFB (fun _ => ?_) (fun _ => ?_) | refine condVW_introB (fun _ => ?_) (fun _ => ?_) | refine guardVW_introT (fun _ => ?_) (fun _ => ?_) | refine guardVW_introF (fun _ => ?_) (fun _ => ?_) | refine condVW_intro (fun _ => ?_) (fun _ => ?_) | refine acallsW_det (asking_is _ _ _ _ _ _ ha) ?_ | refine callDW_intro (asking_is _ _ _ _ _ _ ha) ?_) <;> simp -dsimp [*])
theorem may_ok (f : Flat) (hp : f.params.length ≤ 2^40) (hr : f.rets.length ≤ 2^40) (hc : nodesCount f.code ≤ 2^40) (H : List Blk) : ACalls Try.prog 35 [.agg f.cells] H (fun e H' => e = .ret (Bo f.ok) ∧ H' = H) := by
  refine acalls_tidy (acalls_of_vc (hn := fun d => d == 70) (od := fun _ => none) Try.func35 rfl (by kernel_rfl) ?_)
  have leaf : ∀ (L : List Blk) (b : Bool), b = f.ok → Tidy H (fun e H' => e = AE.ret (Bo f.ok) ∧ H' = H) (AE.ret (AV.v (Value.bool b))) (H ++ L) := fun L b hb => tidy_same rfl ⟨by rw [hb], rfl⟩
  replace leaf := Hid.mk leaf
  simp -dsimp
  repeat' ((with_reducible first | refine And.intro ?_ ?_ | refine guardVW_introTD (fun _ => ?_) (fun _ => ?_) | refine guardVW_introFD (fun _ => ?_) (fun _ => ?_) | refine condVW_introD (fun _ => ?_) (fun _ => ?_) | refine guardVW_introTE (fun _ => ?_) (fun _ _ _ => ?_) | refine guardVW_introFE (fun _ => ?_) (fun _ _ _ => ?_) | refine condVW_introE (fun _ => ?_) (fun _ _ _ => ?_) | refine guardVW_introTNE (fun _ _ _ => ?_) (fun _ => ?_) | refine guardVW_introFNE (fun _ _ _ => ?_) (fun _ => ?_) | refine condVW_introNE (fun _ _ _ => ?_) (fun _ => ?_) | refine guardVW_introTB (fun _ => ?_) (fun _ => ?_) | refine guardVW_introFB (fun _ => ?_) (fun _ => ?_) | refine condVW_introB (fun _ => ?_) (fun _ => ?_) | refine guardVW_introT (fun _ => ?_) (fun _ => ?_) | refine guardVW_introF (fun _ => ?_) (fun _ => ?_) | refine condVW_intro (fun _ => ?_) (fun _ => ?_)) <;> simp -dsimp [*])
  case refine_2.refine_2.refine_2.refine_2.refine_2 h1 h2 h3 h4 h5 =>
    have hbase : f.ok = (decide (f.rets.length ≤ 16384) && paramsOk f.vars [] f.params && f.rets.all (isV · f.vars) && decide (nodesCount f.code ≤ 16384) && nodesOk f.vars 1 f.code) := by
      have ht := Int.tmod_eq_emod_of_nonneg (a := f.frame) (b := 16) (by omega)
      rw [ht] at h5
      have e1 : decide (0 ≤ f.vars) = true := by simp; omega
      have e2 : decide (f.vars ≤ 16384) = true := by simp; omega
      have e3 : decide (0 ≤ f.frame) = true := by simp; omega
      have e4 : decide (f.frame ≤ 8192) = true := by simp; omega
      have e5 : decide (f.frame % 16 = 0) = true := by simpa using h5
      simp only [Flat.ok, headOk, e1, e2, e3, e4, e5, Bool.true_and]
    replace hbase := Hid.mk hbase
    refine loop_rule (hn := fun d => d == 70) (od := fun _ => none) (fun (i : Nat) g H' => H' = H ++ [.box 25 f.cells, .box 141 [I f.vars, I 0], .box 139 [.bp (H.length + 1) 0]] ∧ g 1 = .bp H.length 0 ∧ g 3 = .bp (H.length + 2) 0 ∧ g 35 = Int.sl f.params ∧ g 36 = I f.params.length ∧ g 37 = I i ∧ i ≤ f.params.length ∧ paramsOk f.vars (f.params.take i) (f.params.drop i) = paramsOk f.vars [] f.params) (fun i => f.params.length - i) (by kernel_rfl) 0 (by simp) ?_
    rintro i g H' ⟨rfl, g1, g3, g35, g36, g37, hi, hok⟩
    simp -dsimp [g1, g3, g35, g36, g37]
    have hm : ∀ L, (H ++ Blk.box 25 f.cells :: Blk.box 141 [I f.vars, I 0] :: L)[H.length + 1]? = some (.box 141 [I f.vars, I 0]) := by intro L; simp
    simp only [Flat.cells] at hm
    refine condVW_introD (fun hlt => ?_) (fun hlt => ?_)
    · have hd := paramsOk_drop (vars := f.vars) hlt
      rw [hok] at hd
      replace hd := Hid.mk hd
      replace hok := Hid.mk hok
      have hct := contains_ok (f.params.take i) f.params[i]
      simp only [Int.sl, List.map_take] at hct
      have hctl : (f.params.take i).length ≤ 2^40 := by simp; omega
      simp -dsimp [g1, g3, g35, g36, g37, List.getElem?_eq_getElem, hlt]
      repeat' ((with_reducible first | refine And.intro ?_ ?_ | refine guardVW_introTD (fun _ => ?_) (fun _ => ?_) | refine guardVW_introFD (fun _ => ?_) (fun _ => ?_) | refine condVW_introD (fun _ => ?_) (fun _ => ?_) | refine guardVW_introTE (fun _ => ?_) (fun _ _ _ => ?_) | refine guardVW_introFE (fun _ => ?_) (fun _ _ _ => ?_) | refine condVW_introE (fun _ => ?_) (fun _ _ _ => ?_) | refine guardVW_introTNE (fun _ _ _ => ?_) (fun _ => ?_) | refine guardVW_introFNE (fun _ _ _ => ?_) (fun _ => ?_) | refine condVW_introNE (fun _ _ _ => ?_) (fun _ => ?_) | refine guardVW_introTB (fun _ => ?_) (fun _ => ?_) | refine guardVW_introFB (fun _ => ?_) (fun _ => ?_) | refine condVW_introB (fun _ => ?_) (fun _ => ?_) | refine guardVW_introT (fun _ => ?_) (fun _ => ?_) | refine guardVW_introF (fun _ => ?_) (fun _ => ?_) | refine condVW_intro (fun _ => ?_) (fun _ => ?_) | refine acallsW_det (asking_is _ _ _ _ _ _ (hm _)) ?_ | refine callDW_intro (asking_is _ _ _ _ _ _ (hm _)) ?_ | refine acallsW_det (hct _ hctl) ?_ | refine callDW_intro (hct _ hctl) ?_) <;> simp -dsimp [*])
      · refine leaf.out _ _ ?_
        rw [hbase.out, hd.out]; simp [*]
      · refine leaf.out _ _ ?_
        rw [hbase.out, hd.out]; simp [*]
      · refine ⟨i + 1, by omega, wrapS (by omega), by omega, ?_⟩
        have := hd.out
        simp [*] at this
        simp [this]
    · rw [drop_end hlt] at hok
      have hpok : paramsOk f.vars [] f.params = true := by rw [← hok]; rfl
      rw [hpok, Bool.and_true] at hbase
      have hcf := containsFunc_ok (g := 69) (cap := [.bp (H.length + 2) 0]) (fun v => !isV v f.vars) f.rets (H ++ [.box 25 f.cells, .box 141 [I f.vars, I 0], .box 139 [.bp (H.length + 1) 0]]) hr (by kernel_rfl) (fun x _ => may1_ok (H.length + 1) (H.length + 2) 141 139 f.vars 0 x _ (by simp) (by simp))
      have hal := alist_ok f.vars _ f.code 1 (Nat.le_refl _) hc (by omega) 0 (by omega) (H ++ [.box 25 f.cells, .box 141 [I f.vars, I 0], .box 139 [.bp (H.length + 1) 0]]) (H.length + 1) 141 (by simp)
      simp only [Flat.cells] at hcf hal
      simp -dsimp [g1, g3, g35, g36, g37]
      refine acallsW_det hcf ?_
      have hany : (f.rets.any fun v => !isV v f.vars) = !f.rets.all (isV · f.vars) := by rw [List.all_eq_not_any_not]; simp
      replace hany := Hid.mk hany
      simp -dsimp [g1, g3, g35, g36, g37, hany.out]
      repeat' ((with_reducible first | refine And.intro ?_ ?_ | refine guardVW_introTD (fun _ => ?_) (fun _ => ?_) | refine guardVW_introFD (fun _ => ?_) (fun _ => ?_) | refine condVW_introD (fun _ => ?_) (fun _ => ?_) | refine guardVW_introTE (fun _ => ?_) (fun _ _ _ => ?_) | refine guardVW_introFE (fun _ => ?_) (fun _ _ _ => ?_) | refine condVW_introE (fun _ => ?_) (fun _ _ _ => ?_) | refine guardVW_introTNE (fun _ _ _ => ?_) (fun _ => ?_) | refine guardVW_introFNE (fun _ _ _ => ?_) (fun _ => ?_) | refine condVW_introNE (fun _ _ _ => ?_) (fun _ => ?_) | refine guardVW_introTB (fun _ => ?_) (fun _ => ?_) | refine guardVW_introFB (fun _ => ?_) (fun _ => ?_) | refine condVW_introB (fun _ => ?_) (fun _ => ?_) | refine guardVW_introT (fun _ => ?_) (fun _ => ?_) | refine guardVW_introF (fun _ => ?_) (fun _ => ?_) | refine condVW_intro (fun _ => ?_) (fun _ => ?_) | (refine acallsW_of hal (fun e H' hq => ?_); obtain ⟨b1, n1, rfl, hb1, hn1, rfl, he1⟩ := AListR.out hq; replace hb1 := Hid.mk hb1; replace he1 := Hid.mk he1)) <;> simp -dsimp [*])
      all_goals refine leaf.out _ _ ?_
      all_goals clear hcf hal hm
      all_goals rw [hbase.out]
      · have hcap : (f.code.isEmpty || decide (0 + nodesCount f.code ≤ 16384)) = decide (nodesCount f.code ≤ 16384) := by
          have h0 := count_empty f.code
          rw [isEmpty_len, Bool.eq_iff_iff, Nat.zero_add]; simp only [Bool.or_eq_true, decide_eq_true_eq]; omega
        rw [hb1.out, hcap]
        have : f.rets.length ≤ 16384 := by omega
        simp [*, Bool.and_comm]
      · simp [*]; omega
      · simp [*]
  case refine_2.refine_2.refine_2.refine_2.refine_1 h5 _ _ =>
    refine leaf.out _ _ ?_
    have ht := Int.tmod_eq_emod_of_nonneg (a := f.frame) (b := 16) (by omega)
    rw [ht] at h5
    simp [Flat.ok, headOk, h5]
  all_goals
    refine leaf.out _ _ ?_
    simp [Flat.ok, headOk]
    omega
end Go.Proofs.Lm
namespace Go.Proofs.Lm
open Go.Mu
abbrev lineOf (kind var label : Int) : Line := ⟨kind, ⟨0, 0, 0, 0, 0, 0, 0, false⟩, var, label⟩
mutual
def Node.lines : Node → Nat → List Line × Nat
  | .mk k i c a b e, lab =>
    if k = 1 then ([⟨1, i, 0, 0⟩], lab)
    else if k = 2 then
      let A := nodesLines a lab
      let B := nodesLines b (A.2 + 2)
      let E := nodesLines e B.2
      (A.1 ++ [lineOf 4 c A.2] ++ B.1 ++ [lineOf 3 0 ((A.2 : Int) + 1), lineOf 2 0 A.2] ++ E.1 ++ [lineOf 2 0 ((A.2 : Int) + 1)], E.2)
    else
      let A := nodesLines a (lab + 2)
      let B := nodesLines b A.2
      ([lineOf 2 0 lab] ++ A.1 ++ [lineOf 4 c ((lab : Int) + 1)] ++ B.1 ++ [lineOf 3 0 lab, lineOf 2 0 ((lab : Int) + 1)], B.2)
def nodesLines : List Node → Nat → List Line × Nat
  | [], lab => ([], lab)
  | n :: l, lab =>
    let A := n.lines lab
    let B := nodesLines l A.2
    (A.1 ++ B.1, B.2)
end
theorem Node.lines_ins (n : Node) (lab : Nat) (h : n.kind = 1) : n.lines lab = ([⟨1, n.ins, 0, 0⟩], lab) := by
  cases n; simp only [Node.kind] at h; subst h; simp [Node.lines, Node.ins]
theorem Node.lines_if (n : Node) (lab : Nat) (h : n.kind = 2) : n.lines lab = (let A := nodesLines n.ahead lab; let B := nodesLines n.body (A.2 + 2); let E := nodesLines n.els B.2
    (A.1 ++ [lineOf 4 n.cond A.2] ++ B.1 ++ [lineOf 3 0 ((A.2 : Int) + 1), lineOf 2 0 A.2] ++ E.1 ++ [lineOf 2 0 ((A.2 : Int) + 1)], E.2)) := by
  cases n; simp only [Node.kind] at h; subst h; simp only [Node.lines, Node.ahead, Node.body, Node.els, Node.cond]; rfl
theorem Node.lines_loop (n : Node) (lab : Nat) (h1 : n.kind ≠ 1) (h2 : n.kind ≠ 2) : n.lines lab = (let A := nodesLines n.ahead (lab + 2); let B := nodesLines n.body A.2
    ([lineOf 2 0 lab] ++ A.1 ++ [lineOf 4 n.cond ((lab : Int) + 1)] ++ B.1 ++ [lineOf 3 0 lab, lineOf 2 0 ((lab : Int) + 1)], B.2)) := by
  cases n; simp only [Node.kind] at h1 h2; simp only [Node.lines, Node.ahead, Node.body, Node.els, Node.cond, if_neg h1, if_neg h2]
theorem nodesLines_drop {l : List Node} {i : Nat} (h : i < l.length) (lab : Nat) : nodesLines (l.drop i) lab = ((l[i].lines lab).1 ++ (nodesLines (l.drop (i + 1)) (l[i].lines lab).2).1, (nodesLines (l.drop (i + 1)) (l[i].lines lab).2).2) := by
  rw [drop_cons h, nodesLines]
theorem lines_le (n : Nat) : ∀ (l : List Node), nodesCount l ≤ n → ∀ lab, (nodesLines l lab).1.length ≤ 5 * nodesCount l ∧ (nodesLines l lab).2 ≤ lab + 2 * nodesCount l ∧ lab ≤ (nodesLines l lab).2 := by
  induction n with
  | zero => intro l hl lab; have := nodes_len l; have : l = [] := List.eq_nil_of_length_eq_zero (by omega); subst this; simp [nodesLines]
  | succ n ih =>
    intro l
    induction l with
    | nil => intro _ lab; simp [nodesLines]
    | cons x l ihl =>
      intro hl lab
      simp only [nodesCount, Node.count_eq] at hl
      have key : (x.lines lab).1.length ≤ 5 * x.count ∧ (x.lines lab).2 ≤ lab + 2 * x.count ∧ lab ≤ (x.lines lab).2 := by
        rw [Node.count_eq]
        by_cases h1 : x.kind = 1
        · rw [Node.lines_ins x lab h1]; simp; omega
        · by_cases h2 : x.kind = 2
          · rw [Node.lines_if x lab h2]
            have hA := ih x.ahead (by omega) lab
            have hB := ih x.body (by omega) ((nodesLines x.ahead lab).2 + 2)
            have hE := ih x.els (by omega) (nodesLines x.body ((nodesLines x.ahead lab).2 + 2)).2
            simp only [List.length_append, List.length_cons, List.length_nil]
            omega
          · rw [Node.lines_loop x lab h1 h2]
            have hA := ih x.ahead (by omega) (lab + 2)
            have hB := ih x.body (by omega) (nodesLines x.ahead (lab + 2)).2
            simp only [List.length_append, List.length_cons, List.length_nil]
            omega
      have hL := ihl (by omega) (x.lines lab).2
      simp only [nodesLines, List.length_append, nodesCount]
      omega
abbrev refV : AV := .ifc 93 (.agg [])
def mkBox (t k : Nat) (ls : List Line) (lab : Nat) : Blk := .box t [ownS k (ls.map Line.cells), I lab]
def mkRow (ls : List Line) : Blk := ownB 45 11 (ls.map Line.cells)
theorem under_mkBox {n t k : Nat} (h : k < n) (ls : List Line) (lab : Nat) : (mkBox t k ls lab).under n = true := by simp [mkBox, Blk.under, underL, under_ownS _ _ _ h, AV.under]
theorem under_mkRow (n : Nat) (ls : List Line) : (mkRow ls).under n = true := by
  refine under_ownB _ _ _ _ ?_
  rw [List.all_eq_true]
  intro e he
  obtain ⟨x, _, rfl⟩ := List.mem_map.1 he
  simp [underL, AV.under]
theorem label_call {H : List Blk} {a k : Nat} {ls : List Line} {lab : Nat} {L : List Blk} {R : AE → List Blk → Prop} {w : Wit R} (ha : a < H.length) (hk : k < H.length) (hak : a ≠ k) (hl : lab ≤ 2^45)
    (h1 : R (.ret (I lab)) (set2 H a (mkBox 96 k ls (lab + 1)) k (mkRow ls) ++ L)) :
    ACallsW Try.prog 71 [.bp a 0] (set2 H a (mkBox 96 k ls lab) k (mkRow ls) ++ L) R w := by
  refine acalls_of_vc (hn := fun _ => false) (od := fun _ => none) Try.func71 rfl (by kernel_rfl) ?_
  have g1 := fun X Y L => m2_getA ha hak X Y L
  have s1 := fun X Y Z L => m2_setA ha hak X Y Z L
  have hw : IntKind.i64.wrap ((lab : Int) + 1) = (lab : Int) + 1 := wrapI (by omega) (by omega)
  have hw2 : IntKind.i64.wrap (lab : Int) = lab := wrapI (by omega) (by omega)
  simp -dsimp [g1, s1, hw, hw2, mkBox]
  exact h1
theorem line_call {H : List Blk} {a k : Nat} {ls : List Line} {lab : Nat} {L : List Blk} {x : Line} {R : AE → List Blk → Prop} {w : Wit R} (ha : a < H.length) (hk : k < H.length) (hak : a ≠ k) (hls : ls.length ≤ 65536)
    (h1 : ls.length < 65536 → R (.ret (.tup [])) (set2 H a (mkBox 96 k (ls ++ [x]) lab) k (mkRow (ls ++ [x])) ++ L)) (h2 : ls.length = 65536 → R (.pan refV) (set2 H a (mkBox 96 k ls lab) k (mkRow ls) ++ L)) :
    ACallsW Try.prog 38 [.bp a 0, .agg [I x.kind, I x.ins.kind, I x.ins.op, I x.ins.d, I x.ins.a, I x.ins.b, I x.ins.c, U x.ins.word, Bo x.ins.stack, I x.var, I x.label]] (set2 H a (mkBox 96 k ls lab) k (mkRow ls) ++ L) R w := by
  refine acalls_tidy (acalls_of_vc (hn := fun d => d == 19) (od := fun _ => none) Try.func38 rfl (by kernel_rfl) ?_)
  have g1 := fun X Y L => m2_getA ha hak X Y L
  have g2 := fun X Y L => m2_getB (a := a) hk X Y L
  have s1 := fun X Y Z L => m2_setA ha hak X Y Z L
  have s2 := fun X Y Z L => m2_setB (a := a) hk X Y Z L
  have hlen : ∀ X L, lenV (set2 H a X k (mkRow ls) ++ L) 1 (ownS k (List.map Line.cells ls)) = some ((List.map Line.cells ls).length : Int) := fun X L => lenV_ownS (m2_getB hk X _ L)
  have hu : ∀ (X' Y' : Blk), X'.under (set2 H a X' k Y' ++ L).length = true → Y'.under (set2 H a X' k Y' ++ L).length = true → underH (set2 H a (mkBox 96 k ls lab) k (mkRow ls) ++ L).length (set2 H a (mkBox 96 k ls lab) k (mkRow ls) ++ L) = true → underH (set2 H a X' k Y' ++ L).length (set2 H a X' k Y' ++ L) = true := by
    intro X' Y' h1 h2 h3
    have e : (set2 H a (mkBox 96 k ls lab) k (mkRow ls) ++ L).length = (set2 H a X' k Y' ++ L).length := by simp
    rw [e] at h3
    exact underH_m2 ha hk hak h3 h1 h2
  simp -dsimp [g1, g2, s1, s2, hlen, mkBox]
  refine condVW_introE (fun he => ?_) (fun hne _ _ => ?_)
  · simp -dsimp [g1, g2, s1, s2, hlen, mkBox]
    rw [← List.append_assoc]
    exact tidy_toP (Nat.le_refl _) id rfl (h2 (by omega))
  · simp -dsimp [g1, g2, s1, s2, hlen, mkBox]
    refine appendVW_own (g2 _ _ _) (by simp; omega) (by simp; omega) ?_
    simp -dsimp [g1, g2, s1, s2, hlen, mkBox]
    rw [← List.append_assoc]
    have := h1 (by omega)
    simp only [mkBox, mkRow, List.map_append] at this
    refine tidy_to (by simp) (hu _ _ ?_ ?_) rfl this
    · simp [Blk.under, underL, AV.under]
      exact under_ownS _ _ _ (by omega)
    · have := under_mkRow (set2 H a (mkBox 96 k (ls ++ [x]) lab) k (mkRow (ls ++ [x])) ++ L).length (ls ++ [x])
      simpa [mkRow] using this
end Go.Proofs.Lm
namespace Go.Proofs.Lm
open Go.Mu
theorem nodes_call (vars : Int) (n : Nat) : ∀ (l : List Node) (deep : Int), nodesCount l ≤ n → nodesCount l ≤ 2^40 → nodesOk vars deep l = true → ∀ {H : List Blk} {a k : Nat} {ls : List Line} {lab : Nat} {L : List Blk} {R : AE → List Blk → Prop} {w : Wit R},
    a < H.length → k < H.length → a ≠ k → ls.length ≤ 65536 → lab + 2 * nodesCount l ≤ 2^44 →
    (ls.length + (nodesLines l lab).1.length ≤ 65536 → R (.ret (.tup [])) (set2 H a (mkBox 96 k (ls ++ (nodesLines l lab).1) (nodesLines l lab).2) k (mkRow (ls ++ (nodesLines l lab).1)) ++ L)) →
    (65536 < ls.length + (nodesLines l lab).1.length → ∀ (ls' : List Line) (lab' : Nat), R (.pan refV) (set2 H a (mkBox 96 k ls' lab') k (mkRow ls') ++ L)) →
    ACallsW Try.prog 37 [.bp a 0, Node.sl l] (set2 H a (mkBox 96 k ls lab) k (mkRow ls) ++ L) R w := by
  induction n with
  | zero =>
    intro l deep hl hb hok H a k ls lab L R w ha hk hak hls hlab h1 h2
    have : l = [] := List.eq_nil_of_length_eq_zero (by have := nodes_len l; omega)
    subst this
    refine acalls_of_vc (hn := fun _ => false) (od := fun _ => none) Try.func37 rfl (by kernel_rfl) ?_
    simp -dsimp
    refine loop_rule (hn := fun _ => false) (od := fun _ => none) (fun (i : Nat) f H' => H' = set2 H a (mkBox 96 k ls lab) k (mkRow ls) ++ L ∧ f 10 = Node.sl [] ∧ f 11 = I 0 ∧ f 12 = I 0) (fun i => 0) (by kernel_rfl) 0 (by simp) ?_
    rintro i f H' ⟨rfl, h0, h7, h8⟩
    have := h1 (by simpa [nodesLines] using hls)
    simp only [nodesLines, List.append_nil] at this
    simp -dsimp [h0, h7, h8]
    exact this
  | succ n ih =>
    intro l deep hl hb hok H a k ls lab L R w ha hk hak hls hlab h1 h2
    refine acalls_tidy (acalls_of_vc (hn := fun _ => false) (od := fun _ => none) Try.func37 rfl (by kernel_rfl) ?_)
    have hu : ∀ (l1 : List Line) (b1 : Nat), underH (set2 H a (mkBox 96 k ls lab) k (mkRow ls) ++ L).length (set2 H a (mkBox 96 k ls lab) k (mkRow ls) ++ L) = true → underH (set2 H a (mkBox 96 k l1 b1) k (mkRow l1) ++ L).length (set2 H a (mkBox 96 k l1 b1) k (mkRow l1) ++ L) = true := by
      intro l1 b1 h3
      have e : (set2 H a (mkBox 96 k ls lab) k (mkRow ls) ++ L).length = (set2 H a (mkBox 96 k l1 b1) k (mkRow l1) ++ L).length := by simp
      rw [e] at h3
      exact underH_m2 ha hk hak h3 (under_mkBox (by simp; omega) _ _) (under_mkRow _ _)
    have panleaf : Hid (65536 < ls.length + (nodesLines l lab).1.length → ∀ (l1 : List Line) (b1 : Nat) (G : List Blk), Tidy (set2 H a (mkBox 96 k ls lab) k (mkRow ls) ++ L) R (.pan refV) (set2 H a (mkBox 96 k l1 b1) k (mkRow l1) ++ (L ++ G))) := ⟨fun hlt l1 b1 G => by
      rw [← List.append_assoc]
      exact tidy_toP (by simp) (hu l1 b1) rfl (h2 hlt l1 b1)⟩
    have retleaf : Hid (∀ (l1 : List Line) (b1 : Nat) (G : List Blk), l1 = ls ++ (nodesLines l lab).1 → b1 = (nodesLines l lab).2 → l1.length ≤ 65536 → Tidy (set2 H a (mkBox 96 k ls lab) k (mkRow ls) ++ L) R (.ret (.tup [])) (set2 H a (mkBox 96 k l1 b1) k (mkRow l1) ++ (L ++ G))) := ⟨fun l1 b1 G e1 e2 hlt => by
      rw [← List.append_assoc]
      refine tidy_to (by simp) (hu l1 b1) rfl ?_
      rw [e1, e2]
      exact h1 (by rw [e1] at hlt; simpa using hlt)⟩
    clear h1 h2
    have g1 := fun X Y L => m2_getA ha hak X Y L
    have g2 := fun X Y L i => m2_getN (H := H) (a := a) (b := k) X Y L i
    have g3 := fun X Y L => m2_getE (H := H) (a := a) (b := k) X Y L
    have s2 := fun X Y Z L i => m2_setN (H := H) (a := a) (b := k) X Y Z L i
    have s3 := fun X Y Z L => m2_setE (H := H) (a := a) (b := k) X Y Z L
    have hlen := nodes_len l
    simp -dsimp
    refine loop_rule (hn := fun _ => false) (od := fun _ => none) (fun (i : Nat) f H' => (∃ (li : List Line) (bi : Nat) (G : List Blk), H' = set2 H a (mkBox 96 k li bi) k (mkRow li) ++ (L ++ G) ∧ li ++ (nodesLines (l.drop i) bi).1 = ls ++ (nodesLines l lab).1 ∧ (nodesLines (l.drop i) bi).2 = (nodesLines l lab).2 ∧ li.length ≤ 65536 ∧ bi + 2 * nodesCount (l.drop i) ≤ 2^44) ∧ f 0 = .bp a 0 ∧ f 10 = Node.sl l ∧ f 11 = I l.length ∧ f 12 = I i ∧ i ≤ l.length ∧ nodesOk vars deep (l.drop i) = true) (fun i => l.length - i) (by kernel_rfl) 0 (by refine ⟨⟨ls, lab, [], by simp, rfl, rfl, hls, hlab⟩, ?_⟩; simp [hok]) ?_
    rintro i f H' ⟨⟨li, bi, G, rfl, he1, he2, hli, hbi⟩, f0, f10, f11, f12, hi, hoki⟩
    simp -dsimp [f0, f10, f11, f12]
    refine condVW_introD (fun hlt => ?_) (fun hlt => ?_)
    · have hp := node_parts hlt
      have hcd := nodesCount_drop hlt
      rw [Node.count_eq] at hcd
      have hd := nodesOk_drop (vars := vars) (deep := deep) hlt
      rw [hoki, Node.ok_eq] at hd
      obtain ⟨X, b', hXb⟩ : ∃ X b', l[i].lines bi = (X, b') := ⟨_, _, rfl⟩
      have hld := nodesLines_drop hlt bi
      have hlenE := congrArg List.length he1
      rw [hld] at he1 he2 hlenE
      simp only [hXb] at he1 he2 hlenE
      rw [← List.append_assoc] at he1
      simp only [List.length_append] at hlenE
      have hb'le : b' + 2 * nodesCount (l.drop (i + 1)) ≤ 2^44 := by
        have := (lines_le _ [l[i]] (Nat.le_refl _) bi).2.1
        simp only [nodesLines, hXb, nodesCount, Node.count_eq] at this
        omega
      have hoknext : nodesOk vars deep (l.drop (i + 1)) = true := by
        have := hd.symm
        simp only [Bool.and_eq_true] at this
        exact this.2
      have next : Hid (∀ (l1 : List Line) (b1 : Nat) (G' : List Blk), l1 = li ++ X → b1 = b' → l1.length ≤ 65536 → ∃ y, l.length - y < l.length - i ∧ (∃ li_1 bi_1, (∃ x, set2 H a (mkBox 96 k l1 b1) k (mkRow l1) ++ (L ++ G') = set2 H a (mkBox 96 k li_1 bi_1) k (mkRow li_1) ++ (L ++ x)) ∧
          li_1 ++ (nodesLines (List.drop y l) bi_1).fst = ls ++ (nodesLines l lab).fst ∧ (nodesLines (List.drop y l) bi_1).snd = (nodesLines l lab).snd ∧ li_1.length ≤ 65536 ∧ bi_1 + 2 * nodesCount (List.drop y l) ≤ 17592186044416) ∧
          IntKind.i64.wrap ((i : Int) + 1) = (y : Int) ∧ y ≤ l.length ∧ nodesOk vars deep (List.drop y l) = true) := ⟨fun l1 b1 G' e1 e2 e3 => by
        subst e1; subst e2
        exact ⟨i + 1, by omega, ⟨_, _, ⟨_, rfl⟩, he1, he2, e3, by omega⟩, wrapS (by omega), by omega, hoknext⟩⟩
      replace he1 := Hid.mk he1
      replace he2 := Hid.mk he2
      replace hld := Hid.mk hld
      have hsub : l[i].kind ≠ 1 → (l[i].kind = 2 ∨ l[i].kind = 3) ∧ nodesOk vars (deep + 1) l[i].ahead = true ∧ nodesOk vars (deep + 1) l[i].body = true ∧ nodesOk vars (deep + 1) l[i].els = true := by
        intro h1
        rw [if_neg h1] at hd
        have := hd.symm
        simp only [Bool.and_eq_true] at this
        have h2 := this.1.2
        split at h2
        · rename_i h3; simp only [Bool.and_eq_true] at h2; exact ⟨h3, h2.1.1.2, h2.1.2, h2.2⟩
        · cases h2
      clear hd
      simp -dsimp [f0, f10, f11, f12, List.getElem?_eq_getElem, hlt, g1, g2, g3, s2, s3]
      refine condVW_introE (fun hk1 => ?_) (fun hk1 hk1' _ => ?_)
      · have hX := hXb
        rw [Node.lines_ins l[i] bi hk1] at hX
        cases hX
        have hk2 : True := trivial
        have hX : True := trivial
        simp -dsimp [f0, f10, f11, f12, g1, g2, g3, s2, s3, hk1]
        refine line_call (x := ⟨1, l[i].ins, 0, 0⟩) ha hk hak hli (fun hc => ?_) (fun hc => ?_)
        · simp -dsimp [f0, f10, f11, f12]
          exact next.out _ _ _ rfl rfl (by simp; omega)
        · simp -dsimp
          exact panleaf.out (by simp at hlenE; omega) _ _ _
      · obtain ⟨hk23, hoka, hokb, hoke⟩ := hsub hk1
        simp -dsimp [f0, f10, f11, f12, g1, g2, g3, s2, s3]
        refine condVW_introE (fun hk2 => ?_) (fun hk2 hk2' _ => ?_)
        · have hX := hXb
          rw [Node.lines_if l[i] bi hk2] at hX
          obtain ⟨A, bA, hA⟩ : ∃ A b, nodesLines l[i].ahead bi = (A, b) := ⟨_, _, rfl⟩
          obtain ⟨B, bB, hB⟩ : ∃ B b, nodesLines l[i].body (bA + 2) = (B, b) := ⟨_, _, rfl⟩
          obtain ⟨E, bE, hE⟩ : ∃ E b, nodesLines l[i].els bB = (E, b) := ⟨_, _, rfl⟩
          simp only [hA, hB, hE, Prod.mk.injEq] at hX
          obtain ⟨hX, rfl⟩ := hX
          have hbA := lines_le _ l[i].ahead (Nat.le_refl _) bi
          have hbB := lines_le _ l[i].body (Nat.le_refl _) (bA + 2)
          have hbE := lines_le _ l[i].els (Nat.le_refl _) bB
          rw [hA] at hbA; rw [hB] at hbB; rw [hE] at hbE
          have hXl := congrArg List.length hX
          simp only [List.length_append, List.length_cons, List.length_nil] at hXl
          have ihA := @ih l[i].ahead (deep + 1) (by omega) (by omega) hoka
          have ihB := @ih l[i].body (deep + 1) (by omega) (by omega) hokb
          have ihE := @ih l[i].els (deep + 1) (by omega) (by omega) hoke
          simp -dsimp [f0, f10, f11, f12, g1, g2, g3, s2, s3, hk2]
          refine ihA ha hk hak hli (by omega) (fun hc => ?_) (fun hc _ _ => ?_)
          rotate_left
          · simp -dsimp; exact panleaf.out (by simp only [List.length_append, List.length_cons, List.length_nil, hA, hB, hE] at hc; omega) _ _ _
          simp -dsimp [f0, f10, f11, f12, g1, g2, g3, s2, s3]
          simp only [List.length_append, List.length_cons, List.length_nil, hA, hB, hE] at hc ⊢
          refine label_call (lab := bA) ha hk hak (by omega) ?_
          simp -dsimp [f0, f10, f11, f12, g1, g2, g3, s2, s3]
          refine label_call (lab := bA + 1) ha hk hak (by omega) ?_
          simp -dsimp [f0, f10, f11, f12, g1, g2, g3, s2, s3]
          refine line_call (x := lineOf 4 l[i].cond bA) ha hk hak (by simp only [List.length_append, List.length_cons, List.length_nil]; omega) (fun hc => ?_) (fun hc => ?_)
          rotate_left
          · simp -dsimp; exact panleaf.out (by simp only [List.length_append, List.length_cons, List.length_nil, hA, hB, hE] at hc; omega) _ _ _
          simp -dsimp [f0, f10, f11, f12, g1, g2, g3, s2, s3]
          simp only [List.length_append, List.length_cons, List.length_nil, hA, hB, hE] at hc ⊢
          refine ihB ha hk hak (by simp only [List.length_append, List.length_cons, List.length_nil]; omega) (by omega) (fun hc => ?_) (fun hc _ _ => ?_)
          rotate_left
          · simp -dsimp; exact panleaf.out (by simp only [List.length_append, List.length_cons, List.length_nil, hA, hB, hE] at hc; omega) _ _ _
          simp -dsimp [f0, f10, f11, f12, g1, g2, g3, s2, s3]
          simp only [List.length_append, List.length_cons, List.length_nil, hA, hB, hE] at hc ⊢
          refine line_call (x := lineOf 3 0 ((bA : Int) + 1)) ha hk hak (by simp only [List.length_append, List.length_cons, List.length_nil]; omega) (fun hc => ?_) (fun hc => ?_)
          rotate_left
          · simp -dsimp; exact panleaf.out (by simp only [List.length_append, List.length_cons, List.length_nil, hA, hB, hE] at hc; omega) _ _ _
          simp -dsimp [f0, f10, f11, f12, g1, g2, g3, s2, s3]
          simp only [List.length_append, List.length_cons, List.length_nil, hA, hB, hE] at hc ⊢
          refine line_call (x := lineOf 2 0 bA) ha hk hak (by simp only [List.length_append, List.length_cons, List.length_nil]; omega) (fun hc => ?_) (fun hc => ?_)
          rotate_left
          · simp -dsimp; exact panleaf.out (by simp only [List.length_append, List.length_cons, List.length_nil, hA, hB, hE] at hc; omega) _ _ _
          simp -dsimp [f0, f10, f11, f12, g1, g2, g3, s2, s3]
          simp only [List.length_append, List.length_cons, List.length_nil, hA, hB, hE] at hc ⊢
          refine ihE ha hk hak (by simp only [List.length_append, List.length_cons, List.length_nil]; omega) (by omega) (fun hc => ?_) (fun hc _ _ => ?_)
          rotate_left
          · simp -dsimp; exact panleaf.out (by simp only [List.length_append, List.length_cons, List.length_nil, hA, hB, hE] at hc; omega) _ _ _
          simp -dsimp [f0, f10, f11, f12, g1, g2, g3, s2, s3]
          simp only [List.length_append, List.length_cons, List.length_nil, hA, hB, hE] at hc ⊢
          refine line_call (x := lineOf 2 0 ((bA : Int) + 1)) ha hk hak (by simp only [List.length_append, List.length_cons, List.length_nil]; omega) (fun hc => ?_) (fun hc => ?_)
          rotate_left
          · simp -dsimp; exact panleaf.out (by simp only [List.length_append, List.length_cons, List.length_nil, hA, hB, hE] at hc; omega) _ _ _
          simp -dsimp [f0, f10, f11, f12, g1, g2, g3, s2, s3]
          simp only [List.length_append, List.length_cons, List.length_nil, hA, hB, hE] at hc ⊢
          exact next.out _ _ _ (by rw [← hX]; simp) rfl (by simp; omega)
        · have hk3 : l[i].kind = 3 := hk23.resolve_left hk2
          simp -dsimp [f0, f10, f11, f12, g1, g2, g3, s2, s3, hk3]
          have hX := hXb
          rw [Node.lines_loop l[i] bi hk1 hk2] at hX
          obtain ⟨A, bA, hA⟩ : ∃ A b, nodesLines l[i].ahead (bi + 2) = (A, b) := ⟨_, _, rfl⟩
          obtain ⟨B, bB, hB⟩ : ∃ B b, nodesLines l[i].body bA = (B, b) := ⟨_, _, rfl⟩
          simp only [hA, hB, Prod.mk.injEq] at hX
          obtain ⟨hX, rfl⟩ := hX
          have hbA := lines_le _ l[i].ahead (Nat.le_refl _) (bi + 2)
          have hbB := lines_le _ l[i].body (Nat.le_refl _) bA
          rw [hA] at hbA; rw [hB] at hbB
          have hXl := congrArg List.length hX
          simp only [List.length_append, List.length_cons, List.length_nil] at hXl
          have ihA := @ih l[i].ahead (deep + 1) (by omega) (by omega) hoka
          have ihB := @ih l[i].body (deep + 1) (by omega) (by omega) hokb
          refine label_call (lab := bi) ha hk hak (by omega) ?_
          simp -dsimp [f0, f10, f11, f12, g1, g2, g3, s2, s3]
          refine label_call (lab := bi + 1) ha hk hak (by omega) ?_
          simp -dsimp [f0, f10, f11, f12, g1, g2, g3, s2, s3]
          refine line_call (x := lineOf 2 0 bi) ha hk hak hli (fun hc => ?_) (fun hc => ?_)
          rotate_left
          · simp -dsimp; exact panleaf.out (by (try simp only [List.length_append, List.length_cons, List.length_nil, hA, hB] at hc); omega) _ _ _
          simp -dsimp [f0, f10, f11, f12, g1, g2, g3, s2, s3]
          try simp only [List.length_append, List.length_cons, List.length_nil, hA, hB] at hc ⊢
          refine ihA ha hk hak (by simp only [List.length_append, List.length_cons, List.length_nil]; omega) (by omega) (fun hc => ?_) (fun hc _ _ => ?_)
          rotate_left
          · simp -dsimp; exact panleaf.out (by (try simp only [List.length_append, List.length_cons, List.length_nil, hA, hB] at hc); omega) _ _ _
          simp -dsimp [f0, f10, f11, f12, g1, g2, g3, s2, s3]
          try simp only [List.length_append, List.length_cons, List.length_nil, hA, hB] at hc ⊢
          refine line_call (x := lineOf 4 l[i].cond ((bi : Int) + 1)) ha hk hak (by simp only [List.length_append, List.length_cons, List.length_nil]; omega) (fun hc => ?_) (fun hc => ?_)
          rotate_left
          · simp -dsimp; exact panleaf.out (by (try simp only [List.length_append, List.length_cons, List.length_nil, hA, hB] at hc); omega) _ _ _
          simp -dsimp [f0, f10, f11, f12, g1, g2, g3, s2, s3]
          try simp only [List.length_append, List.length_cons, List.length_nil, hA, hB] at hc ⊢
          refine ihB ha hk hak (by simp only [List.length_append, List.length_cons, List.length_nil]; omega) (by omega) (fun hc => ?_) (fun hc _ _ => ?_)
          rotate_left
          · simp -dsimp; exact panleaf.out (by (try simp only [List.length_append, List.length_cons, List.length_nil, hA, hB] at hc); omega) _ _ _
          simp -dsimp [f0, f10, f11, f12, g1, g2, g3, s2, s3]
          try simp only [List.length_append, List.length_cons, List.length_nil, hA, hB] at hc ⊢
          refine line_call (x := lineOf 3 0 bi) ha hk hak (by simp only [List.length_append, List.length_cons, List.length_nil]; omega) (fun hc => ?_) (fun hc => ?_)
          rotate_left
          · simp -dsimp; exact panleaf.out (by (try simp only [List.length_append, List.length_cons, List.length_nil, hA, hB] at hc); omega) _ _ _
          simp -dsimp [f0, f10, f11, f12, g1, g2, g3, s2, s3]
          try simp only [List.length_append, List.length_cons, List.length_nil, hA, hB] at hc ⊢
          refine line_call (x := lineOf 2 0 ((bi : Int) + 1)) ha hk hak (by simp only [List.length_append, List.length_cons, List.length_nil]; omega) (fun hc => ?_) (fun hc => ?_)
          rotate_left
          · simp -dsimp; exact panleaf.out (by (try simp only [List.length_append, List.length_cons, List.length_nil, hA, hB] at hc); omega) _ _ _
          simp -dsimp [f0, f10, f11, f12, g1, g2, g3, s2, s3]
          try simp only [List.length_append, List.length_cons, List.length_nil, hA, hB] at hc ⊢
          exact next.out _ _ _ (by rw [← hX]; simp) rfl (by simp; omega)
    · rw [drop_end hlt] at he1 he2
      simp only [nodesLines, List.append_nil] at he1 he2
      simp -dsimp [f0, f10, f11, f12]
      exact retleaf.out _ _ _ he1 he2 hli
end Go.Proofs.Lm
namespace Go.Proofs.Lm
open Go.Mu
end Go.Proofs.Lm
namespace Go.Proofs.Lm
open Go.Mu
theorem clone_ok (l : List Int) (hl : l.length ≤ 2^40) (H : List Blk) : ACalls Try.prog 39 [Int.sl l] H (fun e H' => e = .ret (Int.sl l) ∧ H' = H) := by
  refine acalls_under fun hu _ => acalls_tidy (acalls_weakE (acalls_of_vc (hn := fun d => d == 5 || d == 7) (od := fun _ => none) Try.func39 rfl (by kernel_rfl) ?_))
  simp -dsimp
  have own : ∀ (R : AE → List Blk → Prop), R = (Tidy H fun e H' => e = AE.ret (Int.sl l) ∧ H' = H) → WeakE R (.ret (.hs H.length 0 l.length l.length)) (H ++ [.row 3 1 (l.map fun n => [I n])]) := by
    intro R hR
    refine tidy_weak (.refl _) ?_
    rw [hR]
    refine tidy_give hu 0 1 3 (l.map fun n => [I n]) rfl (by simp [AV.frzB]) ?_
    simp only [AV.frz, List.length_map, Nat.add_zero, and_self, if_true, List.drop_zero]
    have : List.take l.length (l.map fun n => [I n]) = l.map fun n => [I n] := List.take_of_length_le (by simp)
    rw [this]
    exact tidy_same rfl ⟨rfl, rfl⟩
  refine slNilW_vs (fun hne => ?_) (fun he => ⟨?_, ?_⟩)
  · simp -dsimp
    refine appendVW_hs (es := []) (by simp) rfl rfl (by simp; omega) (by simp; omega) ?_
    simp -dsimp
    exact own _ rfl
  · have : l = [] := by simpa using he
    subst this
    simp -dsimp
    refine tidy_weak (.nil 1) ?_
    exact tidy_now rfl ⟨rfl, rfl⟩
  · simp -dsimp
    refine appendVW_hs (es := []) (by simp) rfl rfl (by simp; omega) (by simp; omega) ?_
    simp -dsimp
    exact own _ rfl
@[simp] theorem nil20 : binE Try.prog .eql 20 (.v .nilIface) (.v .nilIface) = some (.v (.bool true)) := by kernel_rfl
@[simp] theorem ifc20 (t : Nat) (x : AV) : binE Try.prog .eql 20 (.ifc t x) (.v .nilIface) = some (.v (.bool false)) := by kernel_rfl
theorem rec_none (t2 t3 : Nat) (H : List Blk) : RecSem Try.prog ⟨36, [.bp t2 0, .bp t3 0], none⟩ (.v .nilIface) H (fun H' => H' = H) := by
  refine recSem_of_vc (hn := fun _ => false) (od := fun _ => none) Try.func36 rfl rfl (by kernel_rfl) ?_
  show vcC _ _ _ _ _ (recQ _) _ _ _
  simp -dsimp
abbrev nilS : AV := .v (.slice none 0 0)
theorem rec_some (t2 t3 : Nat) (H : List Blk) (h2 : H[t2]? = some (.box 30 [I 0, nilS, nilS, I 0, nilS])) (h3 : H[t3]? = some (.box 31 [I 0])) (h23 : t2 ≠ t3) : RecSem Try.prog ⟨36, [.bp t2 0, .bp t3 0], none⟩ refV H
    (fun H' => ∃ L, H' = set2 H t2 (.box 30 [I 0, nilS, nilS, I 0, nilS]) t3 (.box 31 [I 13]) ++ L) := by
  refine recSem_of_vc (hn := fun _ => false) (od := fun _ => none) Try.func36 rfl rfl (by kernel_rfl) ?_
  show vcC _ _ _ _ _ (recQ _) _ _ _
  have l2 := lt_of_get h2
  have l3 := lt_of_get h3
  have hH : H = set2 H t2 (.box 30 [I 0, nilS, nilS, I 0, nilS]) t3 (.box 31 [I 0]) ++ [] := by rw [set2_same h2 h3]; simp
  rw [hH]
  clear h2 h3
  have g1 := fun X Y L => m2_getA l2 h23 X Y L
  have g2 := fun X Y L => m2_getB (a := t2) l3 X Y L
  have g3 := fun X Y L i => m2_getN (H := H) (a := t2) (b := t3) X Y L i
  have g4 := fun X Y L => m2_getE (H := H) (a := t2) (b := t3) X Y L
  have s1 := fun X Y Z L => m2_setA l2 h23 X Y Z L
  have s2 := fun X Y Z L => m2_setB (a := t2) l3 X Y Z L
  have s4 := fun X Y Z L => m2_setE (H := H) (a := t2) (b := t3) X Y Z L
  clear hH
  simp -dsimp [assertV, g1, g2, g3, g4, s1, s2, s4]
  exact ⟨[.box 93 []], by rw [set2_set2 l2 l3 h23]⟩
def MakeR (f : Flat) (H : List Blk) (e : AE) (H' : List Blk) : Prop :=
  ∃ (l : Linear) (n : Int), e = .ret (.tup [.agg l.cells, I n]) ∧ H' = H ∧ (f.ok = false → n = 2 ∧ l = ⟨0, [], [], 0, []⟩) ∧
    (f.ok = true → ((nodesLines f.code 0).1.length < 65536 → n = 0 ∧ l = ⟨f.vars, f.params, f.rets, f.frame, (nodesLines f.code 0).1 ++ [lineOf 5 0 0]⟩) ∧ (65536 ≤ (nodesLines f.code 0).1.length → n = 13))
theorem make_ok (f : Flat) (hp : f.params.length ≤ 2^40) (hr : f.rets.length ≤ 2^40) (hc : nodesCount f.code ≤ 2^36) (H : List Blk) : ACalls Try.prog 11 [.agg f.cells] H (MakeR f H) := by
  refine acalls_under fun hu _ => acalls_tidy (acalls_weakE (acalls_spare 1 (acalls_of_vcD (hn := fun _ => false) (od := fun _ => none) Try.func11 rfl (by kernel_rfl) ?_)))
  have hmay := fun H => may_ok f hp hr (by omega) H
  simp only [Flat.cells] at hmay
  simp -dsimp
  refine acallsW_det (hmay _) ?_
  simp -dsimp
  have hweak : Weak (.tup [.agg [I 0, nilS, nilS, I 0, nilS], I 2]) (.tup [.agg (Linear.mk 0 [] [] 0 []).cells, I 2]) :=
    .tupL (.cons (.aggL (.cons (.refl _) (.cons (.nil 1) (.cons (.nil 1) (.cons (.refl _) (.cons (.nil 11) .nil)))))) (.cons (.refl _) .nil))
  have hweak13 : Weak (.tup [.agg [I 0, nilS, nilS, I 0, nilS], I 13]) (.tup [.agg (Linear.mk 0 [] [] 0 []).cells, I 13]) :=
    .tupL (.cons (.aggL (.cons (.refl _) (.cons (.nil 1) (.cons (.nil 1) (.cons (.refl _) (.cons (.nil 11) .nil)))))) (.cons (.refl _) .nil))
  refine condVW_introB (fun hok => ?_) (fun hok => ?_)
  · simp -dsimp
    exact tidy_weak hweak (tidy_same rfl ⟨_, 2, rfl, rfl, fun _ => ⟨rfl, rfl⟩, fun h => absurd h (by simp [hok])⟩)
  · have hnok : nodesOk f.vars 1 f.code = true := by simp only [Flat.ok, Bool.and_eq_true] at hok; exact hok.2
    have hcount : nodesCount f.code ≤ 16384 := by simp only [Flat.ok, Bool.and_eq_true, decide_eq_true_eq] at hok; exact hok.1.2
    obtain ⟨N, lb, hN⟩ : ∃ N lb, nodesLines f.code 0 = (N, lb) := ⟨_, _, rfl⟩
    simp -dsimp
    obtain ⟨M, hM⟩ : ∃ M, M = H ++ [Blk.pend, Blk.box 25 [I f.vars, Int.sl f.params, Int.sl f.rets, I f.frame, Node.sl f.code], .box 30 [I 0, nilS, nilS, I 0, nilS], .box 31 [I 0], .box 96 [nilS, I 0]] := ⟨_, rfl⟩
    have hMl : M.length = H.length + 5 := by rw [hM]; simp
    have hM0 : M = set2 M (H.length + 4) (mkBox 96 H.length [] 0) H.length (mkRow []) ++ [] := by
      rw [List.append_nil, set2_same]
      · rw [hM]; simp [mkBox]
      · rw [hM]; simp [mkRow]
    have fold : ∀ X Y L, set2 M (H.length + 4) X H.length Y ++ L = H ++ ([Y, Blk.box 25 [I f.vars, Int.sl f.params, Int.sl f.rets, I f.frame, Node.sl f.code], .box 30 [I 0, nilS, nilS, I 0, nilS], .box 31 [I 0], X] ++ L) := by
      intro X Y L; rw [hM]; simp [set2]
    have fold0 : ∀ X Y, set2 M (H.length + 4) X H.length Y = H ++ [Y, Blk.box 25 [I f.vars, Int.sl f.params, Int.sl f.rets, I f.frame, Node.sl f.code], .box 30 [I 0, nilS, nilS, I 0, nilS], .box 31 [I 0], X] := by
      intro X Y; have := fold X Y []; simpa using this
    have pan : ∀ (L : List Blk) (h65 : 65536 ≤ N.length), WeakE (Tidy H (MakeR f H)) (.ret (.tup [.agg [I 0, nilS, nilS, I 0, nilS], I 13])) (H ++ L) := fun L h65 =>
      tidy_weak hweak13 (tidy_same rfl ⟨_, 13, rfl, rfl, fun h => absurd h (by simp [hok]), fun _ => by rw [hN]; exact ⟨fun h => by simp only at h; omega, fun _ => rfl⟩⟩)
    rw [← hM, hM0]
    refine nodes_call f.vars _ f.code 1 (Nat.le_refl _) (by omega) hnok (by omega) (by omega) (by omega) (by simp) (by omega) (fun h65 => ?_) (fun h65 ls' lab' => ?_)
    rotate_left
    · rw [hN] at h65
      simp -dsimp [fold0]
      refine recW_of (rec_some (H.length + 2) (H.length + 3) _ (by simp) (by simp) (by omega)) ?_
      rintro H' ⟨L, rfl⟩
      simp -dsimp [set2]
      exact pan _ (by simp at h65; omega)
    rw [hN] at h65 ⊢
    simp only [List.nil_append, List.length_nil, Nat.zero_add] at h65 ⊢
    simp -dsimp
    have e : set2 M (H.length + 4) (mkBox 96 H.length N lb) H.length (mkRow N) = set2 M (H.length + 4) (mkBox 96 H.length N lb) H.length (mkRow N) ++ [] := by simp
    rw [e]
    refine line_call (x := lineOf 5 0 0) (H := M) (a := H.length + 4) (k := H.length) (by omega) (by omega) (by omega) (by omega) (fun hc => ?_) (fun hc => ?_)
    rotate_left
    · simp -dsimp [fold0]
      refine recW_of (rec_some (H.length + 2) (H.length + 3) _ (by simp) (by simp) (by omega)) ?_
      rintro H' ⟨L, rfl⟩
      simp -dsimp [set2]
      exact pan _ (by omega)
    have hcl1 := clone_ok f.params hp
    have hcl2 := clone_ok f.rets hr
    rw [fold]
    simp -dsimp [mkBox, mkRow]
    refine callDW_intro (hcl1 _) ?_
    simp -dsimp
    refine callDW_intro (hcl2 _) ?_
    simp -dsimp
    refine recW_of (rec_none _ _ _) ?_
    rintro H' rfl
    simp -dsimp
    obtain ⟨es, hes⟩ : ∃ es, es = (N ++ [lineOf 5 0 0]).map Line.cells := ⟨_, rfl⟩
    have hes2 : List.map Line.cells N ++ [[I 5, I 0, I 0, I 0, I 0, I 0, I 0, U 0, Bo false, I 0, I 0]] = es := by rw [hes]; simp
    have hne : es ≠ [] := by rw [hes]; simp
    have hz : es.flatten.all AV.frzB = true := by
      rw [hes, List.all_eq_true]
      intro c hc
      obtain ⟨e, he, hce⟩ := List.mem_flatten.1 hc
      obtain ⟨x, _, rfl⟩ := List.mem_map.1 he
      simp at hce
      rcases hce with rfl | rfl | rfl | rfl | rfl | rfl | rfl | rfl | rfl | rfl | rfl <;> rfl
    rw [hes2]
    refine tidy_weak (.refl _) ?_
    rw [ownB, if_neg hne]
    have hfz : (AV.tup [.agg [I f.vars, Int.sl f.params, Int.sl f.rets, I f.frame, ownS H.length es], I 0]).frz H.length 11 es = .tup [.agg [I f.vars, Int.sl f.params, Int.sl f.rets, I f.frame, .vs 11 es], I 0] := by
      simp [AV.frz, frzL, frz_own _ _ _ hne]
    refine tidy_give1 hu 11 45 es hz ?_ ?_
    · rw [hfz]; rfl
    · rw [hfz]
      refine ⟨⟨f.vars, f.params, f.rets, f.frame, N ++ [lineOf 5 0 0]⟩, 0, by rw [hes]; rfl, rfl, fun h => absurd h (by simp [hok]), fun _ => ?_⟩
      rw [hN]
      exact ⟨fun _ => ⟨rfl, rfl⟩, fun h => by simp only at h; omega⟩
end Go.Proofs.Lm
namespace Go.Proofs.Lm
open Go.Mu
theorem line_nq (x y : Line) : binE Try.prog .neq 45 (.agg x.cells) (.agg y.cells) = some (Bo (!decide (x = y))) := by
  simp only [Line.cells, I, U, Bo]
  rw [Try.nq45]
  congr 3
  congr 1
  rw [Bool.eq_iff_iff]
  simp [Line.ext_iff, Ins.ext_iff]
theorem take_next {α : Type} {a b : List α} {i : Nat} (ha : i < a.length) (hb : i < b.length) (h : a.take i = b.take i) (he : a[i] = b[i]) : a.take (i + 1) = b.take (i + 1) := by
  rw [List.take_succ_eq_append_getElem ha, List.take_succ_eq_append_getElem hb, h, he]
theorem same_ok (a b : Linear) (h1 : a.params.length ≤ 2^40) (h2 : a.rets.length ≤ 2^40) (h3 : a.code.length ≤ 2^40) (H : List Blk) : ACalls Try.prog 13 [.agg a.cells, .agg b.cells] H (fun e H' => e = .ret (Bo (decide (a = b))) ∧ H' = H) := by
  refine acalls_tidy (acalls_of_vc (hn := fun d => false) (od := fun i => none) Try.func13 rfl (by kernel_rfl) ?_)
  have leaf : ∀ (L : List Blk) (c : Bool), c = decide (a = b) → Tidy H (fun e H' => e = AE.ret (Bo (decide (a = b))) ∧ H' = H) (AE.ret (AV.v (Value.bool c))) (H ++ L) := fun L c hb => tidy_same rfl ⟨by rw [hb], rfl⟩
  replace leaf := Hid.mk leaf
  have hs1 := fun H => sameInts_ok a.params b.params H h1
  have hs2 := fun H => sameInts_ok a.rets b.rets H h2
  have hnq := fun (x y : Line) => line_nq x y
  simp only [Line.cells] at hnq
  simp -dsimp
  repeat' ((with_reducible first | refine And.intro ?_ ?_ | refine guardVW_introTD (fun _ => ?_) (fun _ => ?_) | refine guardVW_introFD (fun _ => ?_) (fun _ => ?_) | refine condVW_introD (fun _ => ?_) (fun _ => ?_) | refine guardVW_introTE (fun _ => ?_) (fun _ _ _ => ?_) | refine guardVW_introFE (fun _ => ?_) (fun _ _ _ => ?_) | refine condVW_introE (fun _ => ?_) (fun _ _ _ => ?_) | refine guardVW_introTNE (fun _ _ _ => ?_) (fun _ => ?_) | refine guardVW_introFNE (fun _ _ _ => ?_) (fun _ => ?_) | refine condVW_introNE (fun _ _ _ => ?_) (fun _ => ?_) | refine guardVW_introTB (fun _ => ?_) (fun _ => ?_) | refine guardVW_introFB (fun _ => ?_) (fun _ => ?_) | refine condVW_introB (fun _ => ?_) (fun _ => ?_) | refine guardVW_introT (fun _ => ?_) (fun _ => ?_) | refine guardVW_introF (fun _ => ?_) (fun _ => ?_) | refine condVW_intro (fun _ => ?_) (fun _ => ?_) | refine acallsW_det (hs1 _) ?_ | refine callDW_intro (hs1 _) ?_ | refine acallsW_det (hs2 _) ?_ | refine callDW_intro (hs2 _) ?_) <;> simp -dsimp [*])
  case refine_2.refine_2.refine_2.refine_2.refine_2 e1 e2 e3 e4 e5 =>
    simp at e3 e4
    have e5' : a.code.length = b.code.length := by omega
    refine loop_rule (hn := fun _ => false) (od := fun _ => none) (fun (i : Nat) f H' => H' = H ++ [Blk.box 30 [I b.vars, Int.sl a.params, Int.sl a.rets, I b.frame, Line.sl a.code], Blk.box 30 [I b.vars, Int.sl b.params, Int.sl b.rets, I b.frame, Line.sl b.code]] ∧ f 2 = .bp H.length 0 ∧ f 3 = .bp (H.length + 1) 0 ∧ f 5 = I i ∧ i ≤ a.code.length ∧ a.code.take i = b.code.take i) (fun i => a.code.length - i) (by kernel_rfl) 0 (by simp) ?_
    rintro i f H' ⟨rfl, f2, f3, f5, hi, hok⟩
    simp -dsimp [f2, f3, f5]
    refine condVW_introD (fun hlt => ?_) (fun hlt => ?_)
    · have hlt' : i < b.code.length := by omega
      have hab : a = b → a.code[i] = b.code[i] := by rintro rfl; rfl
      simp -dsimp [f2, f3, f5, List.getElem?_eq_getElem, hlt, hlt', hnq]
      refine condVW_intro (fun hne => ?_) (fun heq => ?_)
      · simp -dsimp
        refine leaf.out _ _ ?_
        simp only [Bool.not_eq_true', decide_eq_false_iff_not] at hne
        symm; rw [decide_eq_false_iff_not]; exact fun h => hne (hab h)
      · simp only [Bool.not_eq_false', decide_eq_true_eq] at heq
        simp -dsimp [f2, f3, f5]
        exact ⟨i + 1, by omega, wrapS (by omega), by omega, take_next hlt hlt' hok heq⟩
    · simp -dsimp [f2, f3, f5]
      rw [List.take_of_length_le (by omega), List.take_of_length_le (by omega)] at hok
      refine leaf.out _ _ ?_
      cases a; cases b
      simp_all
  all_goals refine leaf.out _ _ ?_
  all_goals (symm; rw [decide_eq_false_iff_not]; rintro rfl; simp_all)
end Go.Proofs.Lm
namespace Go.Proofs.Lm
open Go.Mu
end Go.Proofs.Lm
namespace Go.Proofs.Lm
open Go.Mu
end Go.Proofs.Lm
namespace Go.Proofs.Lm
open Go.Mu
abbrev insOf (kind op d a : Int) : Ins := ⟨kind, op, d, a, 0, 0, 0, false⟩
def known1 : Flat := ⟨3, [], [], 0, [.mk 2 zeroIns 0 [] [.mk 1 (insOf 2 0 1 2) 0 [] [] []] []]⟩
def known2 : Flat := ⟨1, [], [], 0, [.mk 3 zeroIns 0 [] [] []]⟩
def known1L : Linear := ⟨3, [], [], 0, [lineOf 4 0 0, ⟨1, insOf 2 0 1 2, 0, 0⟩, lineOf 3 0 1, lineOf 2 0 0, lineOf 2 0 1, lineOf 5 0 0]⟩
def known2L : Linear := ⟨1, [], [], 0, [lineOf 2 0 0, lineOf 4 0 1, lineOf 3 0 0, lineOf 2 0 1, lineOf 5 0 0]⟩
theorem known1_call (H : List Blk) : ACalls Try.prog 11 [.agg [I 3, nilS, nilS, I 0, .vs 13 [[I 2, I 0, I 0, I 0, I 0, I 0, I 0, U 0, Bo false, I 0, nilS, .vs 13 [[I 1, I 2, I 0, I 1, I 2, I 0, I 0, U 0, Bo false, I 0, nilS, nilS, nilS]], nilS]]]] H
    (fun e H' => e = .ret (.tup [.agg known1L.cells, I 0]) ∧ H' = H) := by
  refine acalls_weak (args' := [.agg known1.cells]) ?_ ?_
  · simp only [known1, Flat.cells, Node.sl, Int.sl, List.map_cons, List.map_nil, Node.cells_eq, Node.kind, Node.ins, Node.cond, Node.ahead, Node.body, Node.els, zeroIns, insOf]
    repeat first | exact Weak.refl _ | exact Weak.nil _ | exact WeakL.nil | exact WeakR.nil | apply Weak.aggL | apply Weak.vsR | apply WeakL.cons | apply WeakR.cons
  · have hok : known1.ok = true := by decide
    have hl : nodesLines known1.code 0 = ([lineOf 4 0 0, ⟨1, insOf 2 0 1 2, 0, 0⟩, lineOf 3 0 1, lineOf 2 0 0, lineOf 2 0 1], 2) := by decide
    refine (make_ok known1 (by decide) (by decide) (by decide) H).mono fun e H' => ?_
    rintro ⟨l, n, rfl, rfl, -, h⟩
    have h := (h hok).1 (by rw [hl]; decide)
    rw [hl] at h
    obtain ⟨rfl, rfl⟩ := h
    exact ⟨rfl, rfl⟩
theorem known2_call (H : List Blk) : ACalls Try.prog 11 [.agg [I 1, nilS, nilS, I 0, .vs 13 [[I 3, I 0, I 0, I 0, I 0, I 0, I 0, U 0, Bo false, I 0, nilS, nilS, nilS]]]] H
    (fun e H' => e = .ret (.tup [.agg known2L.cells, I 0]) ∧ H' = H) := by
  refine acalls_weak (args' := [.agg known2.cells]) ?_ ?_
  · simp only [known2, Flat.cells, Node.sl, Int.sl, List.map_cons, List.map_nil, Node.cells_eq, Node.kind, Node.ins, Node.cond, Node.ahead, Node.body, Node.els, zeroIns, insOf]
    repeat first | exact Weak.refl _ | exact Weak.nil _ | exact WeakL.nil | exact WeakR.nil | apply Weak.aggL | apply Weak.vsR | apply WeakL.cons | apply WeakR.cons
  · have hok : known2.ok = true := by decide
    have hl : nodesLines known2.code 0 = ([lineOf 2 0 0, lineOf 4 0 1, lineOf 3 0 0, lineOf 2 0 1], 2) := by decide
    refine (make_ok known2 (by decide) (by decide) (by decide) H).mono fun e H' => ?_
    rintro ⟨l, n, rfl, rfl, -, h⟩
    have h := (h hok).1 (by rw [hl]; decide)
    rw [hl] at h
    obtain ⟨rfl, rfl⟩ := h
    exact ⟨rfl, rfl⟩
theorem same1 (H : List Blk) : ACalls Try.prog 13 [.agg known1L.cells, .agg [I 3, nilS, nilS, I 0, .vs 11 (known1L.code.map Line.cells)]] H (fun e H' => e = .ret (Bo true) ∧ H' = H) := by
  refine acalls_weak (args' := [.agg known1L.cells, .agg known1L.cells]) ?_ ((same_ok known1L known1L (by decide) (by decide) (by decide) H).mono fun e H' h => by simpa using h)
  simp only [known1L, Linear.cells, Int.sl, Line.sl, List.map_cons, List.map_nil, Line.cells]
  repeat first | exact Weak.refl _ | exact Weak.nil _ | exact WeakL.nil | exact WeakR.nil | apply Weak.aggL | apply Weak.vsR | apply WeakL.cons | apply WeakR.cons
theorem same2 (H : List Blk) : ACalls Try.prog 13 [.agg known2L.cells, .agg [I 1, nilS, nilS, I 0, .vs 11 (known2L.code.map Line.cells)]] H (fun e H' => e = .ret (Bo true) ∧ H' = H) := by
  refine acalls_weak (args' := [.agg known2L.cells, .agg known2L.cells]) ?_ ((same_ok known2L known2L (by decide) (by decide) (by decide) H).mono fun e H' h => by simpa using h)
  simp only [known2L, Linear.cells, Int.sl, Line.sl, List.map_cons, List.map_nil, Line.cells]
  repeat first | exact Weak.refl _ | exact Weak.nil _ | exact WeakL.nil | exact WeakR.nil | apply Weak.aggL | apply Weak.vsR | apply WeakL.cons | apply WeakR.cons
theorem known_ok (H : List Blk) : ACalls Try.prog 10 [] H (fun e H' => e = .ret (Bo true) ∧ H' = H) := by
  refine acalls_tidy (acalls_of_vc (hn := fun _ => false) (od := fun _ => none) Try.func10 rfl (by kernel_rfl) ?_)
  have c1 := known1_call
  have c2 := known2_call
  have s1 := same1
  have s2 := same2
  simp only [known1L, known2L, Linear.cells, Int.sl, Line.sl, List.map_cons, List.map_nil, Line.cells, lineOf, insOf] at c1 c2 s1 s2
  simp -dsimp
  repeat' ((with_reducible first | refine And.intro ?_ ?_ | refine guardVW_introTD (fun _ => ?_) (fun _ => ?_) | refine guardVW_introFD (fun _ => ?_) (fun _ => ?_) | refine condVW_introD (fun _ => ?_) (fun _ => ?_) | refine guardVW_introTE (fun _ => ?_) (fun _ _ _ => ?_) | refine guardVW_introFE (fun _ => ?_) (fun _ _ _ => ?_) | refine condVW_introE (fun _ => ?_) (fun _ _ _ => ?_) | refine guardVW_introTNE (fun _ _ _ => ?_) (fun _ => ?_) | refine guardVW_introFNE (fun _ _ _ => ?_) (fun _ => ?_) | refine condVW_introNE (fun _ _ _ => ?_) (fun _ => ?_) | refine guardVW_introTB (fun _ => ?_) (fun _ => ?_) | refine guardVW_introFB (fun _ => ?_) (fun _ => ?_) | refine condVW_introB (fun _ => ?_) (fun _ => ?_) | refine guardVW_introT (fun _ => ?_) (fun _ => ?_) | refine guardVW_introF (fun _ => ?_) (fun _ => ?_) | refine condVW_intro (fun _ => ?_) (fun _ => ?_) | refine acallsW_det (c1 _) ?_ | refine callDW_intro (c1 _) ?_ | refine acallsW_det (c2 _) ?_ | refine callDW_intro (c2 _) ?_ | refine acallsW_det (s1 _) ?_ | refine callDW_intro (s1 _) ?_ | refine acallsW_det (s2 _) ?_ | refine callDW_intro (s2 _) ?_) <;> simp -dsimp [*])
  all_goals exact tidy_same rfl ⟨rfl, rfl⟩
end Go.Proofs.Lm
namespace Go.Proofs
open Go.Mu
theorem more_law (l : Linear) (args : List Int) (r : List Rg) (w : List (List Int)) (F G : Int) (hs : l.Sm) (hal : args.length ≤ 2^40) (hrr : r.length ≤ 2^40) (hw : ∀ x ∈ l.code, 0 ≤ x.ins.word ∧ x.ins.word ≤ 18446744073709551615) (H : List Blk) :
    ACalls Try.prog 8 [.agg l.cells, Wo.sl args, Rg.sl r, Us.sl w, I F, I G] H (fun e H' => e = .ret (Bo true) ∧ H' = H) := by
  refine acalls_tidy (acalls_of_awp Try.func8 rfl (by kernel_rfl) ?_)
  have hpl := hs.params
  have hrel := hs.rets
  have hcl := hs.code
  have kn := Lm.known_ok
  have sh := fun H => short_ok l hs H
  have my := fun H => rmay16_ok l (by omega) (by omega) (by omega) H
  simp only [Linear.cells] at sh my
  obtain ⟨c0, hc0⟩ : ∃ c, c = shortL l := ⟨_, rfl⟩
  obtain ⟨c1, hc1⟩ : ∃ c, c = l.ok := ⟨_, rfl⟩
  rw [← hc0] at sh
  rw [← hc1] at my
  obtain ⟨d1, hd1⟩ : ∃ c, c = decide (F < 0) := ⟨_, rfl⟩
  obtain ⟨d2, hd2⟩ : ∃ c, c = decide (2000 < F) := ⟨_, rfl⟩
  obtain ⟨d3, hd3⟩ : ∃ c, c = decide (G < 0) := ⟨_, rfl⟩
  obtain ⟨d4, hd4⟩ : ∃ c, c = decide (2000 < G) := ⟨_, rfl⟩
  obtain ⟨d5, hd5⟩ : ∃ c, c = ((args.length : Int) != (l.params.length : Int)) := ⟨_, rfl⟩
  have fin : ∀ L, Tidy H (fun e H' => e = .ret (Bo true) ∧ H' = H) (.ret (Bo true)) (H ++ L) := fun L => tidy_same rfl ⟨rfl, rfl⟩
  refine awp_cut (fun _ => false) (fun _ => none) (fun f M => M = H ++ [liB l] ∧ f 1 = Wo.sl args ∧ f 2 = Rg.sl r ∧ f 3 = Us.sl w ∧ f 4 = I F ∧ f 5 = I G ∧ f 6 = .bp H.length 0) (by kernel_rfl) ?_ ?_
  · simp -dsimp
  rintro f M ⟨rfl, f1, f2, f3, f4, f5, f6⟩
  refine awp_cut (fun _ => false) (fun _ => none) (fun f M => M = H ++ [liB l] ∧ f 1 = Wo.sl args ∧ f 2 = Rg.sl r ∧ f 3 = Us.sl w ∧ f 4 = I F ∧ f 5 = I G ∧ f 6 = .bp H.length 0 ∧ c1 = true ∧ d1 = false ∧ d2 = false ∧ d3 = false ∧ d4 = false ∧ d5 = false) (by kernel_rfl) ?_ ?_
  · simp -dsimp [f1, f2, f3, f4, f5, f6]
    refine acallsW_det (sh _) ?_
    clear hc0 hc1
    cases c0
    · simp -dsimp [f1, f2, f3, f4, f5, f6]
      refine acallsW_det (kn _) ?_
      simp -dsimp [f1, f2, f3, f4, f5, f6]
      exact fin _
    simp -dsimp [f1, f2, f3, f4, f5, f6, ← hd1]
    cases d1
    rotate_left
    · simp -dsimp [f1, f2, f3, f4, f5, f6]
      refine acallsW_det (kn _) ?_
      simp -dsimp [f1, f2, f3, f4, f5, f6]
      exact fin _
    simp -dsimp [f1, f2, f3, f4, f5, f6, ← hd2]
    cases d2
    rotate_left
    · simp -dsimp [f1, f2, f3, f4, f5, f6]
      refine acallsW_det (kn _) ?_
      simp -dsimp [f1, f2, f3, f4, f5, f6]
      exact fin _
    simp -dsimp [f1, f2, f3, f4, f5, f6, ← hd3]
    cases d3
    rotate_left
    · simp -dsimp [f1, f2, f3, f4, f5, f6]
      refine acallsW_det (kn _) ?_
      simp -dsimp [f1, f2, f3, f4, f5, f6]
      exact fin _
    simp -dsimp [f1, f2, f3, f4, f5, f6, ← hd4]
    cases d4
    rotate_left
    · simp -dsimp [f1, f2, f3, f4, f5, f6]
      refine acallsW_det (kn _) ?_
      simp -dsimp [f1, f2, f3, f4, f5, f6]
      exact fin _
    simp -dsimp [f1, f2, f3, f4, f5, f6]
    refine acallsW_det (my _) ?_
    cases c1
    · simp -dsimp [f1, f2, f3, f4, f5, f6]
      refine acallsW_det (kn _) ?_
      simp -dsimp [f1, f2, f3, f4, f5, f6]
      exact fin _
    simp -dsimp [f1, f2, f3, f4, f5, f6, ← hd5]
    cases d5
    rotate_left
    · simp -dsimp [f1, f2, f3, f4, f5, f6]
      refine acallsW_det (kn _) ?_
      simp -dsimp [f1, f2, f3, f4, f5, f6]
      exact fin _
    simp -dsimp [f1, f2, f3, f4, f5, f6]
  clear f1 f2 f3 f4 f5 f6 f
  rintro f M ⟨rfl, f1, f2, f3, f4, f5, f6, rfl, rfl, rfl, rfl, rfl, rfl⟩
  have a1 := of_decide_eq_false hd1.symm
  have a2 := of_decide_eq_false hd2.symm
  have a3 := of_decide_eq_false hd3.symm
  have a4 := of_decide_eq_false hd4.symm
  have hal2 : args.length = l.params.length := by
    have := hd5.symm
    exact Int.ofNat_inj.1 (by simpa using this)
  obtain ⟨fuel, rfl⟩ : ∃ k : Nat, F = k := ⟨F.toNat, by omega⟩
  obtain ⟨more, rfl⟩ : ∃ k : Nat, G = k := ⟨G.toNat, by omega⟩
  clear hd1 hd2 hd3 hd4 hd5 sh my hc0
  have hok : l.ok = true := hc1.symm
  by_cases hreg : mayL r = true ∧ fitsL r w = true
  rotate_left
  · have rg := fun H => regions_no r w hrr hreg H
    refine awp_cut (fun _ => false) (fun _ => none) (fun f M => M = H ++ [liB l] ∧ f 2 = Rg.sl r ∧ f 3 = Us.sl w ∧ f 15 = Bo false) (by kernel_rfl) ?_ ?_
    · simp -dsimp [f1, f2, f3, f4, f5, f6]
      refine acallsW_det (rg _) ?_
      simp -dsimp [f1, f2, f3, f4, f5, f6]
    clear f1 f2 f3 f4 f5 f6 f
    rintro f M ⟨rfl, f2, f3, f15⟩
    refine awp_cut (fun _ => false) (fun _ => none) (fun f M => M = H ++ [liB l] ∧ f 15 = Bo false) (by kernel_rfl) ?_ ?_
    · simp -dsimp [f2, f3, f15]
      refine acallsW_det (rg _) ?_
      simp -dsimp [f2, f3, f15]
    clear f2 f3 f15 f
    rintro f M ⟨rfl, f15⟩
    refine awp_cut (fun _ => false) (fun _ => none) (fun f M => False) (by kernel_rfl) ?_ ?_
    · simp -dsimp [f15]
      refine acallsW_det (kn _) ?_
      simp -dsimp [f15]
      exact fin _
    · rintro f M h
      exact h.elim
  obtain ⟨hm, hf⟩ := hreg
  have rg1 := regions_ok r w hrr hm hf (H ++ [liB l])
  obtain ⟨b, hb⟩ : ∃ b, b = fillB r w := ⟨_, rfl⟩
  obtain ⟨z, hz⟩ : ∃ z, z = fillTo zeroR r w r.length := ⟨_, rfl⟩
  have hbl : b.length = 65536 := by rw [hb]; exact fillB_len r w
  have rg2 := regions_ok r w hrr hm hf (H ++ [liB l, byB b, meB r (H.length + 1), rowY z, rfB (Rg.sl r) (H.length + 3)])
  simp only [GR, ← hb, ← hz, List.length_append, List.length_cons, List.length_nil, List.append_assoc, List.cons_append, List.nil_append, Nat.zero_add, Nat.reduceAdd, Nat.add_assoc] at rg1 rg2
  clear hb hz
  have hx := mayL_ok hm
  refine awp_cut (fun _ => false) (fun _ => none) (fun f M => M = H ++ [liB l, byB b, meB r (H.length + 1), rowY z, rfB (Rg.sl r) (H.length + 3)] ∧ f 1 = Wo.sl args ∧ f 2 = Rg.sl r ∧ f 3 = Us.sl w ∧ f 4 = I fuel ∧ f 5 = I more ∧ f 6 = .bp H.length 0 ∧ f 13 = .bp (H.length + 2) 0 ∧ f 15 = Bo true) (by kernel_rfl) ?_ ?_
  · simp -dsimp [f1, f2, f3, f4, f5, f6]
    refine acallsW_of rg1 ?_
    rintro _ _ ⟨rfl, rfl⟩
    simp -dsimp [f1, f2, f3, f4, f5, f6]
  clear f1 f2 f3 f4 f5 f6 f
  rintro f M ⟨rfl, f1, f2, f3, f4, f5, f6, f13, f15⟩
  refine awp_cut (fun _ => false) (fun _ => none) (fun f M => M = H ++ [liB l, byB b, meB r (H.length + 1), rowY z, rfB (Rg.sl r) (H.length + 3), byB b, meB r (H.length + 5), rowY z, rfB (Rg.sl r) (H.length + 7)] ∧ f 1 = Wo.sl args ∧ f 2 = Rg.sl r ∧ f 3 = Us.sl w ∧ f 4 = I fuel ∧ f 5 = I more ∧ f 6 = .bp H.length 0 ∧ f 13 = .bp (H.length + 2) 0 ∧ f 15 = Bo true ∧ f 16 = .bp (H.length + 6) 0) (by kernel_rfl) ?_ ?_
  · simp -dsimp [f1, f2, f3, f4, f5, f6, f13, f15]
    refine acallsW_of rg2 ?_
    rintro _ _ ⟨rfl, rfl⟩
    simp -dsimp [f1, f2, f3, f4, f5, f6, f13, f15]
  clear f1 f2 f3 f4 f5 f6 f13 f15 f
  rintro f M ⟨rfl, f1, f2, f3, f4, f5, f6, f13, f15, f16⟩
  refine awp_cut (fun _ => false) (fun _ => none) (fun f M => M = H ++ [liB l, byB b, meB r (H.length + 1), rowY z, rfB (Rg.sl r) (H.length + 3), byB b, meB r (H.length + 5), rowY z, rfB (Rg.sl r) (H.length + 7)] ∧ f 1 = Wo.sl args ∧ f 2 = Rg.sl r ∧ f 3 = Us.sl w ∧ f 4 = I fuel ∧ f 5 = I more ∧ f 6 = .bp H.length 0 ∧ f 13 = .bp (H.length + 2) 0 ∧ f 16 = .bp (H.length + 6) 0) (by kernel_rfl) ?_ ?_
  · simp -dsimp [f1, f2, f3, f4, f5, f6, f13, f15, f16]
  clear f1 f2 f3 f4 f5 f6 f13 f15 f16 f
  rintro f M ⟨rfl, f1, f2, f3, f4, f5, f6, f13, f16⟩
  have hst : (49152 : Int).tmod 16 = 0 := by decide
  have r1 := lrun_ok l hs hok hw args hal2 49152 hst fuel (by omega) (H := H ++ [liB l, byB b, meB r (H.length + 1), rowY z, rfB (Rg.sl r) (H.length + 3), byB b, meB r (H.length + 5), rowY z, rfB (Rg.sl r) (H.length + 7)]) (k := H.length + 2) (kb := H.length + 1) (lay := r) (b := b) ⟨by simp, by simp, hbl⟩ hx.1 hx.2
  have hmore := runM_more r l args b 49152 fuel more
  have hA := runM_len r l args b 49152 fuel
  have hB := runM_len r l args b 49152 (fuel + more)
  obtain ⟨A, hAe⟩ : ∃ A, A = runM r l args b 49152 fuel := ⟨_, rfl⟩
  have r2 := lrun_ok l hs hok hw args hal2 49152 hst (fuel + more) (by omega) (H := H ++ [liB l, byB A.b, meB r (H.length + 1), rowY z, rfB (Rg.sl r) (H.length + 3), byB b, meB r (H.length + 5), rowY z, rfB (Rg.sl r) (H.length + 7), .box 82 A.cells]) (k := H.length + 6) (kb := H.length + 5) (lay := r) (b := b) ⟨by simp, by simp, hbl⟩ hx.1 hx.2
  obtain ⟨B, hBe⟩ : ∃ B, B = runM r l args b 49152 (fuel + more) := ⟨_, rfl⟩
  rw [← hAe] at r1 hmore hA
  rw [← hBe] at r2 hmore hB
  have e1 : (H ++ [liB l, byB b, meB r (H.length + 1), rowY z, rfB (Rg.sl r) (H.length + 3), byB b, meB r (H.length + 5), rowY z, rfB (Rg.sl r) (H.length + 7)]).set (H.length + 1) (byB A.b) = H ++ [liB l, byB A.b, meB r (H.length + 1), rowY z, rfB (Rg.sl r) (H.length + 3), byB b, meB r (H.length + 5), rowY z, rfB (Rg.sl r) (H.length + 7)] := by simp
  have e2 : (H ++ [liB l, byB A.b, meB r (H.length + 1), rowY z, rfB (Rg.sl r) (H.length + 3), byB b, meB r (H.length + 5), rowY z, rfB (Rg.sl r) (H.length + 7), .box 82 A.cells]).set (H.length + 5) (byB B.b) = H ++ [liB l, byB A.b, meB r (H.length + 1), rowY z, rfB (Rg.sl r) (H.length + 3), byB B.b, meB r (H.length + 5), rowY z, rfB (Rg.sl r) (H.length + 7), .box 82 A.cells] := by simp
  rw [e1] at r1
  rw [e2] at r2
  clear e1 e2 hAe hBe
  simp only [Linear.cells, Ran.cells] at r1 r2
  have hadd : IntKind.i64.wrap ((fuel : Int) + (more : Int)) = ((fuel + more : Nat) : Int) := by rw [wrapI (by omega) (by omega)]; omega
  refine awp_cut (fun _ => false) (fun _ => none) (fun f M => M = H ++ [liB l, byB A.b, meB r (H.length + 1), rowY z, rfB (Rg.sl r) (H.length + 3), byB b, meB r (H.length + 5), rowY z, rfB (Rg.sl r) (H.length + 7), .box 82 A.cells] ∧ f 1 = Wo.sl args ∧ f 2 = Rg.sl r ∧ f 3 = Us.sl w ∧ f 4 = I fuel ∧ f 5 = I more ∧ f 6 = .bp H.length 0 ∧ f 16 = .bp (H.length + 6) 0 ∧ f 19 = .bp (H.length + 9) 0 ∧ f 20 = I 0) (by kernel_rfl) ?_ ?_
  · simp -dsimp [f1, f2, f3, f4, f5, f6, f13, f16]
    refine acallsW_of r1 ?_
    rintro _ _ ⟨rfl, rfl⟩
    simp -dsimp [f1, f2, f3, f4, f5, f6, f13, f16]
  clear f1 f2 f3 f4 f5 f6 f13 f16 f r1
  rintro f M ⟨rfl, f1, f2, f3, f4, f5, f6, f16, f19, f20⟩
  refine awp_cut (fun _ => false) (fun _ => none) (fun f M => M = H ++ [liB l, byB A.b, meB r (H.length + 1), rowY z, rfB (Rg.sl r) (H.length + 3), byB B.b, meB r (H.length + 5), rowY z, rfB (Rg.sl r) (H.length + 7), .box 82 A.cells, .box 82 B.cells] ∧ f 4 = I fuel ∧ f 19 = .bp (H.length + 9) 0 ∧ f 20 = I 0 ∧ f 21 = .bp (H.length + 10) 0 ∧ f 22 = I 0) (by kernel_rfl) ?_ ?_
  · simp -dsimp [f1, f2, f3, f4, f5, f6, f16, f19, f20, hadd]
    refine acallsW_of r2 ?_
    rintro _ _ ⟨rfl, rfl⟩
    simp -dsimp [f1, f2, f3, f4, f5, f6, f16, f19, f20]
  clear f1 f2 f3 f4 f5 f6 f16 f19 f20 f r2
  rintro f M ⟨rfl, f4, f19, f20, f21, f22⟩
  have hsteps : decide ((fuel : Int) < (A.steps : Int)) = false := decide_eq_false (by have := hmore.steps; omega)
  have hsteps' : decide (fuel < A.steps) = false := decide_eq_false (by have := hmore.steps; omega)
  have hrl := hs.rets
  by_cases h7 : A.err = 7
  · obtain ⟨o1, o2, t, o3⟩ := hmore.off h7
    obtain ⟨ar, sa, ast, ae, ab⟩ := A
    obtain ⟨br, sb, bst, be, bb⟩ := B
    simp only at o1 o2 o3 h7 hA hB hsteps hsteps'
    subst o1 o2 h7
    have ss := fun H => sseen_ok sa (by omega) H
    obtain ⟨SB, hSB⟩ : ∃ SB, SB = sb.map Se.cells := ⟨_, rfl⟩
    have hcut : SB.take sa.length = sa.map Se.cells := by rw [hSB, o3, List.map_append, List.take_left' (by rw [List.length_map])]
    have hSBl : SB.length = sa.length + t.length := by rw [hSB, o3]; simp
    have hdl : decide (sa.length ≤ SB.length) = true := decide_eq_true (by omega)
    have hdl' : decide ((sa.length : Int) ≤ (SB.length : Int)) = true := decide_eq_true (by omega)
    simp only [Ran.cells, Se.sl, ← hSB]
    clear hSB o3
    refine awp_all (fun _ => false) (fun _ => none) (by kernel_rfl) ?_
    simp -dsimp [f4, f19, f20, f21, f22, hsteps, hsteps', hdl, hdl', hcut]
    refine andVW_intro (by omega) ?_
    have hcc : List.drop ((none : Option Int).getD 0).toNat (List.take ((some (sa.length : Int)).getD (SB.length : Int)).toNat SB) = sa.map Se.cells := by simpa using hcut
    rw [hcc]
    simp -dsimp [f4, f19, f20, f21, f22]
    refine callDW_intro (ss _) ?_
    simp -dsimp [f4, f19, f20, f21, f22]
    refine callDW_intro (kn _) ?_
    simp -dsimp [f4, f19, f20, f21, f22]
    exact fin _
  · have hAB := hmore.same h7
    subst hAB
    have d7 : (A.err != 7) = true := by simp [h7]
    have rn := fun H => ran16_ok A (by omega) (by omega) H
    simp only [Ran.cells] at rn
    refine awp_all (fun _ => false) (fun _ => none) (by kernel_rfl) ?_
    simp -dsimp [f4, f19, f20, f21, f22, hsteps, hsteps', d7]
    refine acallsW_det (rn _) ?_
    simp -dsimp [f4, f19, f20, f21, f22]
    refine acallsW_det (kn _) ?_
    simp -dsimp [f4, f19, f20, f21, f22]
    exact fin _
end Go.Proofs
