/- The document's data, as lists of abstract values; and what is used everywhere. -/
import Derived.Test.YteoimifnfkpdeaaGreatFacts
import Derived.Test.YteoimifnfkpdeaaGreatFwOtoFwP
import Derived.Test.YteoimifnfkpdeaaGreatME5toRM7
import Derived.Test.YteoimifnfkpdeaaGreatFwJmptoRM4
import Derived.Test.YteoimifnfkpdeaaGreatCWBtoRM2
set_option linter.unusedVariables false
set_option linter.unusedSimpArgs false
set_option maxHeartbeats 4000000
set_option maxRecDepth 100000
namespace Go.Proofs.Lm
open Go.Mu
abbrev I (n : Int) : AV := .v (.int .i64 n)
abbrev U (n : Int) : AV := .v (.int .u64 n)
abbrev Bo (b : Bool) : AV := .v (.bool b)
@[ext] structure Ins where
  (kind op d a b c word : Int)
  stack : Bool
deriving DecidableEq
@[ext] structure Line where
  kind : Int
  ins : Ins
  (var label : Int)
deriving DecidableEq
inductive Node where
  | mk (kind : Int) (ins : Ins) (cond : Int) (ahead body els : List Node)
structure Flat where
  vars : Int
  params : List Int
  rets : List Int
  frame : Int
  code : List Node
structure Linear where
  vars : Int
  params : List Int
  rets : List Int
  frame : Int
  code : List Line
deriving DecidableEq
@[simp] def Ins.cells (i : Ins) : List AV := [I i.kind, I i.op, I i.d, I i.a, I i.b, I i.c, U i.word, Bo i.stack]
@[simp] def Line.cells (l : Line) : List AV := [I l.kind, I l.ins.kind, I l.ins.op, I l.ins.d, I l.ins.a, I l.ins.b, I l.ins.c, U l.ins.word, Bo l.ins.stack, I l.var, I l.label]
mutual
def Node.cells : Node → List AV
  | .mk k i c a b e => [I k, I i.kind, I i.op, I i.d, I i.a, I i.b, I i.c, U i.word, Bo i.stack, I c, .vs 13 (nodeCells a), .vs 13 (nodeCells b), .vs 13 (nodeCells e)]
def nodeCells : List Node → List (List AV)
  | [] => []
  | n :: l => n.cells :: nodeCells l
end
theorem nodeCells_map (l : List Node) : nodeCells l = l.map Node.cells := by
  induction l with
  | nil => simp [nodeCells]
  | cons n l ih => simp [nodeCells, ih]
abbrev Line.sl (l : List Line) : AV := .vs 11 (l.map Line.cells)
abbrev Int.sl (l : List Int) : AV := .vs 1 (l.map fun n => [I n])
abbrev Node.sl (l : List Node) : AV := .vs 13 (l.map Node.cells)
@[simp] def Flat.cells (f : Flat) : List AV := [I f.vars, Int.sl f.params, Int.sl f.rets, I f.frame, Node.sl f.code]
@[simp] def Linear.cells (f : Linear) : List AV := [I f.vars, Int.sl f.params, Int.sl f.rets, I f.frame, Line.sl f.code]
def Node.kind : Node → Int | .mk k _ _ _ _ _ => k
def Node.ins : Node → Ins | .mk _ i _ _ _ _ => i
def Node.cond : Node → Int | .mk _ _ c _ _ _ => c
def Node.ahead : Node → List Node | .mk _ _ _ a _ _ => a
def Node.body : Node → List Node | .mk _ _ _ _ b _ => b
def Node.els : Node → List Node | .mk _ _ _ _ _ e => e
@[simp] theorem Node.cells_eq (n : Node) : n.cells = [I n.kind, I n.ins.kind, I n.ins.op, I n.ins.d, I n.ins.a, I n.ins.b, I n.ins.c, U n.ins.word, Bo n.ins.stack, I n.cond, Node.sl n.ahead, Node.sl n.body, Node.sl n.els] := by
  cases n; simp [Node.cells, nodeCells_map, Node.kind, Node.ins, Node.cond, Node.ahead, Node.body, Node.els]
theorem wrapI {n : Int} (h1 : -9223372036854775808 ≤ n) (h2 : n ≤ 9223372036854775807) : IntKind.i64.wrap n = n := by
  simp [IntKind.wrap, IntKind.bits, IntKind.signed]
  omega
theorem drop_cons {α : Type} {l : List α} {i : Nat} (h : i < l.length) : l.drop i = l[i] :: l.drop (i + 1) := List.drop_eq_getElem_cons h
theorem drop_end {α : Type} {l : List α} {i : Nat} (h : ¬ i < l.length) : l.drop i = [] := List.drop_of_length_le (by omega)
theorem wrapS {i : Nat} (h : i < 4611686018427387904) : IntKind.i64.wrap ((i : Int) + 1) = ((i + 1 : Nat) : Int) := by
  rw [wrapI (by omega) (by omega)]; rfl
def idxP {α : Type} (p : α → Bool) : List α → Int → Int
  | [], _ => -1
  | a :: l, i => if p a then i else idxP p l (i + 1)
theorem idxP_any {α : Type} (p : α → Bool) : ∀ (l : List α) (i : Int), 0 ≤ i → decide (0 ≤ idxP p l i) = l.any p
  | [], i, h => by simp [idxP]
  | a :: l, i, h => by
    simp only [idxP, List.any_cons]
    split
    · rename_i hp; simp [hp, h]
    · rename_i hp; simp [hp, idxP_any p l (i + 1) (by omega)]
mutual
def Node.count : Node → Nat
  | .mk _ _ _ a b e => 1 + nodesCount a + nodesCount b + nodesCount e
def nodesCount : List Node → Nat
  | [] => 0
  | n :: l => n.count + nodesCount l
end
theorem Node.count_eq (n : Node) : n.count = 1 + nodesCount n.ahead + nodesCount n.body + nodesCount n.els := by cases n; rfl
theorem nodesCount_drop {l : List Node} {i : Nat} (h : i < l.length) : nodesCount (l.drop i) = l[i].count + nodesCount (l.drop (i + 1)) := by rw [drop_cons h, nodesCount]
theorem nodesCount_le (l : List Node) (i : Nat) : nodesCount (l.drop i) ≤ nodesCount l := by
  induction l generalizing i with
  | nil => simp
  | cons n l ih => cases i with
    | zero => simp
    | succ i => simp only [List.drop_succ_cons, nodesCount]; have := ih i; omega
theorem nodes_len (l : List Node) : l.length ≤ nodesCount l := by
  induction l with
  | nil => simp
  | cons n l ih => simp only [List.length_cons, nodesCount, Node.count_eq]; omega
theorem node_parts {l : List Node} {i : Nat} (h : i < l.length) : nodesCount l[i].ahead < nodesCount l ∧ nodesCount l[i].body < nodesCount l ∧ nodesCount l[i].els < nodesCount l := by
  have h1 := nodesCount_drop h
  have h2 := nodesCount_le l i
  rw [Node.count_eq] at h1
  omega
end Go.Proofs.Lm
namespace Go.Proofs.Lm
open Go.Mu
def arity (op : Int) : Int := if op = 4 ∨ op = 5 then 1 else if 6 ≤ op ∧ op ≤ 20 then 2 else if op = 21 then 3 else 0
def isV (n vars : Int) : Bool := decide (0 ≤ n) && decide (n < vars)
theorem index_ok (l : List Int) (x : Int) (H : List Blk) (hl : l.length ≤ 2^40) : ACalls Tryz.prog 79 [Int.sl l, I x] H (fun e H' => e = .ret (I (idxP (x == ·) l 0)) ∧ H' = H) := by
  refine acalls_of_vc (hn := fun _ => false) (od := fun _ => none) Tryz.func79 rfl (by kernel_rfl) ?_
  simp -dsimp
  refine loop_rule (hn := fun _ => false) (od := fun _ => none) (fun (i : Nat) f H' => H' = H ∧ f 0 = Int.sl l ∧ f 1 = I x ∧ f 7 = I l.length ∧ f 8 = I i ∧ i ≤ l.length ∧ idxP (x == ·) (l.drop i) i = idxP (x == ·) l 0) (fun i => l.length - i) (by kernel_rfl) 0 (by simp) ?_
  rintro i f H' ⟨rfl, h0, h1, h7, h8, hi, ht⟩
  simp -dsimp [h0, h1, h7, h8]
  refine condVW_introD (fun hlt => ?_) (fun hlt => ?_)
  · simp -dsimp [h0, h1, h7, h8, List.getElem?_eq_getElem, hlt]
    rw [drop_cons hlt] at ht
    simp only [idxP] at ht
    repeat' ((with_reducible first | refine And.intro ?_ ?_ | refine guardVW_introTD (fun _ => ?_) (fun _ => ?_) | refine guardVW_introFD (fun _ => ?_) (fun _ => ?_) | refine condVW_introD (fun _ => ?_) (fun _ => ?_) | refine guardVW_introTE (fun _ => ?_) (fun _ _ _ => ?_) | refine guardVW_introFE (fun _ => ?_) (fun _ _ _ => ?_) | refine condVW_introE (fun _ => ?_) (fun _ _ _ => ?_) | refine guardVW_introTNE (fun _ _ _ => ?_) (fun _ => ?_) | refine guardVW_introFNE (fun _ _ _ => ?_) (fun _ => ?_) | refine condVW_introNE (fun _ _ _ => ?_) (fun _ => ?_) | refine guardVW_introTB (fun _ => ?_) (fun _ => ?_) | refine guardVW_introFB (fun _ => ?_) (fun _ => ?_) | refine condVW_introB (fun _ => ?_) (fun _ => ?_) | refine guardVW_introT (fun _ => ?_) (fun _ => ?_) | refine guardVW_introF (fun _ => ?_) (fun _ => ?_) | refine condVW_intro (fun _ => ?_) (fun _ => ?_)) <;> simp -dsimp [*])
    · rename_i h; subst h; rw [← ht]; simp
    · rw [if_neg (by simp; omega)] at ht
      exact ⟨i + 1, by omega, wrapS (by omega), by omega, ht⟩
  · simp -dsimp [h0, h1, h7, h8]
    rw [drop_end hlt] at ht
    exact ht
theorem contains_ok (l : List Int) (x : Int) (H : List Blk) (hl : l.length ≤ 2^40) : ACalls Tryz.prog 44 [Int.sl l, I x] H (fun e H' => e = .ret (Bo (decide (x ∈ l))) ∧ H' = H) := by
  refine acalls_of_vc (hn := fun _ => false) (od := fun _ => none) Tryz.func44 rfl (by kernel_rfl) ?_
  simp -dsimp
  refine acallsW_det (index_ok _ _ _ hl) ?_
  simp -dsimp
  have := idxP_any (x == ·) l 0 (by omega)
  rw [Bool.eq_iff_iff] at this
  simpa [List.any_eq] using this
theorem indexFunc_ok {g : FuncId} {cap : List AV} (p : Int → Bool) (l : List Int) (H : List Blk) (hl : l.length ≤ 2^40) (hg : okFn Tryz.prog g = true) (hp : ∀ x ∈ l, ACalls Tryz.prog g (I x :: cap) H (fun e H' => e = .ret (Bo (p x)) ∧ H' = H)) :
    ACalls Tryz.prog 132 [Int.sl l, .fn (.func g) [] cap] H (fun e H' => e = .ret (I (idxP p l 0)) ∧ H' = H) := by
  refine acalls_of_vc (hn := fun _ => false) (od := fun _ => none) Tryz.func132 rfl (by kernel_rfl) ?_
  simp -dsimp
  refine loop_rule (hn := fun _ => false) (od := fun _ => none) (fun (i : Nat) f H' => H' = H ∧ f 0 = Int.sl l ∧ f 1 = .fn (.func g) [] cap ∧ f 7 = I l.length ∧ f 8 = I i ∧ i ≤ l.length ∧ idxP p (l.drop i) i = idxP p l 0) (fun i => l.length - i) (by kernel_rfl) 0 (by simp) ?_
  rintro i f H' ⟨rfl, h0, h1, h7, h8, hi, ht⟩
  simp -dsimp [h0, h1, h7, h8]
  refine condVW_introD (fun hlt => ?_) (fun hlt => ?_)
  · simp -dsimp [h0, h1, h7, h8, List.getElem?_eq_getElem, hlt, hg]
    rw [drop_cons hlt] at ht
    simp only [idxP] at ht
    refine acallsW_det (hp _ (List.getElem_mem hlt)) ?_
    simp -dsimp [h0, h1, h7, h8]
    repeat' ((with_reducible first | refine And.intro ?_ ?_ | refine guardVW_introTD (fun _ => ?_) (fun _ => ?_) | refine guardVW_introFD (fun _ => ?_) (fun _ => ?_) | refine condVW_introD (fun _ => ?_) (fun _ => ?_) | refine guardVW_introTE (fun _ => ?_) (fun _ _ _ => ?_) | refine guardVW_introFE (fun _ => ?_) (fun _ _ _ => ?_) | refine condVW_introE (fun _ => ?_) (fun _ _ _ => ?_) | refine guardVW_introTNE (fun _ _ _ => ?_) (fun _ => ?_) | refine guardVW_introFNE (fun _ _ _ => ?_) (fun _ => ?_) | refine condVW_introNE (fun _ _ _ => ?_) (fun _ => ?_) | refine guardVW_introTB (fun _ => ?_) (fun _ => ?_) | refine guardVW_introFB (fun _ => ?_) (fun _ => ?_) | refine condVW_introB (fun _ => ?_) (fun _ => ?_) | refine guardVW_introT (fun _ => ?_) (fun _ => ?_) | refine guardVW_introF (fun _ => ?_) (fun _ => ?_) | refine condVW_intro (fun _ => ?_) (fun _ => ?_)) <;> simp -dsimp [*])
    · rw [← ht]; simp [*]
    · rw [if_neg (by simp [*])] at ht
      exact ⟨i + 1, by omega, wrapS (by omega), by omega, ht⟩
  · simp -dsimp [h0, h1, h7, h8]
    rw [drop_end hlt] at ht
    exact ht
theorem containsFunc_ok {g : FuncId} {cap : List AV} (p : Int → Bool) (l : List Int) (H : List Blk) (hl : l.length ≤ 2^40) (hg : okFn Tryz.prog g = true) (hp : ∀ x ∈ l, ACalls Tryz.prog g (I x :: cap) H (fun e H' => e = .ret (Bo (p x)) ∧ H' = H)) :
    ACalls Tryz.prog 112 [Int.sl l, .fn (.func g) [] cap] H (fun e H' => e = .ret (Bo (l.any p)) ∧ H' = H) := by
  refine acalls_of_vc (hn := fun _ => false) (od := fun _ => none) Tryz.func112 rfl (by kernel_rfl) ?_
  simp -dsimp
  refine acallsW_det (indexFunc_ok p _ _ hl hg hp) ?_
  simp -dsimp
  rw [idxP_any _ _ _ (by omega)]
theorem sameInts_ok (a b : List Int) (H : List Blk) (hl : a.length ≤ 2^40) : ACalls Tryz.prog 75 [Int.sl a, Int.sl b] H (fun e H' => e = .ret (Bo (decide (a = b))) ∧ H' = H) := by
  refine acalls_of_vc (hn := fun _ => false) (od := fun _ => none) Tryz.func75 rfl (by kernel_rfl) ?_
  simp -dsimp
  refine condVW_introNE (fun hn _ _ => ?_) (fun hn => ?_)
  · simp -dsimp
    rintro rfl; exact hn rfl
  have hab : a.length = b.length := by omega
  simp -dsimp
  refine loop_rule (hn := fun _ => false) (od := fun _ => none) (fun (i : Nat) f H' => H' = H ∧ f 0 = Int.sl a ∧ f 1 = Int.sl b ∧ f 5 = I i ∧ i ≤ a.length ∧ (a.drop i = b.drop i ↔ a = b)) (fun i => a.length - i) (by kernel_rfl) 0 (by simp) ?_
  rintro i f H' ⟨rfl, h0, h1, h5, hi, ht⟩
  simp -dsimp [h0, h1, h5]
  refine condVW_introD (fun hlt => ?_) (fun hlt => ?_)
  · have hltb : i < b.length := by omega
    simp -dsimp [h0, h1, h5, List.getElem?_eq_getElem, hlt, hltb]
    rw [drop_cons hlt, drop_cons hltb, List.cons.injEq] at ht
    repeat' ((with_reducible first | refine And.intro ?_ ?_ | refine guardVW_introTD (fun _ => ?_) (fun _ => ?_) | refine guardVW_introFD (fun _ => ?_) (fun _ => ?_) | refine condVW_introD (fun _ => ?_) (fun _ => ?_) | refine guardVW_introTE (fun _ => ?_) (fun _ _ _ => ?_) | refine guardVW_introFE (fun _ => ?_) (fun _ _ _ => ?_) | refine condVW_introE (fun _ => ?_) (fun _ _ _ => ?_) | refine guardVW_introTNE (fun _ _ _ => ?_) (fun _ => ?_) | refine guardVW_introFNE (fun _ _ _ => ?_) (fun _ => ?_) | refine condVW_introNE (fun _ _ _ => ?_) (fun _ => ?_) | refine guardVW_introTB (fun _ => ?_) (fun _ => ?_) | refine guardVW_introFB (fun _ => ?_) (fun _ => ?_) | refine condVW_introB (fun _ => ?_) (fun _ => ?_) | refine guardVW_introT (fun _ => ?_) (fun _ => ?_) | refine guardVW_introF (fun _ => ?_) (fun _ => ?_) | refine condVW_intro (fun _ => ?_) (fun _ => ?_)) <;> simp -dsimp [*])
    · rename_i h _ _; simp [← ht, h]
    · rename_i h
      exact ⟨i + 1, by omega, wrapS (by omega), by omega, by rw [← ht]; simp [h]⟩
  · simp -dsimp [h0, h1, h5]
    rw [drop_end hlt, drop_end (by omega)] at ht
    exact ht.1 rfl
theorem asking_is (k : Nat) (t : Nat) (vars nodes n : Int) (H : List Blk) (hk : H[k]? = some (.box t [I vars, I nodes])) : ACalls Tryz.prog 111 [.bp k 0, I n] H (fun e H' => e = .ret (Bo (isV n vars)) ∧ H' = H) := by
  refine acalls_of_vc (hn := fun _ => false) (od := fun _ => none) Tryz.func111 rfl (by kernel_rfl) ?_
  simp -dsimp [hk]
  repeat' ((with_reducible first | refine And.intro ?_ ?_ | refine guardVW_introTD (fun _ => ?_) (fun _ => ?_) | refine guardVW_introFD (fun _ => ?_) (fun _ => ?_) | refine condVW_introD (fun _ => ?_) (fun _ => ?_) | refine guardVW_introTE (fun _ => ?_) (fun _ _ _ => ?_) | refine guardVW_introFE (fun _ => ?_) (fun _ _ _ => ?_) | refine condVW_introE (fun _ => ?_) (fun _ _ _ => ?_) | refine guardVW_introTNE (fun _ _ _ => ?_) (fun _ => ?_) | refine guardVW_introFNE (fun _ _ _ => ?_) (fun _ => ?_) | refine condVW_introNE (fun _ _ _ => ?_) (fun _ => ?_) | refine guardVW_introTB (fun _ => ?_) (fun _ => ?_) | refine guardVW_introFB (fun _ => ?_) (fun _ => ?_) | refine condVW_introB (fun _ => ?_) (fun _ => ?_) | refine guardVW_introT (fun _ => ?_) (fun _ => ?_) | refine guardVW_introF (fun _ => ?_) (fun _ => ?_) | refine condVW_intro (fun _ => ?_) (fun _ => ?_)) <;> simp -dsimp [*])
  all_goals simp [isV, *]
theorem arity_ok (op : Int) (H : List Blk) : ACalls Tryz.prog 175 [I op] H (fun e H' => e = .ret (I (arity op)) ∧ H' = H) := by
  refine acalls_of_vc (hn := fun _ => false) (od := fun _ => none) Tryz.func175 rfl (by kernel_rfl) ?_
  simp -dsimp
  repeat' ((with_reducible first | refine And.intro ?_ ?_ | refine guardVW_introTD (fun _ => ?_) (fun _ => ?_) | refine guardVW_introFD (fun _ => ?_) (fun _ => ?_) | refine condVW_introD (fun _ => ?_) (fun _ => ?_) | refine guardVW_introTE (fun _ => ?_) (fun _ _ _ => ?_) | refine guardVW_introFE (fun _ => ?_) (fun _ _ _ => ?_) | refine condVW_introE (fun _ => ?_) (fun _ _ _ => ?_) | refine guardVW_introTNE (fun _ _ _ => ?_) (fun _ => ?_) | refine guardVW_introFNE (fun _ _ _ => ?_) (fun _ => ?_) | refine condVW_introNE (fun _ _ _ => ?_) (fun _ => ?_) | refine guardVW_introTB (fun _ => ?_) (fun _ => ?_) | refine guardVW_introFB (fun _ => ?_) (fun _ => ?_) | refine condVW_introB (fun _ => ?_) (fun _ => ?_) | refine guardVW_introT (fun _ => ?_) (fun _ => ?_) | refine guardVW_introF (fun _ => ?_) (fun _ => ?_) | refine condVW_intro (fun _ => ?_) (fun _ => ?_)) <;> simp -dsimp [*])
  all_goals (simp [arity, *] <;> grind)
theorem arity_01 (op : Int) : arity op = 0 ∨ arity op = 1 ∨ arity op = 2 ∨ arity op = 3 := by unfold arity; grind
end Go.Proofs.Lm
namespace Go.Proofs.Lm
open Go.Mu
def insOk (vars : Int) (x : Ins) : Bool :=
  (x.kind == 1 && isV x.d vars && x.op == 0 && x.a == 0 && x.b == 0 && x.c == 0 && !x.stack) ||
  (x.kind == 2 && isV x.d vars && isV x.a vars && x.op == 0 && x.b == 0 && x.c == 0 && x.word == 0 && !x.stack) ||
  (x.kind == 3 && isV x.d vars && isV x.a vars && x.word == 0 && !x.stack &&
    ((arity x.op == 1 && x.b == 0 && x.c == 0) || (arity x.op == 2 && isV x.b vars && x.c == 0) || (arity x.op == 3 && isV x.b vars && isV x.c vars))) ||
  (x.kind == 4 && isV x.d vars && (x.a == -1 || isV x.a vars) && x.op == 0 && x.b == 0 && x.c == 0) ||
  (x.kind == 5 && x.d == 0 && (x.a == -1 || isV x.a vars) && isV x.b vars && x.op == 0 && x.c == 0)
def zeroIns : Ins := ⟨0, 0, 0, 0, 0, 0, 0, false⟩
mutual
def Node.ok (vars deep : Int) : Node → Bool
  | .mk k i c a b e => if k = 1 then insOk vars i && c == 0 && a.isEmpty && b.isEmpty && e.isEmpty
    else if k = 2 ∨ k = 3 then decide (i = zeroIns) && isV c vars && (k == 2 || e.isEmpty) && nodesOk vars (deep + 1) a && nodesOk vars (deep + 1) b && nodesOk vars (deep + 1) e
    else false
def nodesOk (vars deep : Int) : List Node → Bool
  | [] => true
  | n :: l => decide (deep ≤ 65) && n.ok vars deep && nodesOk vars deep l
end
theorem Node.ok_eq (vars deep : Int) (n : Node) : n.ok vars deep = if n.kind = 1 then insOk vars n.ins && n.cond == 0 && n.ahead.isEmpty && n.body.isEmpty && n.els.isEmpty
    else if n.kind = 2 ∨ n.kind = 3 then decide (n.ins = zeroIns) && isV n.cond vars && (n.kind == 2 || n.els.isEmpty) && nodesOk vars (deep + 1) n.ahead && nodesOk vars (deep + 1) n.body && nodesOk vars (deep + 1) n.els
    else false := by cases n; simp only [Node.ok, Node.kind, Node.ins, Node.cond, Node.ahead, Node.body, Node.els]; rfl
theorem nodesOk_drop {vars deep : Int} {l : List Node} {i : Nat} (h : i < l.length) : nodesOk vars deep (l.drop i) = (decide (deep ≤ 65) && l[i].ok vars deep && nodesOk vars deep (l.drop (i + 1))) := by rw [drop_cons h, nodesOk]
end Go.Proofs.Lm
namespace Go.Proofs.Lm
open Go.Mu
end Go.Proofs.Lm
namespace Go.Proofs.Lm
open Go.Mu
theorem zero_ins (x : Ins) : (!x.kind == 0 || (!x.op == 0 || (!x.d == 0 || (!x.a == 0 || (!x.b == 0 || (!x.c == 0 || (!x.word == 0 || x.stack))))))) = !decide (x = zeroIns) := by
  rw [Bool.eq_iff_iff]
  simp [zeroIns, Ins.ext_iff]
def paramsOk (vars : Int) (seen : List Int) : List Int → Bool
  | [] => true
  | x :: l => isV x vars && !decide (x ∈ seen) && paramsOk vars (seen ++ [x]) l
theorem paramsOk_drop {vars : Int} {l : List Int} {i : Nat} (h : i < l.length) : paramsOk vars (l.take i) (l.drop i) = (isV l[i] vars && !decide (l[i] ∈ l.take i) && paramsOk vars (l.take (i + 1)) (l.drop (i + 1))) := by
  rw [drop_cons h, paramsOk, List.take_succ_eq_append_getElem h]
def headOk (vars : Int) (params rets : List Int) (frame : Int) : Bool :=
  decide (0 ≤ vars) && decide (vars ≤ 16384) && decide (0 ≤ frame) && decide (frame ≤ 8192) && decide (frame % 16 = 0) && decide (rets.length ≤ 16384) && paramsOk vars [] params && rets.all (isV · vars)
def Flat.ok (f : Flat) : Bool := headOk f.vars f.params f.rets f.frame && decide (nodesCount f.code ≤ 16384) && nodesOk f.vars 1 f.code
end Go.Proofs.Lm
namespace Go.Proofs.Lm
open Go.Mu
theorem asking_ins (k : Nat) (t : Nat) (vars nodes : Int) (x : Ins) (H : List Blk) (hk : H[k]? = some (.box t [I vars, I nodes])) : ACalls Tryz.prog 133 [.bp k 0, .agg x.cells] H (fun e H' => e = .ret (Bo (insOk vars x)) ∧ H' = H) := by
  refine acalls_tidy (acalls_of_vc (hn := fun _ => false) (od := fun i => if i = 14 then some [(0, []), (1, []), (2, []), (3, []), (4, []), (5, [2, 3]), (6, []), (7, [])] else if i = 20 then some [(0, []), (1, []), (2, []), (3, [0, 1]), (4, []), (5, [])] else if i = 23 then some [(0, []), (1, []), (2, []), (3, []), (4, []), (5, []), (6, []), (7, [2, 3, 4, 5]), (8, []), (9, [4, 5]), (10, []), (11, [])] else none) Tryz.func133 rfl (by kernel_rfl) ?_)
  have hk' := fun L => get_app_old hk L
  simp -dsimp [hk]
  repeat' ((with_reducible first | refine And.intro ?_ ?_ | refine guardVW_introTD (fun _ => ?_) (fun _ => ?_) | refine guardVW_introFD (fun _ => ?_) (fun _ => ?_) | refine condVW_introD (fun _ => ?_) (fun _ => ?_) | refine guardVW_introTE (fun _ => ?_) (fun _ _ _ => ?_) | refine guardVW_introFE (fun _ => ?_) (fun _ _ _ => ?_) | refine condVW_introE (fun _ => ?_) (fun _ _ _ => ?_) | refine guardVW_introTNE (fun _ _ _ => ?_) (fun _ => ?_) | refine guardVW_introFNE (fun _ _ _ => ?_) (fun _ => ?_) | refine condVW_introNE (fun _ _ _ => ?_) (fun _ => ?_) | refine guardVW_introTB (fun _ => ?_) (fun _ => ?_) | refine guardVW_introFB (fun _ => ?_) (fun _ => ?_) | refine condVW_introB (fun _ => ?_) (fun _ => ?_) | refine guardVW_introT (fun _ => ?_) (fun _ => ?_) | refine guardVW_introF (fun _ => ?_) (fun _ => ?_) | refine condVW_intro (fun _ => ?_) (fun _ => ?_) | refine acallsW_det (asking_is _ _ _ _ _ _ (hk' _)) ?_ | refine callDW_intro (asking_is _ _ _ _ _ _ (hk' _)) ?_ | refine acallsW_det (arity_ok _ _) ?_ | refine callDW_intro (arity_ok _ _) ?_) <;> simp -dsimp [*])
  all_goals refine tidy_same (by first | rfl | simp [AV.under, underL]) ?_
  all_goals refine ⟨?_, rfl⟩
  all_goals clear hk hk'
  all_goals refine congrArg (fun b => AE.ret (Bo b)) ?_
  all_goals first | (simp_all [insOk]; done) | (have ha := arity_01 x.op; simp only [insOk, isV] at *; grind)
def AListR (vars deep : Int) (l : List Node) (n0 : Nat) (H : List Blk) (k t : Nat) (e : AE) (H' : List Blk) : Prop :=
  ∃ (b : Bool) (n1 : Nat), e = .ret (Bo b) ∧ b = (nodesOk vars deep l && (l.isEmpty || decide (n0 + nodesCount l ≤ 16384))) ∧ n1 ≤ 16385 ∧ H' = H.set k (.box t [I vars, I n1]) ∧ (b = true → n1 = n0 + nodesCount l ∧ n1 ≤ 16384)
theorem AListR.out {vars deep : Int} {l : List Node} {n0 : Nat} {H : List Blk} {k t : Nat} {e : AE} {H' : List Blk} (h : AListR vars deep l n0 H k t e H') :
  ∃ (b : Bool) (n1 : Nat), e = .ret (Bo b) ∧ b = (nodesOk vars deep l && (l.isEmpty || decide (n0 + nodesCount l ≤ 16384))) ∧ n1 ≤ 16385 ∧ H' = H.set k (.box t [I vars, I n1]) ∧ (b = true → n1 = n0 + nodesCount l ∧ n1 ≤ 16384) := h
theorem count_empty (l : List Node) : l.length = 0 → nodesCount l = 0 := by cases l <;> simp [nodesCount]
theorem alist_ok (vars : Int) (n : Nat) : ∀ (l : List Node) (deep : Int), nodesCount l ≤ n → nodesCount l ≤ 2^40 → 0 ≤ deep → ∀ (n0 : Nat), n0 ≤ 16384 → ∀ (H : List Blk) (k t : Nat), H[k]? = some (.box t [I vars, I n0]) →
    ACalls Tryz.prog 114 [.bp k 0, Node.sl l, I deep] H (AListR vars deep l n0 H k t) := by
  induction n with
  | zero =>
    intro l deep hl hb hdp n0 hn0 H k t hk
    have : l = [] := List.eq_nil_of_length_eq_zero (by have := nodes_len l; omega)
    subst this
    refine acalls_of_vc (hn := fun _ => false) (od := fun _ => none) Tryz.func114 rfl (by kernel_rfl) ?_
    simp -dsimp
    refine loop_rule (hn := fun _ => false) (od := fun _ => none) (fun (i : Nat) f H' => H' = H ∧ f 16 = Node.sl [] ∧ f 17 = I 0 ∧ f 18 = I 0) (fun i => 0) (by kernel_rfl) 0 (by simp) ?_
    rintro i f H' ⟨rfl, h0, h7, h8⟩
    simp -dsimp [h0, h7, h8]
    exact ⟨true, n0, rfl, by simp [nodesOk], by omega, (set_same hk).symm, fun _ => ⟨by simp [nodesCount], hn0⟩⟩
  | succ n ih =>
    intro l deep hl hb hdp n0 hn0 H k t hk
    refine acalls_tidy (acalls_of_vc (hn := fun _ => false) (od := fun _ => none) Tryz.func114 rfl (by kernel_rfl) ?_)
    have hkl := lt_of_get hk
    have g1 := fun X L => m1_get hkl X L
    have g2 := fun X Y L => m1_set hkl X Y L
    have g3 := fun X L i => m1_getN (H := H) (k := k) X L i
    have g4 := fun X L => m1_getE (H := H) (k := k) X L
    have hlen := nodes_len l
    have leaf : ∀ (n1 : Nat) (L : List Blk) (c : Bool), n1 ≤ 16385 → c = (nodesOk vars deep l && (l.isEmpty || decide (n0 + nodesCount l ≤ 16384))) → (c = true → n1 = n0 + nodesCount l ∧ n1 ≤ 16384) → Tidy H (AListR vars deep l n0 H k t) (AE.ret (AV.v (Value.bool c))) (H.set k (.box t [I vars, I n1]) ++ L) := by
      intro n1 L c h1 hc h2
      exact tidy_to (by simp) (fun hu => by rw [List.length_set]; exact underH_set hu rfl) rfl ⟨c, n1, rfl, hc, h1, rfl, h2⟩
    have hH : Hid (H = H.set k (.box t [I vars, I n0]) ++ []) := ⟨by rw [List.append_nil]; exact (set_same hk).symm⟩
    have leafS : ∀ (n1 : Nat) (L : List Blk) (c : Bool), n1 + 1 ≤ 16385 → c = (nodesOk vars deep l && (l.isEmpty || decide (n0 + nodesCount l ≤ 16384))) → (c = true → n1 + 1 = n0 + nodesCount l ∧ n1 + 1 ≤ 16384) → Tidy H (AListR vars deep l n0 H k t) (AE.ret (AV.v (Value.bool c))) (H.set k (.box t [I vars, I ((n1 : Int) + 1)]) ++ L) := fun n1 L c h1 h2 h3 => leaf (n1 + 1) L c h1 h2 h3
    replace leaf := Hid.mk leaf
    replace leafS := Hid.mk leafS
    simp -dsimp
    refine guardVW_introTD (fun hpos => ?_) (fun hpos => ?_) <;> simp -dsimp [hpos]
    refine condVW_introD (fun hdeep => ?_) (fun hdeep => ?_) <;> simp -dsimp
    · conv => arg 4; rw [hH.out]
      refine leaf.out n0 [] _ (by omega) ?_ (by simp)
      cases l with
      | nil => simp at hpos
      | cons x l =>
        have : decide (deep ≤ 65) = false := by simp; omega
        simp [nodesOk, this]
    all_goals
      refine loop_rule (hn := fun _ => false) (od := fun _ => none) (fun (i : Nat) f H' => (∃ (ni : Nat) (L : List Blk), H' = H.set k (.box t [I vars, I ni]) ++ L ∧ ni + nodesCount (l.drop i) = n0 + nodesCount l ∧ ni ≤ 16384) ∧ f 0 = .bp k 0 ∧ f 16 = Node.sl l ∧ f 17 = I l.length ∧ f 2 = I deep ∧ f 18 = I i ∧ i ≤ l.length ∧ nodesOk vars deep (l.drop i) = nodesOk vars deep l) (fun i => l.length - i) (by kernel_rfl) 0 (by refine ⟨⟨n0, [], hH.out, by simp, hn0⟩, ?_⟩; simp) ?_
      rintro i f H' ⟨⟨ni, L, rfl, hni, hni2⟩, h0, h16, h17, h2, h18, hi, hok⟩
      simp -dsimp [h0, h16, h17, h2, h18]
      refine condVW_introD (fun hlt => ?_) (fun hlt => ?_)
      · have hp := node_parts hlt
        have hd := nodesOk_drop (vars := vars) (deep := deep) hlt
        have hcd := nodesCount_drop hlt
        have hcle := nodesCount_le l i
        rw [Node.count_eq] at hcd
        rw [Node.ok_eq, hok] at hd
        have hdp2 : decide (deep ≤ 65) = true := by simp; omega
        have hempty : l.isEmpty = false := by rw [isEmpty_len]; simp only [decide_eq_false_iff_not]; omega
        rw [hdp2, Bool.true_and] at hd
        simp only [isEmpty_len] at hd
        replace hd := Hid.mk hd
        replace hok := Hid.mk hok
        replace hempty := Hid.mk hempty
        have hw : IntKind.i64.wrap (deep + 1) = deep + 1 := wrapI (by omega) (by omega)
        have hwn : IntKind.i64.wrap ((ni : Int) + 1) = ((ni + 1 : Nat) : Int) := wrapS (by omega)
        have hwl : IntKind.i64.wrap (↑l[i].ahead.length + ↑l[i].body.length) = ↑l[i].ahead.length + ↑l[i].body.length := by
          have := nodes_len l[i].ahead; have := nodes_len l[i].body; exact wrapI (by omega) (by omega)
        have hwl2 : IntKind.i64.wrap (↑l[i].ahead.length + ↑l[i].body.length + ↑l[i].els.length) = ↑l[i].ahead.length + ↑l[i].body.length + ↑l[i].els.length := by
          have := nodes_len l[i].ahead; have := nodes_len l[i].body; have := nodes_len l[i].els; exact wrapI (by omega) (by omega)
        have hins := fun nn H h => asking_ins k t vars nn l[i].ins H h
        simp only [Ins.cells] at hins
        have ih1 : ni + 1 ≤ 16384 → ∀ H', H'[k]? = some (.box t [I vars, I ((ni : Int) + 1)]) → ACalls Tryz.prog 114 [.bp k 0, Node.sl l[i].ahead, I (deep + 1)] H' (AListR vars (deep + 1) l[i].ahead (ni + 1) H' k t) := fun hn H' h => ih l[i].ahead (deep + 1) (by omega) (by omega) (by omega) (ni + 1) hn H' k t h
        have ih2 : ∀ n1 : Nat, n1 ≤ 16384 → ∀ H', H'[k]? = some (.box t [I vars, I n1]) → ACalls Tryz.prog 114 [.bp k 0, Node.sl l[i].body, I (deep + 1)] H' (AListR vars (deep + 1) l[i].body n1 H' k t) := fun n1 hn H' h => ih l[i].body (deep + 1) (by omega) (by omega) (by omega) n1 hn H' k t h
        have ih3 : ∀ n1 : Nat, n1 ≤ 16384 → ∀ H', H'[k]? = some (.box t [I vars, I n1]) → ACalls Tryz.prog 114 [.bp k 0, Node.sl l[i].els, I (deep + 1)] H' (AListR vars (deep + 1) l[i].els n1 H' k t) := fun n1 hn H' h => ih l[i].els (deep + 1) (by omega) (by omega) (by omega) n1 hn H' k t h
        simp -dsimp [h0, h16, h17, h2, h18, List.getElem?_eq_getElem, hlt, zero_ins, g1, g2, g3, g4, hwn]
        repeat' ((with_reducible first | refine And.intro ?_ ?_ | refine guardVW_introTD (fun _ => ?_) (fun _ => ?_) | refine guardVW_introFD (fun _ => ?_) (fun _ => ?_) | refine condVW_introD (fun _ => ?_) (fun _ => ?_) | refine guardVW_introTE (fun _ => ?_) (fun _ _ _ => ?_) | refine guardVW_introFE (fun _ => ?_) (fun _ _ _ => ?_) | refine condVW_introE (fun _ => ?_) (fun _ _ _ => ?_) | refine guardVW_introTNE (fun _ _ _ => ?_) (fun _ => ?_) | refine guardVW_introFNE (fun _ _ _ => ?_) (fun _ => ?_) | refine condVW_introNE (fun _ _ _ => ?_) (fun _ => ?_) | refine guardVW_introTB (fun _ => ?_) (fun _ => ?_) | refine guardVW_introFB (fun _ => ?_) (fun _ => ?_) | refine condVW_introB (fun _ => ?_) (fun _ => ?_) | refine guardVW_introT (fun _ => ?_) (fun _ => ?_) | refine guardVW_introF (fun _ => ?_) (fun _ => ?_) | refine condVW_intro (fun _ => ?_) (fun _ => ?_) | refine acallsW_det (hins _ _ (g1 _ _)) ?_ | refine callDW_intro (hins _ _ (g1 _ _)) ?_ | refine acallsW_det (asking_is _ _ _ _ _ _ (g1 _ _)) ?_ | refine callDW_intro (asking_is _ _ _ _ _ _ (g1 _ _)) ?_ | (refine acallsW_of (ih1 (by omega) _ (g1 _ _)) (fun e H' hq => ?_); obtain ⟨b1, n1, rfl, hb1, hn1, rfl, he1⟩ := AListR.out hq; replace hb1 := Hid.mk hb1; replace he1 := Hid.mk he1) | (refine acallsW_of (ih2 n1 (he1.out (show b1 = true by assumption)).2 _ (g1 _ _)) (fun e H' hq => ?_); obtain ⟨b2, n2, rfl, hb2, hn2, rfl, he2⟩ := AListR.out hq; replace hb2 := Hid.mk hb2; replace he2 := Hid.mk he2) | (refine acallsW_of (ih3 n2 (he2.out (show b2 = true by assumption)).2 _ (g1 _ _)) (fun e H' hq => ?_); obtain ⟨b3, n3, rfl, hb3, hn3, rfl, he3⟩ := AListR.out hq; replace hb3 := Hid.mk hb3; replace he3 := Hid.mk he3)) <;> simp -dsimp [*, zero_ins])
        all_goals clear ih ih1 ih2 ih3 hins g1 g2 g3 g4 h0 h16 h17 h2 h18 hwl hwl2 hw
        all_goals have hca := count_empty l[i].ahead
        all_goals have hcb := count_empty l[i].body
        all_goals have hce := count_empty l[i].els
        all_goals first
          | (refine leafS.out ni _ _ (by omega) ?_ (by simp); clear leaf leafS; rw [hd.out, hempty.out]; first | (simp [*]; done) | (simp [*, isV, -List.length_eq_zero_iff]; done) | (simp [*, isV, -List.length_eq_zero_iff]; omega))
          | (refine leaf.out n1 _ _ hn1 ?_ (by simp); clear leaf leafS; rw [hempty.out]; have := hb1.out; rw [hd.out]; grind)
          | (refine leaf.out n2 _ _ hn2 ?_ (by simp); clear leaf leafS; rw [hempty.out]; have := hb1.out; have := hb2.out; have := he1.out; rw [hd.out]; grind)
          | (refine leaf.out n3 _ _ hn3 ?_ (by simp); clear leaf leafS; rw [hempty.out]; have := hb1.out; have := hb2.out; have := hb3.out; have := he1.out; have := he2.out; rw [hd.out]; grind)
          | (refine ⟨i + 1, by omega, ⟨n3, ⟨_, rfl⟩, ?_, ?_⟩, wrapS (by omega), by omega, ?_⟩ <;> clear leaf leafS <;> (have := hb1.out; have := hb2.out; have := hb3.out; have := he1.out; have := he2.out; have := he3.out; first | grind | (rw [hd.out]; grind)))
          | (refine ⟨i + 1, by omega, ⟨ni + 1, ⟨_, rfl⟩, ?_, by omega⟩, wrapS (by omega), by omega, ?_⟩ <;> clear leaf leafS <;> first | grind | (rw [hd.out]; grind))
          | trace_state
      · simp -dsimp [h0, h16, h17, h2, h18]
        rw [drop_end hlt] at hok hni
        have hok2 : nodesOk vars deep l = true := by rw [← hok]; rfl
        simp only [nodesCount] at hni
        refine leaf.out _ _ _ (by omega) ?_ (fun _ => by omega)
        rw [hok2]; simp; right; omega
end Go.Proofs.Lm
namespace Go.Proofs.Lm
open Go.Mu
theorem may1_ok (ka kp ta tp : Nat) (vars nodes x : Int) (H : List Blk) (hp : H[kp]? = some (.box tp [.bp ka 0])) (ha : H[ka]? = some (.box ta [I vars, I nodes])) : ACalls Tryz.prog 113 [I x, .bp kp 0] H (fun e H' => e = .ret (Bo (!isV x vars)) ∧ H' = H) := by
  refine acalls_of_vc (hn := fun _ => false) (od := fun _ => none) Tryz.func113 rfl (by kernel_rfl) ?_
  simp -dsimp [hp]
  repeat' ((with_reducible first | refine And.intro ?_ ?_ | refine guardVW_introTD (fun _ => ?_) (fun _ => ?_) | refine guardVW_introFD (fun _ => ?_) (fun _ => ?_) | refine condVW_introD (fun _ => ?_) (fun _ => ?_) | refine guardVW_introTE (fun _ => ?_) (fun _ _ _ => ?_) | refine guardVW_introFE (fun _ => ?_) (fun _ _ _ => ?_) | refine condVW_introE (fun _ => ?_) (fun _ _ _ => ?_) | refine guardVW_introTNE (fun _ _ _ => ?_) (fun _ => ?_) | refine guardVW_introFNE (fun _ _ _ => ?_) (fun _ => ?_) | refine condVW_introNE (fun _ _ _ => ?_) (fun _ => ?_) | refine guardVW_introTB (fun _ => ?_) (fun _ => ?_) | refine guardVW_introFB (fun _ => ?_) (fun _ => ?_) | refine condVW_introB (fun _ => ?_) (fun _ => ?_) | refine guardVW_introT (fun _ => ?_) (fun _ => ?_) | refine guardVW_introF (fun _ => ?_) (fun _ => ?_) | refine condVW_intro (fun _ => ?_) (fun _ => ?_) | refine acallsW_det (asking_is _ _ _ _ _ _ ha) ?_ | refine callDW_intro (asking_is _ _ _ _ _ _ ha) ?_) <;> simp -dsimp [*])
theorem may_ok (f : Flat) (hp : f.params.length ≤ 2^40) (hr : f.rets.length ≤ 2^40) (hc : nodesCount f.code ≤ 2^40) (H : List Blk) : ACalls Tryz.prog 70 [.agg f.cells] H (fun e H' => e = .ret (Bo f.ok) ∧ H' = H) := by
  refine acalls_tidy (acalls_of_vc (hn := fun d => d == 70) (od := fun _ => none) Tryz.func70 rfl (by kernel_rfl) ?_)
  have leaf : ∀ (L : List Blk) (b : Bool), b = f.ok → Tidy H (fun e H' => e = AE.ret (Bo f.ok) ∧ H' = H) (AE.ret (AV.v (Value.bool b))) (H ++ L) := fun L b hb => tidy_same rfl ⟨by rw [hb], rfl⟩
  replace leaf := Hid.mk leaf
  simp -dsimp
  repeat' ((with_reducible first | refine And.intro ?_ ?_ | refine guardVW_introTD (fun _ => ?_) (fun _ => ?_) | refine guardVW_introFD (fun _ => ?_) (fun _ => ?_) | refine condVW_introD (fun _ => ?_) (fun _ => ?_) | refine guardVW_introTE (fun _ => ?_) (fun _ _ _ => ?_) | refine guardVW_introFE (fun _ => ?_) (fun _ _ _ => ?_) | refine condVW_introE (fun _ => ?_) (fun _ _ _ => ?_) | refine guardVW_introTNE (fun _ _ _ => ?_) (fun _ => ?_) | refine guardVW_introFNE (fun _ _ _ => ?_) (fun _ => ?_) | refine condVW_introNE (fun _ _ _ => ?_) (fun _ => ?_) | refine guardVW_introTB (fun _ => ?_) (fun _ => ?_) | refine guardVW_introFB (fun _ => ?_) (fun _ => ?_) | refine condVW_introB (fun _ => ?_) (fun _ => ?_) | refine guardVW_introT (fun _ => ?_) (fun _ => ?_) | refine guardVW_introF (fun _ => ?_) (fun _ => ?_) | refine condVW_intro (fun _ => ?_) (fun _ => ?_)) <;> simp -dsimp [*])
  case refine_2.refine_2.refine_2.refine_2.refine_2 h1 h2 h3 h4 h5 =>
    have hbase : f.ok = (decide (f.rets.length ≤ 16384) && paramsOk f.vars [] f.params && f.rets.all (isV · f.vars) && decide (nodesCount f.code ≤ 16384) && nodesOk f.vars 1 f.code) := by
      have ht := Int.tmod_eq_emod_of_nonneg (a := f.frame) (b := 16) (by omega)
      rw [ht] at h5
      have e1 : decide (0 ≤ f.vars) = true := by simp; omega
      have e2 : decide (f.vars ≤ 16384) = true := by simp; omega
      have e3 : decide (0 ≤ f.frame) = true := by simp; omega
      have e4 : decide (f.frame ≤ 8192) = true := by simp; omega
      have e5 : decide (f.frame % 16 = 0) = true := by simpa using h5
      simp only [Flat.ok, headOk, e1, e2, e3, e4, e5, Bool.true_and]
    replace hbase := Hid.mk hbase
    refine loop_rule (hn := fun d => d == 70) (od := fun _ => none) (fun (i : Nat) g H' => H' = H ++ [.box 116 f.cells, .box 213 [I f.vars, I 0], .box 211 [.bp (H.length + 1) 0]] ∧ g 1 = .bp H.length 0 ∧ g 3 = .bp (H.length + 2) 0 ∧ g 35 = Int.sl f.params ∧ g 36 = I f.params.length ∧ g 37 = I i ∧ i ≤ f.params.length ∧ paramsOk f.vars (f.params.take i) (f.params.drop i) = paramsOk f.vars [] f.params) (fun i => f.params.length - i) (by kernel_rfl) 0 (by simp) ?_
    rintro i g H' ⟨rfl, g1, g3, g35, g36, g37, hi, hok⟩
    simp -dsimp [g1, g3, g35, g36, g37]
    have hm : ∀ L, (H ++ Blk.box 116 f.cells :: Blk.box 213 [I f.vars, I 0] :: L)[H.length + 1]? = some (.box 213 [I f.vars, I 0]) := by intro L; simp
    simp only [Flat.cells] at hm
    refine condVW_introD (fun hlt => ?_) (fun hlt => ?_)
    · have hd := paramsOk_drop (vars := f.vars) hlt
      rw [hok] at hd
      replace hd := Hid.mk hd
      replace hok := Hid.mk hok
      have hct := contains_ok (f.params.take i) f.params[i]
      simp only [Int.sl, List.map_take] at hct
      have hctl : (f.params.take i).length ≤ 2^40 := by simp; omega
      simp -dsimp [g1, g3, g35, g36, g37, List.getElem?_eq_getElem, hlt]
      repeat' ((with_reducible first | refine And.intro ?_ ?_ | refine guardVW_introTD (fun _ => ?_) (fun _ => ?_) | refine guardVW_introFD (fun _ => ?_) (fun _ => ?_) | refine condVW_introD (fun _ => ?_) (fun _ => ?_) | refine guardVW_introTE (fun _ => ?_) (fun _ _ _ => ?_) | refine guardVW_introFE (fun _ => ?_) (fun _ _ _ => ?_) | refine condVW_introE (fun _ => ?_) (fun _ _ _ => ?_) | refine guardVW_introTNE (fun _ _ _ => ?_) (fun _ => ?_) | refine guardVW_introFNE (fun _ _ _ => ?_) (fun _ => ?_) | refine condVW_introNE (fun _ _ _ => ?_) (fun _ => ?_) | refine guardVW_introTB (fun _ => ?_) (fun _ => ?_) | refine guardVW_introFB (fun _ => ?_) (fun _ => ?_) | refine condVW_introB (fun _ => ?_) (fun _ => ?_) | refine guardVW_introT (fun _ => ?_) (fun _ => ?_) | refine guardVW_introF (fun _ => ?_) (fun _ => ?_) | refine condVW_intro (fun _ => ?_) (fun _ => ?_) | refine acallsW_det (asking_is _ _ _ _ _ _ (hm _)) ?_ | refine callDW_intro (asking_is _ _ _ _ _ _ (hm _)) ?_ | refine acallsW_det (hct _ hctl) ?_ | refine callDW_intro (hct _ hctl) ?_) <;> simp -dsimp [*])
      · refine leaf.out _ _ ?_
        rw [hbase.out, hd.out]; simp [*]
      · refine leaf.out _ _ ?_
        rw [hbase.out, hd.out]; simp [*]
      · refine ⟨i + 1, by omega, wrapS (by omega), by omega, ?_⟩
        have := hd.out
        simp [*] at this
        simp [this]
    · rw [drop_end hlt] at hok
      have hpok : paramsOk f.vars [] f.params = true := by rw [← hok]; rfl
      rw [hpok, Bool.and_true] at hbase
      have hcf := containsFunc_ok (g := 113) (cap := [.bp (H.length + 2) 0]) (fun v => !isV v f.vars) f.rets (H ++ [.box 116 f.cells, .box 213 [I f.vars, I 0], .box 211 [.bp (H.length + 1) 0]]) hr (by kernel_rfl) (fun x _ => may1_ok (H.length + 1) (H.length + 2) 213 211 f.vars 0 x _ (by simp) (by simp))
      have hal := alist_ok f.vars _ f.code 1 (Nat.le_refl _) hc (by omega) 0 (by omega) (H ++ [.box 116 f.cells, .box 213 [I f.vars, I 0], .box 211 [.bp (H.length + 1) 0]]) (H.length + 1) 213 (by simp)
      simp only [Flat.cells] at hcf hal
      simp -dsimp [g1, g3, g35, g36, g37]
      refine acallsW_det hcf ?_
      have hany : (f.rets.any fun v => !isV v f.vars) = !f.rets.all (isV · f.vars) := by rw [List.all_eq_not_any_not]; simp
      replace hany := Hid.mk hany
      simp -dsimp [g1, g3, g35, g36, g37, hany.out]
      repeat' ((with_reducible first | refine And.intro ?_ ?_ | refine guardVW_introTD (fun _ => ?_) (fun _ => ?_) | refine guardVW_introFD (fun _ => ?_) (fun _ => ?_) | refine condVW_introD (fun _ => ?_) (fun _ => ?_) | refine guardVW_introTE (fun _ => ?_) (fun _ _ _ => ?_) | refine guardVW_introFE (fun _ => ?_) (fun _ _ _ => ?_) | refine condVW_introE (fun _ => ?_) (fun _ _ _ => ?_) | refine guardVW_introTNE (fun _ _ _ => ?_) (fun _ => ?_) | refine guardVW_introFNE (fun _ _ _ => ?_) (fun _ => ?_) | refine condVW_introNE (fun _ _ _ => ?_) (fun _ => ?_) | refine guardVW_introTB (fun _ => ?_) (fun _ => ?_) | refine guardVW_introFB (fun _ => ?_) (fun _ => ?_) | refine condVW_introB (fun _ => ?_) (fun _ => ?_) | refine guardVW_introT (fun _ => ?_) (fun _ => ?_) | refine guardVW_introF (fun _ => ?_) (fun _ => ?_) | refine condVW_intro (fun _ => ?_) (fun _ => ?_) | (refine acallsW_of hal (fun e H' hq => ?_); obtain ⟨b1, n1, rfl, hb1, hn1, rfl, he1⟩ := AListR.out hq; replace hb1 := Hid.mk hb1; replace he1 := Hid.mk he1)) <;> simp -dsimp [*])
      all_goals refine leaf.out _ _ ?_
      all_goals clear hcf hal hm
      all_goals rw [hbase.out]
      · have hcap : (f.code.isEmpty || decide (0 + nodesCount f.code ≤ 16384)) = decide (nodesCount f.code ≤ 16384) := by
          have h0 := count_empty f.code
          rw [isEmpty_len, Bool.eq_iff_iff, Nat.zero_add]; simp only [Bool.or_eq_true, decide_eq_true_eq]; omega
        rw [hb1.out, hcap]
        have : f.rets.length ≤ 16384 := by omega
        simp [*, Bool.and_comm]
      · simp [*]; omega
      · simp [*]
  case refine_2.refine_2.refine_2.refine_2.refine_1 h5 _ _ =>
    refine leaf.out _ _ ?_
    have ht := Int.tmod_eq_emod_of_nonneg (a := f.frame) (b := 16) (by omega)
    rw [ht] at h5
    simp [Flat.ok, headOk, h5]
  all_goals
    refine leaf.out _ _ ?_
    simp [Flat.ok, headOk]
    omega
end Go.Proofs.Lm
namespace Go.Proofs.Lm
open Go.Mu
abbrev lineOf (kind var label : Int) : Line := ⟨kind, ⟨0, 0, 0, 0, 0, 0, 0, false⟩, var, label⟩
mutual
def Node.lines : Node → Nat → List Line × Nat
  | .mk k i c a b e, lab =>
    if k = 1 then ([⟨1, i, 0, 0⟩], lab)
    else if k = 2 then
      let A := nodesLines a lab
      let B := nodesLines b (A.2 + 2)
      let E := nodesLines e B.2
      (A.1 ++ [lineOf 4 c A.2] ++ B.1 ++ [lineOf 3 0 ((A.2 : Int) + 1), lineOf 2 0 A.2] ++ E.1 ++ [lineOf 2 0 ((A.2 : Int) + 1)], E.2)
    else
      let A := nodesLines a (lab + 2)
      let B := nodesLines b A.2
      ([lineOf 2 0 lab] ++ A.1 ++ [lineOf 4 c ((lab : Int) + 1)] ++ B.1 ++ [lineOf 3 0 lab, lineOf 2 0 ((lab : Int) + 1)], B.2)
def nodesLines : List Node → Nat → List Line × Nat
  | [], lab => ([], lab)
  | n :: l, lab =>
    let A := n.lines lab
    let B := nodesLines l A.2
    (A.1 ++ B.1, B.2)
end
theorem Node.lines_ins (n : Node) (lab : Nat) (h : n.kind = 1) : n.lines lab = ([⟨1, n.ins, 0, 0⟩], lab) := by
  cases n; simp only [Node.kind] at h; subst h; simp [Node.lines, Node.ins]
theorem Node.lines_if (n : Node) (lab : Nat) (h : n.kind = 2) : n.lines lab = (let A := nodesLines n.ahead lab; let B := nodesLines n.body (A.2 + 2); let E := nodesLines n.els B.2
    (A.1 ++ [lineOf 4 n.cond A.2] ++ B.1 ++ [lineOf 3 0 ((A.2 : Int) + 1), lineOf 2 0 A.2] ++ E.1 ++ [lineOf 2 0 ((A.2 : Int) + 1)], E.2)) := by
  cases n; simp only [Node.kind] at h; subst h; simp only [Node.lines, Node.ahead, Node.body, Node.els, Node.cond]; rfl
theorem Node.lines_loop (n : Node) (lab : Nat) (h1 : n.kind ≠ 1) (h2 : n.kind ≠ 2) : n.lines lab = (let A := nodesLines n.ahead (lab + 2); let B := nodesLines n.body A.2
    ([lineOf 2 0 lab] ++ A.1 ++ [lineOf 4 n.cond ((lab : Int) + 1)] ++ B.1 ++ [lineOf 3 0 lab, lineOf 2 0 ((lab : Int) + 1)], B.2)) := by
  cases n; simp only [Node.kind] at h1 h2; simp only [Node.lines, Node.ahead, Node.body, Node.els, Node.cond, if_neg h1, if_neg h2]
theorem nodesLines_drop {l : List Node} {i : Nat} (h : i < l.length) (lab : Nat) : nodesLines (l.drop i) lab = ((l[i].lines lab).1 ++ (nodesLines (l.drop (i + 1)) (l[i].lines lab).2).1, (nodesLines (l.drop (i + 1)) (l[i].lines lab).2).2) := by
  rw [drop_cons h, nodesLines]
theorem lines_le (n : Nat) : ∀ (l : List Node), nodesCount l ≤ n → ∀ lab, (nodesLines l lab).1.length ≤ 5 * nodesCount l ∧ (nodesLines l lab).2 ≤ lab + 2 * nodesCount l ∧ lab ≤ (nodesLines l lab).2 := by
  induction n with
  | zero => intro l hl lab; have := nodes_len l; have : l = [] := List.eq_nil_of_length_eq_zero (by omega); subst this; simp [nodesLines]
  | succ n ih =>
    intro l
    induction l with
    | nil => intro _ lab; simp [nodesLines]
    | cons x l ihl =>
      intro hl lab
      simp only [nodesCount, Node.count_eq] at hl
      have key : (x.lines lab).1.length ≤ 5 * x.count ∧ (x.lines lab).2 ≤ lab + 2 * x.count ∧ lab ≤ (x.lines lab).2 := by
        rw [Node.count_eq]
        by_cases h1 : x.kind = 1
        · rw [Node.lines_ins x lab h1]; simp; omega
        · by_cases h2 : x.kind = 2
          · rw [Node.lines_if x lab h2]
            have hA := ih x.ahead (by omega) lab
            have hB := ih x.body (by omega) ((nodesLines x.ahead lab).2 + 2)
            have hE := ih x.els (by omega) (nodesLines x.body ((nodesLines x.ahead lab).2 + 2)).2
            simp only [List.length_append, List.length_cons, List.length_nil]
            omega
          · rw [Node.lines_loop x lab h1 h2]
            have hA := ih x.ahead (by omega) (lab + 2)
            have hB := ih x.body (by omega) (nodesLines x.ahead (lab + 2)).2
            simp only [List.length_append, List.length_cons, List.length_nil]
            omega
      have hL := ihl (by omega) (x.lines lab).2
      simp only [nodesLines, List.length_append, nodesCount]
      omega
abbrev refV : AV := .ifc 166 (.agg [])
def mkBox (t k : Nat) (ls : List Line) (lab : Nat) : Blk := .box t [ownS k (ls.map Line.cells), I lab]
def mkRow (ls : List Line) : Blk := ownB 67 11 (ls.map Line.cells)
theorem under_mkBox {n t k : Nat} (h : k < n) (ls : List Line) (lab : Nat) : (mkBox t k ls lab).under n = true := by simp [mkBox, Blk.under, underL, under_ownS _ _ _ h, AV.under]
theorem under_mkRow (n : Nat) (ls : List Line) : (mkRow ls).under n = true := by
  refine under_ownB _ _ _ _ ?_
  rw [List.all_eq_true]
  intro e he
  obtain ⟨x, _, rfl⟩ := List.mem_map.1 he
  simp [underL, AV.under]
theorem label_call {H : List Blk} {a k : Nat} {ls : List Line} {lab : Nat} {L : List Blk} {R : AE → List Blk → Prop} {w : Wit R} (ha : a < H.length) (hk : k < H.length) (hak : a ≠ k) (hl : lab ≤ 2^45)
    (h1 : R (.ret (I lab)) (set2 H a (mkBox 169 k ls (lab + 1)) k (mkRow ls) ++ L)) :
    ACallsW Tryz.prog 115 [.bp a 0] (set2 H a (mkBox 169 k ls lab) k (mkRow ls) ++ L) R w := by
  refine acalls_of_vc (hn := fun _ => false) (od := fun _ => none) Tryz.func115 rfl (by kernel_rfl) ?_
  have g1 := fun X Y L => m2_getA ha hak X Y L
  have s1 := fun X Y Z L => m2_setA ha hak X Y Z L
  have hw : IntKind.i64.wrap ((lab : Int) + 1) = (lab : Int) + 1 := wrapI (by omega) (by omega)
  have hw2 : IntKind.i64.wrap (lab : Int) = lab := wrapI (by omega) (by omega)
  simp -dsimp [g1, s1, hw, hw2, mkBox]
  exact h1
theorem line_call {H : List Blk} {a k : Nat} {ls : List Line} {lab : Nat} {L : List Blk} {x : Line} {R : AE → List Blk → Prop} {w : Wit R} (ha : a < H.length) (hk : k < H.length) (hak : a ≠ k) (hls : ls.length ≤ 65536)
    (h1 : ls.length < 65536 → R (.ret (.tup [])) (set2 H a (mkBox 169 k (ls ++ [x]) lab) k (mkRow (ls ++ [x])) ++ L)) (h2 : ls.length = 65536 → R (.pan refV) (set2 H a (mkBox 169 k ls lab) k (mkRow ls) ++ L)) :
    ACallsW Tryz.prog 73 [.bp a 0, .agg [I x.kind, I x.ins.kind, I x.ins.op, I x.ins.d, I x.ins.a, I x.ins.b, I x.ins.c, U x.ins.word, Bo x.ins.stack, I x.var, I x.label]] (set2 H a (mkBox 169 k ls lab) k (mkRow ls) ++ L) R w := by
  refine acalls_tidy (acalls_of_vc (hn := fun d => d == 19) (od := fun _ => none) Tryz.func73 rfl (by kernel_rfl) ?_)
  have g1 := fun X Y L => m2_getA ha hak X Y L
  have g2 := fun X Y L => m2_getB (a := a) hk X Y L
  have s1 := fun X Y Z L => m2_setA ha hak X Y Z L
  have s2 := fun X Y Z L => m2_setB (a := a) hk X Y Z L
  have hlen : ∀ X L, lenV (set2 H a X k (mkRow ls) ++ L) 1 (ownS k (List.map Line.cells ls)) = some ((List.map Line.cells ls).length : Int) := fun X L => lenV_ownS (m2_getB hk X _ L)
  have hu : ∀ (X' Y' : Blk), X'.under (set2 H a X' k Y' ++ L).length = true → Y'.under (set2 H a X' k Y' ++ L).length = true → underH (set2 H a (mkBox 169 k ls lab) k (mkRow ls) ++ L).length (set2 H a (mkBox 169 k ls lab) k (mkRow ls) ++ L) = true → underH (set2 H a X' k Y' ++ L).length (set2 H a X' k Y' ++ L) = true := by
    intro X' Y' h1 h2 h3
    have e : (set2 H a (mkBox 169 k ls lab) k (mkRow ls) ++ L).length = (set2 H a X' k Y' ++ L).length := by simp
    rw [e] at h3
    exact underH_m2 ha hk hak h3 h1 h2
  simp -dsimp [g1, g2, s1, s2, hlen, mkBox]
  refine condVW_introE (fun he => ?_) (fun hne _ _ => ?_)
  · simp -dsimp [g1, g2, s1, s2, hlen, mkBox]
    rw [← List.append_assoc]
    exact tidy_toP (Nat.le_refl _) id rfl (h2 (by omega))
  · simp -dsimp [g1, g2, s1, s2, hlen, mkBox]
    refine appendVW_own (g2 _ _ _) (by simp; omega) (by simp; omega) ?_
    simp -dsimp [g1, g2, s1, s2, hlen, mkBox]
    rw [← List.append_assoc]
    have := h1 (by omega)
    simp only [mkBox, mkRow, List.map_append] at this
    refine tidy_to (by simp) (hu _ _ ?_ ?_) rfl this
    · simp [Blk.under, underL, AV.under]
      exact under_ownS _ _ _ (by omega)
    · have := under_mkRow (set2 H a (mkBox 169 k (ls ++ [x]) lab) k (mkRow (ls ++ [x])) ++ L).length (ls ++ [x])
      simpa [mkRow] using this
end Go.Proofs.Lm
namespace Go.Proofs.Lm
open Go.Mu
theorem nodes_call (vars : Int) (n : Nat) : ∀ (l : List Node) (deep : Int), nodesCount l ≤ n → nodesCount l ≤ 2^40 → nodesOk vars deep l = true → ∀ {H : List Blk} {a k : Nat} {ls : List Line} {lab : Nat} {L : List Blk} {R : AE → List Blk → Prop} {w : Wit R},
    a < H.length → k < H.length → a ≠ k → ls.length ≤ 65536 → lab + 2 * nodesCount l ≤ 2^44 →
    (ls.length + (nodesLines l lab).1.length ≤ 65536 → R (.ret (.tup [])) (set2 H a (mkBox 169 k (ls ++ (nodesLines l lab).1) (nodesLines l lab).2) k (mkRow (ls ++ (nodesLines l lab).1)) ++ L)) →
    (65536 < ls.length + (nodesLines l lab).1.length → ∀ (ls' : List Line) (lab' : Nat), R (.pan refV) (set2 H a (mkBox 169 k ls' lab') k (mkRow ls') ++ L)) →
    ACallsW Tryz.prog 72 [.bp a 0, Node.sl l] (set2 H a (mkBox 169 k ls lab) k (mkRow ls) ++ L) R w := by
  induction n with
  | zero =>
    intro l deep hl hb hok H a k ls lab L R w ha hk hak hls hlab h1 h2
    have : l = [] := List.eq_nil_of_length_eq_zero (by have := nodes_len l; omega)
    subst this
    refine acalls_of_vc (hn := fun _ => false) (od := fun _ => none) Tryz.func72 rfl (by kernel_rfl) ?_
    simp -dsimp
    refine loop_rule (hn := fun _ => false) (od := fun _ => none) (fun (i : Nat) f H' => H' = set2 H a (mkBox 169 k ls lab) k (mkRow ls) ++ L ∧ f 10 = Node.sl [] ∧ f 11 = I 0 ∧ f 12 = I 0) (fun i => 0) (by kernel_rfl) 0 (by simp) ?_
    rintro i f H' ⟨rfl, h0, h7, h8⟩
    have := h1 (by simpa [nodesLines] using hls)
    simp only [nodesLines, List.append_nil] at this
    simp -dsimp [h0, h7, h8]
    exact this
  | succ n ih =>
    intro l deep hl hb hok H a k ls lab L R w ha hk hak hls hlab h1 h2
    refine acalls_tidy (acalls_of_vc (hn := fun _ => false) (od := fun _ => none) Tryz.func72 rfl (by kernel_rfl) ?_)
    have hu : ∀ (l1 : List Line) (b1 : Nat), underH (set2 H a (mkBox 169 k ls lab) k (mkRow ls) ++ L).length (set2 H a (mkBox 169 k ls lab) k (mkRow ls) ++ L) = true → underH (set2 H a (mkBox 169 k l1 b1) k (mkRow l1) ++ L).length (set2 H a (mkBox 169 k l1 b1) k (mkRow l1) ++ L) = true := by
      intro l1 b1 h3
      have e : (set2 H a (mkBox 169 k ls lab) k (mkRow ls) ++ L).length = (set2 H a (mkBox 169 k l1 b1) k (mkRow l1) ++ L).length := by simp
      rw [e] at h3
      exact underH_m2 ha hk hak h3 (under_mkBox (by simp; omega) _ _) (under_mkRow _ _)
    have panleaf : Hid (65536 < ls.length + (nodesLines l lab).1.length → ∀ (l1 : List Line) (b1 : Nat) (G : List Blk), Tidy (set2 H a (mkBox 169 k ls lab) k (mkRow ls) ++ L) R (.pan refV) (set2 H a (mkBox 169 k l1 b1) k (mkRow l1) ++ (L ++ G))) := ⟨fun hlt l1 b1 G => by
      rw [← List.append_assoc]
      exact tidy_toP (by simp) (hu l1 b1) rfl (h2 hlt l1 b1)⟩
    have retleaf : Hid (∀ (l1 : List Line) (b1 : Nat) (G : List Blk), l1 = ls ++ (nodesLines l lab).1 → b1 = (nodesLines l lab).2 → l1.length ≤ 65536 → Tidy (set2 H a (mkBox 169 k ls lab) k (mkRow ls) ++ L) R (.ret (.tup [])) (set2 H a (mkBox 169 k l1 b1) k (mkRow l1) ++ (L ++ G))) := ⟨fun l1 b1 G e1 e2 hlt => by
      rw [← List.append_assoc]
      refine tidy_to (by simp) (hu l1 b1) rfl ?_
      rw [e1, e2]
      exact h1 (by rw [e1] at hlt; simpa using hlt)⟩
    clear h1 h2
    have g1 := fun X Y L => m2_getA ha hak X Y L
    have g2 := fun X Y L i => m2_getN (H := H) (a := a) (b := k) X Y L i
    have g3 := fun X Y L => m2_getE (H := H) (a := a) (b := k) X Y L
    have s2 := fun X Y Z L i => m2_setN (H := H) (a := a) (b := k) X Y Z L i
    have s3 := fun X Y Z L => m2_setE (H := H) (a := a) (b := k) X Y Z L
    have hlen := nodes_len l
    simp -dsimp
    refine loop_rule (hn := fun _ => false) (od := fun _ => none) (fun (i : Nat) f H' => (∃ (li : List Line) (bi : Nat) (G : List Blk), H' = set2 H a (mkBox 169 k li bi) k (mkRow li) ++ (L ++ G) ∧ li ++ (nodesLines (l.drop i) bi).1 = ls ++ (nodesLines l lab).1 ∧ (nodesLines (l.drop i) bi).2 = (nodesLines l lab).2 ∧ li.length ≤ 65536 ∧ bi + 2 * nodesCount (l.drop i) ≤ 2^44) ∧ f 0 = .bp a 0 ∧ f 10 = Node.sl l ∧ f 11 = I l.length ∧ f 12 = I i ∧ i ≤ l.length ∧ nodesOk vars deep (l.drop i) = true) (fun i => l.length - i) (by kernel_rfl) 0 (by refine ⟨⟨ls, lab, [], by simp, rfl, rfl, hls, hlab⟩, ?_⟩; simp [hok]) ?_
    rintro i f H' ⟨⟨li, bi, G, rfl, he1, he2, hli, hbi⟩, f0, f10, f11, f12, hi, hoki⟩
    simp -dsimp [f0, f10, f11, f12]
    refine condVW_introD (fun hlt => ?_) (fun hlt => ?_)
    · have hp := node_parts hlt
      have hcd := nodesCount_drop hlt
      rw [Node.count_eq] at hcd
      have hd := nodesOk_drop (vars := vars) (deep := deep) hlt
      rw [hoki, Node.ok_eq] at hd
      obtain ⟨X, b', hXb⟩ : ∃ X b', l[i].lines bi = (X, b') := ⟨_, _, rfl⟩
      have hld := nodesLines_drop hlt bi
      have hlenE := congrArg List.length he1
      rw [hld] at he1 he2 hlenE
      simp only [hXb] at he1 he2 hlenE
      rw [← List.append_assoc] at he1
      simp only [List.length_append] at hlenE
      have hb'le : b' + 2 * nodesCount (l.drop (i + 1)) ≤ 2^44 := by
        have := (lines_le _ [l[i]] (Nat.le_refl _) bi).2.1
        simp only [nodesLines, hXb, nodesCount, Node.count_eq] at this
        omega
      have hoknext : nodesOk vars deep (l.drop (i + 1)) = true := by
        have := hd.symm
        simp only [Bool.and_eq_true] at this
        exact this.2
      have next : Hid (∀ (l1 : List Line) (b1 : Nat) (G' : List Blk), l1 = li ++ X → b1 = b' → l1.length ≤ 65536 → ∃ y, l.length - y < l.length - i ∧ (∃ li_1 bi_1, (∃ x, set2 H a (mkBox 169 k l1 b1) k (mkRow l1) ++ (L ++ G') = set2 H a (mkBox 169 k li_1 bi_1) k (mkRow li_1) ++ (L ++ x)) ∧
          li_1 ++ (nodesLines (List.drop y l) bi_1).fst = ls ++ (nodesLines l lab).fst ∧ (nodesLines (List.drop y l) bi_1).snd = (nodesLines l lab).snd ∧ li_1.length ≤ 65536 ∧ bi_1 + 2 * nodesCount (List.drop y l) ≤ 17592186044416) ∧
          IntKind.i64.wrap ((i : Int) + 1) = (y : Int) ∧ y ≤ l.length ∧ nodesOk vars deep (List.drop y l) = true) := ⟨fun l1 b1 G' e1 e2 e3 => by
        subst e1; subst e2
        exact ⟨i + 1, by omega, ⟨_, _, ⟨_, rfl⟩, he1, he2, e3, by omega⟩, wrapS (by omega), by omega, hoknext⟩⟩
      replace he1 := Hid.mk he1
      replace he2 := Hid.mk he2
      replace hld := Hid.mk hld
      have hsub : l[i].kind ≠ 1 → (l[i].kind = 2 ∨ l[i].kind = 3) ∧ nodesOk vars (deep + 1) l[i].ahead = true ∧ nodesOk vars (deep + 1) l[i].body = true ∧ nodesOk vars (deep + 1) l[i].els = true := by
        intro h1
        rw [if_neg h1] at hd
        have := hd.symm
        simp only [Bool.and_eq_true] at this
        have h2 := this.1.2
        split at h2
        · rename_i h3; simp only [Bool.and_eq_true] at h2; exact ⟨h3, h2.1.1.2, h2.1.2, h2.2⟩
        · cases h2
      clear hd
      simp -dsimp [f0, f10, f11, f12, List.getElem?_eq_getElem, hlt, g1, g2, g3, s2, s3]
      refine condVW_introE (fun hk1 => ?_) (fun hk1 hk1' _ => ?_)
      · have hX := hXb
        rw [Node.lines_ins l[i] bi hk1] at hX
        cases hX
        have hk2 : True := trivial
        have hX : True := trivial
        simp -dsimp [f0, f10, f11, f12, g1, g2, g3, s2, s3, hk1]
        refine line_call (x := ⟨1, l[i].ins, 0, 0⟩) ha hk hak hli (fun hc => ?_) (fun hc => ?_)
        · simp -dsimp [f0, f10, f11, f12]
          exact next.out _ _ _ rfl rfl (by simp; omega)
        · simp -dsimp
          exact panleaf.out (by simp at hlenE; omega) _ _ _
      · obtain ⟨hk23, hoka, hokb, hoke⟩ := hsub hk1
        simp -dsimp [f0, f10, f11, f12, g1, g2, g3, s2, s3]
        refine condVW_introE (fun hk2 => ?_) (fun hk2 hk2' _ => ?_)
        · have hX := hXb
          rw [Node.lines_if l[i] bi hk2] at hX
          obtain ⟨A, bA, hA⟩ : ∃ A b, nodesLines l[i].ahead bi = (A, b) := ⟨_, _, rfl⟩
          obtain ⟨B, bB, hB⟩ : ∃ B b, nodesLines l[i].body (bA + 2) = (B, b) := ⟨_, _, rfl⟩
          obtain ⟨E, bE, hE⟩ : ∃ E b, nodesLines l[i].els bB = (E, b) := ⟨_, _, rfl⟩
          simp only [hA, hB, hE, Prod.mk.injEq] at hX
          obtain ⟨hX, rfl⟩ := hX
          have hbA := lines_le _ l[i].ahead (Nat.le_refl _) bi
          have hbB := lines_le _ l[i].body (Nat.le_refl _) (bA + 2)
          have hbE := lines_le _ l[i].els (Nat.le_refl _) bB
          rw [hA] at hbA; rw [hB] at hbB; rw [hE] at hbE
          have hXl := congrArg List.length hX
          simp only [List.length_append, List.length_cons, List.length_nil] at hXl
          have ihA := @ih l[i].ahead (deep + 1) (by omega) (by omega) hoka
          have ihB := @ih l[i].body (deep + 1) (by omega) (by omega) hokb
          have ihE := @ih l[i].els (deep + 1) (by omega) (by omega) hoke
          simp -dsimp [f0, f10, f11, f12, g1, g2, g3, s2, s3, hk2]
          refine ihA ha hk hak hli (by omega) (fun hc => ?_) (fun hc _ _ => ?_)
          rotate_left
          · simp -dsimp; exact panleaf.out (by simp only [List.length_append, List.length_cons, List.length_nil, hA, hB, hE] at hc; omega) _ _ _
          simp -dsimp [f0, f10, f11, f12, g1, g2, g3, s2, s3]
          simp only [List.length_append, List.length_cons, List.length_nil, hA, hB, hE] at hc ⊢
          refine label_call (lab := bA) ha hk hak (by omega) ?_
          simp -dsimp [f0, f10, f11, f12, g1, g2, g3, s2, s3]
          refine label_call (lab := bA + 1) ha hk hak (by omega) ?_
          simp -dsimp [f0, f10, f11, f12, g1, g2, g3, s2, s3]
          refine line_call (x := lineOf 4 l[i].cond bA) ha hk hak (by simp only [List.length_append, List.length_cons, List.length_nil]; omega) (fun hc => ?_) (fun hc => ?_)
          rotate_left
          · simp -dsimp; exact panleaf.out (by simp only [List.length_append, List.length_cons, List.length_nil, hA, hB, hE] at hc; omega) _ _ _
          simp -dsimp [f0, f10, f11, f12, g1, g2, g3, s2, s3]
          simp only [List.length_append, List.length_cons, List.length_nil, hA, hB, hE] at hc ⊢
          refine ihB ha hk hak (by simp only [List.length_append, List.length_cons, List.length_nil]; omega) (by omega) (fun hc => ?_) (fun hc _ _ => ?_)
          rotate_left
          · simp -dsimp; exact panleaf.out (by simp only [List.length_append, List.length_cons, List.length_nil, hA, hB, hE] at hc; omega) _ _ _
          simp -dsimp [f0, f10, f11, f12, g1, g2, g3, s2, s3]
          simp only [List.length_append, List.length_cons, List.length_nil, hA, hB, hE] at hc ⊢
          refine line_call (x := lineOf 3 0 ((bA : Int) + 1)) ha hk hak (by simp only [List.length_append, List.length_cons, List.length_nil]; omega) (fun hc => ?_) (fun hc => ?_)
          rotate_left
          · simp -dsimp; exact panleaf.out (by simp only [List.length_append, List.length_cons, List.length_nil, hA, hB, hE] at hc; omega) _ _ _
          simp -dsimp [f0, f10, f11, f12, g1, g2, g3, s2, s3]
          simp only [List.length_append, List.length_cons, List.length_nil, hA, hB, hE] at hc ⊢
          refine line_call (x := lineOf 2 0 bA) ha hk hak (by simp only [List.length_append, List.length_cons, List.length_nil]; omega) (fun hc => ?_) (fun hc => ?_)
          rotate_left
          · simp -dsimp; exact panleaf.out (by simp only [List.length_append, List.length_cons, List.length_nil, hA, hB, hE] at hc; omega) _ _ _
          simp -dsimp [f0, f10, f11, f12, g1, g2, g3, s2, s3]
          simp only [List.length_append, List.length_cons, List.length_nil, hA, hB, hE] at hc ⊢
          refine ihE ha hk hak (by simp only [List.length_append, List.length_cons, List.length_nil]; omega) (by omega) (fun hc => ?_) (fun hc _ _ => ?_)
          rotate_left
          · simp -dsimp; exact panleaf.out (by simp only [List.length_append, List.length_cons, List.length_nil, hA, hB, hE] at hc; omega) _ _ _
          simp -dsimp [f0, f10, f11, f12, g1, g2, g3, s2, s3]
          simp only [List.length_append, List.length_cons, List.length_nil, hA, hB, hE] at hc ⊢
          refine line_call (x := lineOf 2 0 ((bA : Int) + 1)) ha hk hak (by simp only [List.length_append, List.length_cons, List.length_nil]; omega) (fun hc => ?_) (fun hc => ?_)
          rotate_left
          · simp -dsimp; exact panleaf.out (by simp only [List.length_append, List.length_cons, List.length_nil, hA, hB, hE] at hc; omega) _ _ _
          simp -dsimp [f0, f10, f11, f12, g1, g2, g3, s2, s3]
          simp only [List.length_append, List.length_cons, List.length_nil, hA, hB, hE] at hc ⊢
          exact next.out _ _ _ (by rw [← hX]; simp) rfl (by simp; omega)
        · have hk3 : l[i].kind = 3 := hk23.resolve_left hk2
          simp -dsimp [f0, f10, f11, f12, g1, g2, g3, s2, s3, hk3]
          have hX := hXb
          rw [Node.lines_loop l[i] bi hk1 hk2] at hX
          obtain ⟨A, bA, hA⟩ : ∃ A b, nodesLines l[i].ahead (bi + 2) = (A, b) := ⟨_, _, rfl⟩
          obtain ⟨B, bB, hB⟩ : ∃ B b, nodesLines l[i].body bA = (B, b) := ⟨_, _, rfl⟩
          simp only [hA, hB, Prod.mk.injEq] at hX
          obtain ⟨hX, rfl⟩ := hX
          have hbA := lines_le _ l[i].ahead (Nat.le_refl _) (bi + 2)
          have hbB := lines_le _ l[i].body (Nat.le_refl _) bA
          rw [hA] at hbA; rw [hB] at hbB
          have hXl := congrArg List.length hX
          simp only [List.length_append, List.length_cons, List.length_nil] at hXl
          have ihA := @ih l[i].ahead (deep + 1) (by omega) (by omega) hoka
          have ihB := @ih l[i].body (deep + 1) (by omega) (by omega) hokb
          refine label_call (lab := bi) ha hk hak (by omega) ?_
          simp -dsimp [f0, f10, f11, f12, g1, g2, g3, s2, s3]
          refine label_call (lab := bi + 1) ha hk hak (by omega) ?_
          simp -dsimp [f0, f10, f11, f12, g1, g2, g3, s2, s3]
          refine line_call (x := lineOf 2 0 bi) ha hk hak hli (fun hc => ?_) (fun hc => ?_)
          rotate_left
          · simp -dsimp; exact panleaf.out (by (try simp only [List.length_append, List.length_cons, List.length_nil, hA, hB] at hc); omega) _ _ _
          simp -dsimp [f0, f10, f11, f12, g1, g2, g3, s2, s3]
          try simp only [List.length_append, List.length_cons, List.length_nil, hA, hB] at hc ⊢
          refine ihA ha hk hak (by simp only [List.length_append, List.length_cons, List.length_nil]; omega) (by omega) (fun hc => ?_) (fun hc _ _ => ?_)
          rotate_left
          · simp -dsimp; exact panleaf.out (by (try simp only [List.length_append, List.length_cons, List.length_nil, hA, hB] at hc); omega) _ _ _
          simp -dsimp [f0, f10, f11, f12, g1, g2, g3, s2, s3]
          try simp only [List.length_append, List.length_cons, List.length_nil, hA, hB] at hc ⊢
          refine line_call (x := lineOf 4 l[i].cond ((bi : Int) + 1)) ha hk hak (by simp only [List.length_append, List.length_cons, List.length_nil]; omega) (fun hc => ?_) (fun hc => ?_)
          rotate_left
          · simp -dsimp; exact panleaf.out (by (try simp only [List.length_append, List.length_cons, List.length_nil, hA, hB] at hc); omega) _ _ _
          simp -dsimp [f0, f10, f11, f12, g1, g2, g3, s2, s3]
          try simp only [List.length_append, List.length_cons, List.length_nil, hA, hB] at hc ⊢
          refine ihB ha hk hak (by simp only [List.length_append, List.length_cons, List.length_nil]; omega) (by omega) (fun hc => ?_) (fun hc _ _ => ?_)
          rotate_left
          · simp -dsimp; exact panleaf.out (by (try simp only [List.length_append, List.length_cons, List.length_nil, hA, hB] at hc); omega) _ _ _
          simp -dsimp [f0, f10, f11, f12, g1, g2, g3, s2, s3]
          try simp only [List.length_append, List.length_cons, List.length_nil, hA, hB] at hc ⊢
          refine line_call (x := lineOf 3 0 bi) ha hk hak (by simp only [List.length_append, List.length_cons, List.length_nil]; omega) (fun hc => ?_) (fun hc => ?_)
          rotate_left
          · simp -dsimp; exact panleaf.out (by (try simp only [List.length_append, List.length_cons, List.length_nil, hA, hB] at hc); omega) _ _ _
          simp -dsimp [f0, f10, f11, f12, g1, g2, g3, s2, s3]
          try simp only [List.length_append, List.length_cons, List.length_nil, hA, hB] at hc ⊢
          refine line_call (x := lineOf 2 0 ((bi : Int) + 1)) ha hk hak (by simp only [List.length_append, List.length_cons, List.length_nil]; omega) (fun hc => ?_) (fun hc => ?_)
          rotate_left
          · simp -dsimp; exact panleaf.out (by (try simp only [List.length_append, List.length_cons, List.length_nil, hA, hB] at hc); omega) _ _ _
          simp -dsimp [f0, f10, f11, f12, g1, g2, g3, s2, s3]
          try simp only [List.length_append, List.length_cons, List.length_nil, hA, hB] at hc ⊢
          exact next.out _ _ _ (by rw [← hX]; simp) rfl (by simp; omega)
    · rw [drop_end hlt] at he1 he2
      simp only [nodesLines, List.append_nil] at he1 he2
      simp -dsimp [f0, f10, f11, f12]
      exact retleaf.out _ _ _ he1 he2 hli
end Go.Proofs.Lm
namespace Go.Proofs.Lm
open Go.Mu
end Go.Proofs.Lm
namespace Go.Proofs.Lm
open Go.Mu
theorem clone_ok (l : List Int) (hl : l.length ≤ 2^40) (H : List Blk) : ACalls Tryz.prog 74 [Int.sl l] H (fun e H' => e = .ret (Int.sl l) ∧ H' = H) := by
  refine acalls_under fun hu _ => acalls_tidy (acalls_weakE (acalls_of_vc (hn := fun d => d == 5 || d == 7) (od := fun _ => none) Tryz.func74 rfl (by kernel_rfl) ?_))
  simp -dsimp
  have own : ∀ (R : AE → List Blk → Prop), R = (Tidy H fun e H' => e = AE.ret (Int.sl l) ∧ H' = H) → WeakE R (.ret (.hs H.length 0 l.length l.length)) (H ++ [.row 3 1 (l.map fun n => [I n])]) := by
    intro R hR
    refine tidy_weak (.refl _) ?_
    rw [hR]
    refine tidy_give hu 0 1 3 (l.map fun n => [I n]) rfl (by simp [AV.frzB]) ?_
    simp only [AV.frz, List.length_map, Nat.add_zero, and_self, if_true, List.drop_zero]
    have : List.take l.length (l.map fun n => [I n]) = l.map fun n => [I n] := List.take_of_length_le (by simp)
    rw [this]
    exact tidy_same rfl ⟨rfl, rfl⟩
  refine slNilW_vs (fun hne => ?_) (fun he => ⟨?_, ?_⟩)
  · simp -dsimp
    refine appendVW_hs (es := []) (by simp) rfl rfl (by simp; omega) (by simp; omega) ?_
    simp -dsimp
    exact own _ rfl
  · have : l = [] := by simpa using he
    subst this
    simp -dsimp
    refine tidy_weak (.nil 1) ?_
    exact tidy_now rfl ⟨rfl, rfl⟩
  · simp -dsimp
    refine appendVW_hs (es := []) (by simp) rfl rfl (by simp; omega) (by simp; omega) ?_
    simp -dsimp
    exact own _ rfl
@[simp] theorem nil20 : binE Tryz.prog .eql 20 (.v .nilIface) (.v .nilIface) = some (.v (.bool true)) := by kernel_rfl
@[simp] theorem ifc20 (t : Nat) (x : AV) : binE Tryz.prog .eql 20 (.ifc t x) (.v .nilIface) = some (.v (.bool false)) := by kernel_rfl
theorem rec_none (t2 t3 : Nat) (H : List Blk) : RecSem Tryz.prog ⟨71, [.bp t2 0, .bp t3 0], none⟩ (.v .nilIface) H (fun H' => H' = H) := by
  refine recSem_of_vc (hn := fun _ => false) (od := fun _ => none) Tryz.func71 rfl rfl (by kernel_rfl) ?_
  show vcC _ _ _ _ _ (recQ _) _ _ _
  simp -dsimp
abbrev nilS : AV := .v (.slice none 0 0)
theorem rec_some (t2 t3 : Nat) (H : List Blk) (h2 : H[t2]? = some (.box 25 [I 0, nilS, nilS, I 0, nilS])) (h3 : H[t3]? = some (.box 41 [I 0])) (h23 : t2 ≠ t3) : RecSem Tryz.prog ⟨71, [.bp t2 0, .bp t3 0], none⟩ refV H
    (fun H' => ∃ L, H' = set2 H t2 (.box 25 [I 0, nilS, nilS, I 0, nilS]) t3 (.box 41 [I 13]) ++ L) := by
  refine recSem_of_vc (hn := fun _ => false) (od := fun _ => none) Tryz.func71 rfl rfl (by kernel_rfl) ?_
  show vcC _ _ _ _ _ (recQ _) _ _ _
  have l2 := lt_of_get h2
  have l3 := lt_of_get h3
  have hH : H = set2 H t2 (.box 25 [I 0, nilS, nilS, I 0, nilS]) t3 (.box 41 [I 0]) ++ [] := by rw [set2_same h2 h3]; simp
  rw [hH]
  clear h2 h3
  have g1 := fun X Y L => m2_getA l2 h23 X Y L
  have g2 := fun X Y L => m2_getB (a := t2) l3 X Y L
  have g3 := fun X Y L i => m2_getN (H := H) (a := t2) (b := t3) X Y L i
  have g4 := fun X Y L => m2_getE (H := H) (a := t2) (b := t3) X Y L
  have s1 := fun X Y Z L => m2_setA l2 h23 X Y Z L
  have s2 := fun X Y Z L => m2_setB (a := t2) l3 X Y Z L
  have s4 := fun X Y Z L => m2_setE (H := H) (a := t2) (b := t3) X Y Z L
  clear hH
  simp -dsimp [assertV, g1, g2, g3, g4, s1, s2, s4]
  exact ⟨[.box 166 []], by rw [set2_set2 l2 l3 h23]⟩
def MakeR (f : Flat) (H : List Blk) (e : AE) (H' : List Blk) : Prop :=
  ∃ (l : Linear) (n : Int), e = .ret (.tup [.agg l.cells, I n]) ∧ H' = H ∧ (f.ok = false → n = 2 ∧ l = ⟨0, [], [], 0, []⟩) ∧
    (f.ok = true → ((nodesLines f.code 0).1.length < 65536 → n = 0 ∧ l = ⟨f.vars, f.params, f.rets, f.frame, (nodesLines f.code 0).1 ++ [lineOf 5 0 0]⟩) ∧ (65536 ≤ (nodesLines f.code 0).1.length → n = 13))
theorem make_ok (f : Flat) (hp : f.params.length ≤ 2^40) (hr : f.rets.length ≤ 2^40) (hc : nodesCount f.code ≤ 2^36) (H : List Blk) : ACalls Tryz.prog 38 [.agg f.cells] H (MakeR f H) := by
  refine acalls_under fun hu _ => acalls_tidy (acalls_weakE (acalls_spare 1 (acalls_of_vcD (hn := fun _ => false) (od := fun _ => none) Tryz.func38 rfl (by kernel_rfl) ?_)))
  have hmay := fun H => may_ok f hp hr (by omega) H
  simp only [Flat.cells] at hmay
  simp -dsimp
  refine acallsW_det (hmay _) ?_
  simp -dsimp
  have hweak : Weak (.tup [.agg [I 0, nilS, nilS, I 0, nilS], I 2]) (.tup [.agg (Linear.mk 0 [] [] 0 []).cells, I 2]) :=
    .tupL (.cons (.aggL (.cons (.refl _) (.cons (.nil 1) (.cons (.nil 1) (.cons (.refl _) (.cons (.nil 11) .nil)))))) (.cons (.refl _) .nil))
  have hweak13 : Weak (.tup [.agg [I 0, nilS, nilS, I 0, nilS], I 13]) (.tup [.agg (Linear.mk 0 [] [] 0 []).cells, I 13]) :=
    .tupL (.cons (.aggL (.cons (.refl _) (.cons (.nil 1) (.cons (.nil 1) (.cons (.refl _) (.cons (.nil 11) .nil)))))) (.cons (.refl _) .nil))
  refine condVW_introB (fun hok => ?_) (fun hok => ?_)
  · simp -dsimp
    exact tidy_weak hweak (tidy_same rfl ⟨_, 2, rfl, rfl, fun _ => ⟨rfl, rfl⟩, fun h => absurd h (by simp [hok])⟩)
  · have hnok : nodesOk f.vars 1 f.code = true := by simp only [Flat.ok, Bool.and_eq_true] at hok; exact hok.2
    have hcount : nodesCount f.code ≤ 16384 := by simp only [Flat.ok, Bool.and_eq_true, decide_eq_true_eq] at hok; exact hok.1.2
    obtain ⟨N, lb, hN⟩ : ∃ N lb, nodesLines f.code 0 = (N, lb) := ⟨_, _, rfl⟩
    simp -dsimp
    obtain ⟨M, hM⟩ : ∃ M, M = H ++ [Blk.pend, Blk.box 116 [I f.vars, Int.sl f.params, Int.sl f.rets, I f.frame, Node.sl f.code], .box 25 [I 0, nilS, nilS, I 0, nilS], .box 41 [I 0], .box 169 [nilS, I 0]] := ⟨_, rfl⟩
    have hMl : M.length = H.length + 5 := by rw [hM]; simp
    have hM0 : M = set2 M (H.length + 4) (mkBox 169 H.length [] 0) H.length (mkRow []) ++ [] := by
      rw [List.append_nil, set2_same]
      · rw [hM]; simp [mkBox]
      · rw [hM]; simp [mkRow]
    have fold : ∀ X Y L, set2 M (H.length + 4) X H.length Y ++ L = H ++ ([Y, Blk.box 116 [I f.vars, Int.sl f.params, Int.sl f.rets, I f.frame, Node.sl f.code], .box 25 [I 0, nilS, nilS, I 0, nilS], .box 41 [I 0], X] ++ L) := by
      intro X Y L; rw [hM]; simp [set2]
    have fold0 : ∀ X Y, set2 M (H.length + 4) X H.length Y = H ++ [Y, Blk.box 116 [I f.vars, Int.sl f.params, Int.sl f.rets, I f.frame, Node.sl f.code], .box 25 [I 0, nilS, nilS, I 0, nilS], .box 41 [I 0], X] := by
      intro X Y; have := fold X Y []; simpa using this
    have pan : ∀ (L : List Blk) (h65 : 65536 ≤ N.length), WeakE (Tidy H (MakeR f H)) (.ret (.tup [.agg [I 0, nilS, nilS, I 0, nilS], I 13])) (H ++ L) := fun L h65 =>
      tidy_weak hweak13 (tidy_same rfl ⟨_, 13, rfl, rfl, fun h => absurd h (by simp [hok]), fun _ => by rw [hN]; exact ⟨fun h => by simp only at h; omega, fun _ => rfl⟩⟩)
    rw [← hM, hM0]
    refine nodes_call f.vars _ f.code 1 (Nat.le_refl _) (by omega) hnok (by omega) (by omega) (by omega) (by simp) (by omega) (fun h65 => ?_) (fun h65 ls' lab' => ?_)
    rotate_left
    · rw [hN] at h65
      simp -dsimp [fold0]
      refine recW_of (rec_some (H.length + 2) (H.length + 3) _ (by simp) (by simp) (by omega)) ?_
      rintro H' ⟨L, rfl⟩
      simp -dsimp [set2]
      exact pan _ (by simp at h65; omega)
    rw [hN] at h65 ⊢
    simp only [List.nil_append, List.length_nil, Nat.zero_add] at h65 ⊢
    simp -dsimp
    have e : set2 M (H.length + 4) (mkBox 169 H.length N lb) H.length (mkRow N) = set2 M (H.length + 4) (mkBox 169 H.length N lb) H.length (mkRow N) ++ [] := by simp
    rw [e]
    refine line_call (x := lineOf 5 0 0) (H := M) (a := H.length + 4) (k := H.length) (by omega) (by omega) (by omega) (by omega) (fun hc => ?_) (fun hc => ?_)
    rotate_left
    · simp -dsimp [fold0]
      refine recW_of (rec_some (H.length + 2) (H.length + 3) _ (by simp) (by simp) (by omega)) ?_
      rintro H' ⟨L, rfl⟩
      simp -dsimp [set2]
      exact pan _ (by omega)
    have hcl1 := clone_ok f.params hp
    have hcl2 := clone_ok f.rets hr
    rw [fold]
    simp -dsimp [mkBox, mkRow]
    refine callDW_intro (hcl1 _) ?_
    simp -dsimp
    refine callDW_intro (hcl2 _) ?_
    simp -dsimp
    refine recW_of (rec_none _ _ _) ?_
    rintro H' rfl
    simp -dsimp
    obtain ⟨es, hes⟩ : ∃ es, es = (N ++ [lineOf 5 0 0]).map Line.cells := ⟨_, rfl⟩
    have hes2 : List.map Line.cells N ++ [[I 5, I 0, I 0, I 0, I 0, I 0, I 0, U 0, Bo false, I 0, I 0]] = es := by rw [hes]; simp
    have hne : es ≠ [] := by rw [hes]; simp
    have hz : es.flatten.all AV.frzB = true := by
      rw [hes, List.all_eq_true]
      intro c hc
      obtain ⟨e, he, hce⟩ := List.mem_flatten.1 hc
      obtain ⟨x, _, rfl⟩ := List.mem_map.1 he
      simp at hce
      rcases hce with rfl | rfl | rfl | rfl | rfl | rfl | rfl | rfl | rfl | rfl | rfl <;> rfl
    rw [hes2]
    refine tidy_weak (.refl _) ?_
    rw [ownB, if_neg hne]
    have hfz : (AV.tup [.agg [I f.vars, Int.sl f.params, Int.sl f.rets, I f.frame, ownS H.length es], I 0]).frz H.length 11 es = .tup [.agg [I f.vars, Int.sl f.params, Int.sl f.rets, I f.frame, .vs 11 es], I 0] := by
      simp [AV.frz, frzL, frz_own _ _ _ hne]
    refine tidy_give1 hu 11 67 es hz ?_ ?_
    · rw [hfz]; rfl
    · rw [hfz]
      refine ⟨⟨f.vars, f.params, f.rets, f.frame, N ++ [lineOf 5 0 0]⟩, 0, by rw [hes]; rfl, rfl, fun h => absurd h (by simp [hok]), fun _ => ?_⟩
      rw [hN]
      exact ⟨fun _ => ⟨rfl, rfl⟩, fun h => by simp only at h; omega⟩
end Go.Proofs.Lm
namespace Go.Proofs.Lm
open Go.Mu
theorem line_nq (x y : Line) : binE Tryz.prog .neq 67 (.agg x.cells) (.agg y.cells) = some (Bo (!decide (x = y))) := by
  simp only [Line.cells, I, U, Bo]
  rw [Tryz.nq67]
  congr 3
  congr 1
  rw [Bool.eq_iff_iff]
  simp [Line.ext_iff, Ins.ext_iff]
theorem take_next {α : Type} {a b : List α} {i : Nat} (ha : i < a.length) (hb : i < b.length) (h : a.take i = b.take i) (he : a[i] = b[i]) : a.take (i + 1) = b.take (i + 1) := by
  rw [List.take_succ_eq_append_getElem ha, List.take_succ_eq_append_getElem hb, h, he]
theorem same_ok (a b : Linear) (h1 : a.params.length ≤ 2^40) (h2 : a.rets.length ≤ 2^40) (h3 : a.code.length ≤ 2^40) (H : List Blk) : ACalls Tryz.prog 39 [.agg a.cells, .agg b.cells] H (fun e H' => e = .ret (Bo (decide (a = b))) ∧ H' = H) := by
  refine acalls_tidy (acalls_of_vc (hn := fun d => false) (od := fun i => none) Tryz.func39 rfl (by kernel_rfl) ?_)
  have leaf : ∀ (L : List Blk) (c : Bool), c = decide (a = b) → Tidy H (fun e H' => e = AE.ret (Bo (decide (a = b))) ∧ H' = H) (AE.ret (AV.v (Value.bool c))) (H ++ L) := fun L c hb => tidy_same rfl ⟨by rw [hb], rfl⟩
  replace leaf := Hid.mk leaf
  have hs1 := fun H => sameInts_ok a.params b.params H h1
  have hs2 := fun H => sameInts_ok a.rets b.rets H h2
  have hnq := fun (x y : Line) => line_nq x y
  simp only [Line.cells] at hnq
  simp -dsimp
  repeat' ((with_reducible first | refine And.intro ?_ ?_ | refine guardVW_introTD (fun _ => ?_) (fun _ => ?_) | refine guardVW_introFD (fun _ => ?_) (fun _ => ?_) | refine condVW_introD (fun _ => ?_) (fun _ => ?_) | refine guardVW_introTE (fun _ => ?_) (fun _ _ _ => ?_) | refine guardVW_introFE (fun _ => ?_) (fun _ _ _ => ?_) | refine condVW_introE (fun _ => ?_) (fun _ _ _ => ?_) | refine guardVW_introTNE (fun _ _ _ => ?_) (fun _ => ?_) | refine guardVW_introFNE (fun _ _ _ => ?_) (fun _ => ?_) | refine condVW_introNE (fun _ _ _ => ?_) (fun _ => ?_) | refine guardVW_introTB (fun _ => ?_) (fun _ => ?_) | refine guardVW_introFB (fun _ => ?_) (fun _ => ?_) | refine condVW_introB (fun _ => ?_) (fun _ => ?_) | refine guardVW_introT (fun _ => ?_) (fun _ => ?_) | refine guardVW_introF (fun _ => ?_) (fun _ => ?_) | refine condVW_intro (fun _ => ?_) (fun _ => ?_) | refine acallsW_det (hs1 _) ?_ | refine callDW_intro (hs1 _) ?_ | refine acallsW_det (hs2 _) ?_ | refine callDW_intro (hs2 _) ?_) <;> simp -dsimp [*])
  case refine_2.refine_2.refine_2.refine_2.refine_2 e1 e2 e3 e4 e5 =>
    simp at e3 e4
    have e5' : a.code.length = b.code.length := by omega
    refine loop_rule (hn := fun _ => false) (od := fun _ => none) (fun (i : Nat) f H' => H' = H ++ [Blk.box 25 [I b.vars, Int.sl a.params, Int.sl a.rets, I b.frame, Line.sl a.code], Blk.box 25 [I b.vars, Int.sl b.params, Int.sl b.rets, I b.frame, Line.sl b.code]] ∧ f 2 = .bp H.length 0 ∧ f 3 = .bp (H.length + 1) 0 ∧ f 5 = I i ∧ i ≤ a.code.length ∧ a.code.take i = b.code.take i) (fun i => a.code.length - i) (by kernel_rfl) 0 (by simp) ?_
    rintro i f H' ⟨rfl, f2, f3, f5, hi, hok⟩
    simp -dsimp [f2, f3, f5]
    refine condVW_introD (fun hlt => ?_) (fun hlt => ?_)
    · have hlt' : i < b.code.length := by omega
      have hab : a = b → a.code[i] = b.code[i] := by rintro rfl; rfl
      simp -dsimp [f2, f3, f5, List.getElem?_eq_getElem, hlt, hlt', hnq]
      refine condVW_intro (fun hne => ?_) (fun heq => ?_)
      · simp -dsimp
        refine leaf.out _ _ ?_
        simp only [Bool.not_eq_true', decide_eq_false_iff_not] at hne
        symm; rw [decide_eq_false_iff_not]; exact fun h => hne (hab h)
      · simp only [Bool.not_eq_false', decide_eq_true_eq] at heq
        simp -dsimp [f2, f3, f5]
        exact ⟨i + 1, by omega, wrapS (by omega), by omega, take_next hlt hlt' hok heq⟩
    · simp -dsimp [f2, f3, f5]
      rw [List.take_of_length_le (by omega), List.take_of_length_le (by omega)] at hok
      refine leaf.out _ _ ?_
      cases a; cases b
      simp_all
  all_goals refine leaf.out _ _ ?_
  all_goals (symm; rw [decide_eq_false_iff_not]; rintro rfl; simp_all)
end Go.Proofs.Lm
namespace Go.Proofs.Lm
open Go.Mu
end Go.Proofs.Lm
namespace Go.Proofs.Lm
open Go.Mu
end Go.Proofs.Lm
namespace Go.Proofs.Lm
open Go.Mu
abbrev insOf (kind op d a : Int) : Ins := ⟨kind, op, d, a, 0, 0, 0, false⟩
def known1 : Flat := ⟨3, [], [], 0, [.mk 2 zeroIns 0 [] [.mk 1 (insOf 2 0 1 2) 0 [] [] []] []]⟩
def known2 : Flat := ⟨1, [], [], 0, [.mk 3 zeroIns 0 [] [] []]⟩
def known1L : Linear := ⟨3, [], [], 0, [lineOf 4 0 0, ⟨1, insOf 2 0 1 2, 0, 0⟩, lineOf 3 0 1, lineOf 2 0 0, lineOf 2 0 1, lineOf 5 0 0]⟩
def known2L : Linear := ⟨1, [], [], 0, [lineOf 2 0 0, lineOf 4 0 1, lineOf 3 0 0, lineOf 2 0 1, lineOf 5 0 0]⟩
theorem known1_call (H : List Blk) : ACalls Tryz.prog 38 [.agg [I 3, nilS, nilS, I 0, .vs 13 [[I 2, I 0, I 0, I 0, I 0, I 0, I 0, U 0, Bo false, I 0, nilS, .vs 13 [[I 1, I 2, I 0, I 1, I 2, I 0, I 0, U 0, Bo false, I 0, nilS, nilS, nilS]], nilS]]]] H
    (fun e H' => e = .ret (.tup [.agg known1L.cells, I 0]) ∧ H' = H) := by
  refine acalls_weak (args' := [.agg known1.cells]) ?_ ?_
  · simp only [known1, Flat.cells, Node.sl, Int.sl, List.map_cons, List.map_nil, Node.cells_eq, Node.kind, Node.ins, Node.cond, Node.ahead, Node.body, Node.els, zeroIns, insOf]
    repeat first | exact Weak.refl _ | exact Weak.nil _ | exact WeakL.nil | exact WeakR.nil | apply Weak.aggL | apply Weak.vsR | apply WeakL.cons | apply WeakR.cons
  · have hok : known1.ok = true := by decide
    have hl : nodesLines known1.code 0 = ([lineOf 4 0 0, ⟨1, insOf 2 0 1 2, 0, 0⟩, lineOf 3 0 1, lineOf 2 0 0, lineOf 2 0 1], 2) := by decide
    refine (make_ok known1 (by decide) (by decide) (by decide) H).mono fun e H' => ?_
    rintro ⟨l, n, rfl, rfl, -, h⟩
    have h := (h hok).1 (by rw [hl]; decide)
    rw [hl] at h
    obtain ⟨rfl, rfl⟩ := h
    exact ⟨rfl, rfl⟩
theorem known2_call (H : List Blk) : ACalls Tryz.prog 38 [.agg [I 1, nilS, nilS, I 0, .vs 13 [[I 3, I 0, I 0, I 0, I 0, I 0, I 0, U 0, Bo false, I 0, nilS, nilS, nilS]]]] H
    (fun e H' => e = .ret (.tup [.agg known2L.cells, I 0]) ∧ H' = H) := by
  refine acalls_weak (args' := [.agg known2.cells]) ?_ ?_
  · simp only [known2, Flat.cells, Node.sl, Int.sl, List.map_cons, List.map_nil, Node.cells_eq, Node.kind, Node.ins, Node.cond, Node.ahead, Node.body, Node.els, zeroIns, insOf]
    repeat first | exact Weak.refl _ | exact Weak.nil _ | exact WeakL.nil | exact WeakR.nil | apply Weak.aggL | apply Weak.vsR | apply WeakL.cons | apply WeakR.cons
  · have hok : known2.ok = true := by decide
    have hl : nodesLines known2.code 0 = ([lineOf 2 0 0, lineOf 4 0 1, lineOf 3 0 0, lineOf 2 0 1], 2) := by decide
    refine (make_ok known2 (by decide) (by decide) (by decide) H).mono fun e H' => ?_
    rintro ⟨l, n, rfl, rfl, -, h⟩
    have h := (h hok).1 (by rw [hl]; decide)
    rw [hl] at h
    obtain ⟨rfl, rfl⟩ := h
    exact ⟨rfl, rfl⟩
theorem same1 (H : List Blk) : ACalls Tryz.prog 39 [.agg known1L.cells, .agg [I 3, nilS, nilS, I 0, .vs 11 (known1L.code.map Line.cells)]] H (fun e H' => e = .ret (Bo true) ∧ H' = H) := by
  refine acalls_weak (args' := [.agg known1L.cells, .agg known1L.cells]) ?_ ((same_ok known1L known1L (by decide) (by decide) (by decide) H).mono fun e H' h => by simpa using h)
  simp only [known1L, Linear.cells, Int.sl, Line.sl, List.map_cons, List.map_nil, Line.cells]
  repeat first | exact Weak.refl _ | exact Weak.nil _ | exact WeakL.nil | exact WeakR.nil | apply Weak.aggL | apply Weak.vsR | apply WeakL.cons | apply WeakR.cons
theorem same2 (H : List Blk) : ACalls Tryz.prog 39 [.agg known2L.cells, .agg [I 1, nilS, nilS, I 0, .vs 11 (known2L.code.map Line.cells)]] H (fun e H' => e = .ret (Bo true) ∧ H' = H) := by
  refine acalls_weak (args' := [.agg known2L.cells, .agg known2L.cells]) ?_ ((same_ok known2L known2L (by decide) (by decide) (by decide) H).mono fun e H' h => by simpa using h)
  simp only [known2L, Linear.cells, Int.sl, Line.sl, List.map_cons, List.map_nil, Line.cells]
  repeat first | exact Weak.refl _ | exact Weak.nil _ | exact WeakL.nil | exact WeakR.nil | apply Weak.aggL | apply Weak.vsR | apply WeakL.cons | apply WeakR.cons
theorem known_ok (H : List Blk) : ACalls Tryz.prog 14 [] H (fun e H' => e = .ret (Bo true) ∧ H' = H) := by
  refine acalls_tidy (acalls_of_vc (hn := fun _ => false) (od := fun _ => none) Tryz.func14 rfl (by kernel_rfl) ?_)
  have c1 := known1_call
  have c2 := known2_call
  have s1 := same1
  have s2 := same2
  simp only [known1L, known2L, Linear.cells, Int.sl, Line.sl, List.map_cons, List.map_nil, Line.cells, lineOf, insOf] at c1 c2 s1 s2
  simp -dsimp
  repeat' ((with_reducible first | refine And.intro ?_ ?_ | refine guardVW_introTD (fun _ => ?_) (fun _ => ?_) | refine guardVW_introFD (fun _ => ?_) (fun _ => ?_) | refine condVW_introD (fun _ => ?_) (fun _ => ?_) | refine guardVW_introTE (fun _ => ?_) (fun _ _ _ => ?_) | refine guardVW_introFE (fun _ => ?_) (fun _ _ _ => ?_) | refine condVW_introE (fun _ => ?_) (fun _ _ _ => ?_) | refine guardVW_introTNE (fun _ _ _ => ?_) (fun _ => ?_) | refine guardVW_introFNE (fun _ _ _ => ?_) (fun _ => ?_) | refine condVW_introNE (fun _ _ _ => ?_) (fun _ => ?_) | refine guardVW_introTB (fun _ => ?_) (fun _ => ?_) | refine guardVW_introFB (fun _ => ?_) (fun _ => ?_) | refine condVW_introB (fun _ => ?_) (fun _ => ?_) | refine guardVW_introT (fun _ => ?_) (fun _ => ?_) | refine guardVW_introF (fun _ => ?_) (fun _ => ?_) | refine condVW_intro (fun _ => ?_) (fun _ => ?_) | refine acallsW_det (c1 _) ?_ | refine callDW_intro (c1 _) ?_ | refine acallsW_det (c2 _) ?_ | refine callDW_intro (c2 _) ?_ | refine acallsW_det (s1 _) ?_ | refine callDW_intro (s1 _) ?_ | refine acallsW_det (s2 _) ?_ | refine callDW_intro (s2 _) ?_) <;> simp -dsimp [*])
  all_goals exact tidy_same rfl ⟨rfl, rfl⟩
end Go.Proofs.Lm
namespace Go.Proofs
open Go.Mu
def DeadI (l : Linear) (args : List Int) (N : List Blk) (v : AV) (M : List Blk) : Prop := ∃ h A, Own 29 1 N M h (WoE A) ∧ v = hrow h A.length ∧ A.length = args.length ∧ ∀ j p, l.params[j]? = some p → LiveAt l 0 p → args.getD j 0 = A.getD j 0
def ddHn (d : Nat) : Bool := d == 105
def hasB (V : List Int) (p : Int) (n : Nat) : Bool := (V.take n).any (· == p)
theorem hasB0 (V : List Int) (p : Int) : hasB V p 0 = false := rfl
theorem hasBs {V : List Int} {p v : Int} {n : Nat} (h : V[n]? = some v) : hasB V p (n + 1) = (hasB V p n || v == p) := by
  unfold hasB
  rw [List.take_add_one, h]
  simp
theorem hasBm {V : List Int} {p : Int} : hasB V p V.length = true ↔ p ∈ V := by
  unfold hasB
  rw [List.take_length]
  simp
theorem dead_law (l : Linear) (args oth : List Int) (r : List Rg) (w : List (List Int)) (F : Int) (hs : l.Sm) (hal : args.length ≤ 2^40) (hol : oth.length ≤ 2^40) (hrr : r.length ≤ 2^40) (hw : ∀ x ∈ l.code, 0 ≤ x.ins.word ∧ x.ins.word ≤ 18446744073709551615) (H : List Blk) :
    ACalls Tryz.prog 4 [.agg l.cells, Wo.sl args, Wo.sl oth, Rg.sl r, Us.sl w, I F] H (fun e H' => e = .ret (Bo true) ∧ H' = H) := by
  refine acalls_under fun hu _ => acalls_tidy (acalls_of_awp Tryz.func4 rfl (by kernel_rfl) ?_)
  have hpl := hs.params
  have hrel := hs.rets
  have hcl := hs.code
  have kn := Lm.known_ok
  have sh := fun H => short_ok l hs H
  have my := fun H => rmay16_ok l (by omega) (by omega) (by omega) H
  simp only [Linear.cells] at sh my
  obtain ⟨c0, hc0⟩ : ∃ c, c = shortL l := ⟨_, rfl⟩
  obtain ⟨c1, hc1⟩ : ∃ c, c = l.ok := ⟨_, rfl⟩
  rw [← hc0] at sh
  rw [← hc1] at my
  obtain ⟨d6, hd6⟩ : ∃ c, c = decide ((150 : Int) < (l.code.length : Int)) := ⟨_, rfl⟩
  obtain ⟨d7, hd7⟩ : ∃ c, c = decide (40 < l.vars) := ⟨_, rfl⟩
  obtain ⟨d1, hd1⟩ : ∃ c, c = decide (F < 0) := ⟨_, rfl⟩
  obtain ⟨d2, hd2⟩ : ∃ c, c = decide (1000 < F) := ⟨_, rfl⟩
  obtain ⟨d5, hd5⟩ : ∃ c, c = ((args.length : Int) != (l.params.length : Int)) := ⟨_, rfl⟩
  obtain ⟨d8, hd8⟩ : ∃ c, c = ((oth.length : Int) != (args.length : Int)) := ⟨_, rfl⟩
  have fin : ∀ L, Tidy H (fun e H' => e = .ret (Bo true) ∧ H' = H) (.ret (Bo true)) (H ++ L) := fun L => tidy_same rfl ⟨rfl, rfl⟩
  refine awp_cut (fun _ => false) (fun _ => none) (fun f M => M = H ++ [liB l] ∧ f 1 = Wo.sl args ∧ f 2 = Wo.sl oth ∧ f 3 = Rg.sl r ∧ f 4 = Us.sl w ∧ f 5 = I F ∧ f 6 = .bp H.length 0) (by kernel_rfl) ?_ ?_
  · simp -dsimp
  rintro f M ⟨rfl, f1, f2, f3, f4, f5, f6⟩
  refine awp_cut (fun _ => false) (fun _ => none) (fun f M => M = H ++ [liB l] ∧ f 1 = Wo.sl args ∧ f 2 = Wo.sl oth ∧ f 3 = Rg.sl r ∧ f 4 = Us.sl w ∧ f 5 = I F ∧ f 6 = .bp H.length 0 ∧ c1 = true ∧ d1 = false ∧ d2 = false ∧ d5 = false ∧ d8 = false) (by kernel_rfl) ?_ ?_
  · clear hc0 hc1
    simp -dsimp [f1, f2, f3, f4, f5, f6, ← hd6]
    cases d6
    rotate_left
    · simp -dsimp [f1, f2, f3, f4, f5, f6]
      refine acallsW_det (kn _) ?_
      simp -dsimp [f1, f2, f3, f4, f5, f6]
      exact fin _
    simp -dsimp [f1, f2, f3, f4, f5, f6, ← hd7]
    cases d7
    rotate_left
    · simp -dsimp [f1, f2, f3, f4, f5, f6]
      refine acallsW_det (kn _) ?_
      simp -dsimp [f1, f2, f3, f4, f5, f6]
      exact fin _
    simp -dsimp [f1, f2, f3, f4, f5, f6]
    refine acallsW_det (sh _) ?_
    cases c0
    · simp -dsimp [f1, f2, f3, f4, f5, f6]
      refine acallsW_det (kn _) ?_
      simp -dsimp [f1, f2, f3, f4, f5, f6]
      exact fin _
    simp -dsimp [f1, f2, f3, f4, f5, f6, ← hd1]
    cases d1
    rotate_left
    · simp -dsimp [f1, f2, f3, f4, f5, f6]
      refine acallsW_det (kn _) ?_
      simp -dsimp [f1, f2, f3, f4, f5, f6]
      exact fin _
    simp -dsimp [f1, f2, f3, f4, f5, f6, ← hd2]
    cases d2
    rotate_left
    · simp -dsimp [f1, f2, f3, f4, f5, f6]
      refine acallsW_det (kn _) ?_
      simp -dsimp [f1, f2, f3, f4, f5, f6]
      exact fin _
    simp -dsimp [f1, f2, f3, f4, f5, f6]
    refine acallsW_det (my _) ?_
    cases c1
    · simp -dsimp [f1, f2, f3, f4, f5, f6]
      refine acallsW_det (kn _) ?_
      simp -dsimp [f1, f2, f3, f4, f5, f6]
      exact fin _
    simp -dsimp [f1, f2, f3, f4, f5, f6, ← hd5]
    cases d5
    rotate_left
    · simp -dsimp [f1, f2, f3, f4, f5, f6]
      refine acallsW_det (kn _) ?_
      simp -dsimp [f1, f2, f3, f4, f5, f6]
      exact fin _
    simp -dsimp [f1, f2, f3, f4, f5, f6, ← hd8]
    cases d8
    rotate_left
    · simp -dsimp [f1, f2, f3, f4, f5, f6]
      refine acallsW_det (kn _) ?_
      simp -dsimp [f1, f2, f3, f4, f5, f6]
      exact fin _
    simp -dsimp [f1, f2, f3, f4, f5, f6]
  clear f1 f2 f3 f4 f5 f6 f
  rintro f M ⟨rfl, f1, f2, f3, f4, f5, f6, rfl, rfl, rfl, rfl, rfl⟩
  have a1 := of_decide_eq_false hd1.symm
  have a2 := of_decide_eq_false hd2.symm
  have hal2 : args.length = l.params.length := by
    have := hd5.symm
    exact Int.ofNat_inj.1 (by simpa using this)
  have hol2 : oth.length = args.length := by
    have := hd8.symm
    exact Int.ofNat_inj.1 (by simpa using this)
  obtain ⟨fuel, rfl⟩ : ∃ k : Nat, F = k := ⟨F.toNat, by omega⟩
  clear hd1 hd2 hd5 hd6 hd7 hd8 sh my hc0
  have hok : l.ok = true := hc1.symm
  have ho := ((ok_iff l).1 hok).1
  have lv := fun H => live_ok l hs hok H
  have hlvl : (lvL l).length = l.code.length := by simp [lvL]
  have hlv0 : 0 < l.code.length → (lvL l)[0]? = some (liveL l 0) := fun h => by simp [lvL, h]
  obtain ⟨LV, hLV⟩ : ∃ LV, LV = lvL l := ⟨_, rfl⟩
  rw [← hLV] at lv hlvl hlv0
  simp only [Linear.cells] at lv
  refine awp_cut (fun _ => false) (fun _ => none) (fun f M => M = H ++ [liB l] ∧ f 1 = Wo.sl args ∧ f 2 = Wo.sl oth ∧ f 3 = Rg.sl r ∧ f 4 = Us.sl w ∧ f 5 = I fuel ∧ f 6 = .bp H.length 0 ∧ f 13 = Ints.sl LV ∧ f 14 = I 0) (by kernel_rfl) ?_ ?_
  · simp -dsimp [f1, f2, f3, f4, f5, f6]
    refine acallsW_det (lv _) ?_
    simp -dsimp [f1, f2, f3, f4, f5, f6]
  clear f1 f2 f3 f4 f5 f6 f lv hLV
  rintro f M ⟨rfl, f1, f2, f3, f4, f5, f6, f13, f14⟩
  by_cases hreg : mayL r = true ∧ fitsL r w = true
  rotate_left
  · have rg := fun H => regions_no r w hrr hreg H
    refine awp_cut (fun _ => false) (fun _ => none) (fun f M => M = H ++ [liB l] ∧ f 3 = Rg.sl r ∧ f 4 = Us.sl w ∧ f 17 = Bo false) (by kernel_rfl) ?_ ?_
    · simp -dsimp [f1, f2, f3, f4, f5, f6]
      refine acallsW_det (rg _) ?_
      simp -dsimp [f1, f2, f3, f4, f5, f6]
    clear f1 f2 f3 f4 f5 f6 f13 f14 f
    rintro f M ⟨rfl, f3, f4, f17⟩
    refine awp_cut (fun _ => false) (fun _ => none) (fun f M => M = H ++ [liB l] ∧ f 17 = Bo false) (by kernel_rfl) ?_ ?_
    · simp -dsimp [f3, f4, f17]
      refine acallsW_det (rg _) ?_
      simp -dsimp [f3, f4, f17]
    clear f3 f4 f17 f
    rintro f M ⟨rfl, f17⟩
    refine awp_cut (fun _ => false) (fun _ => none) (fun f M => False) (by kernel_rfl) ?_ ?_
    · simp -dsimp [f17]
      refine acallsW_det (kn _) ?_
      simp -dsimp [f17]
      exact fin _
    · rintro f M h
      exact h.elim
  obtain ⟨hm, hf⟩ := hreg
  have rg1 := regions_ok r w hrr hm hf (H ++ [liB l])
  obtain ⟨b, hb⟩ : ∃ b, b = fillB r w := ⟨_, rfl⟩
  obtain ⟨z, hz⟩ : ∃ z, z = fillTo zeroR r w r.length := ⟨_, rfl⟩
  have hbl : b.length = 65536 := by rw [hb]; exact fillB_len r w
  have rg2 := regions_ok r w hrr hm hf (H ++ [liB l, byB b, meB r (H.length + 1), rowY z, rfB (Rg.sl r) (H.length + 3)])
  simp only [GR, ← hb, ← hz, List.length_append, List.length_cons, List.length_nil, List.append_assoc, List.cons_append, List.nil_append, Nat.zero_add, Nat.reduceAdd, Nat.add_assoc] at rg1 rg2
  clear hb hz
  have hx := mayL_ok hm
  refine awp_cut (fun _ => false) (fun _ => none) (fun f M => M = H ++ [liB l, byB b, meB r (H.length + 1), rowY z, rfB (Rg.sl r) (H.length + 3)] ∧ f 1 = Wo.sl args ∧ f 2 = Wo.sl oth ∧ f 3 = Rg.sl r ∧ f 4 = Us.sl w ∧ f 5 = I fuel ∧ f 6 = .bp H.length 0 ∧ f 13 = Ints.sl LV ∧ f 14 = I 0 ∧ f 15 = .bp (H.length + 2) 0 ∧ f 17 = Bo true) (by kernel_rfl) ?_ ?_
  · simp -dsimp [f1, f2, f3, f4, f5, f6, f13, f14]
    refine acallsW_of rg1 ?_
    rintro _ _ ⟨rfl, rfl⟩
    simp -dsimp [f1, f2, f3, f4, f5, f6, f13, f14]
  clear f1 f2 f3 f4 f5 f6 f13 f14 f
  rintro f M ⟨rfl, f1, f2, f3, f4, f5, f6, f13, f14, f15, f17⟩
  refine awp_cut (fun _ => false) (fun _ => none) (fun f M => M = H ++ [liB l, byB b, meB r (H.length + 1), rowY z, rfB (Rg.sl r) (H.length + 3), byB b, meB r (H.length + 5), rowY z, rfB (Rg.sl r) (H.length + 7)] ∧ f 1 = Wo.sl args ∧ f 2 = Wo.sl oth ∧ f 3 = Rg.sl r ∧ f 4 = Us.sl w ∧ f 5 = I fuel ∧ f 6 = .bp H.length 0 ∧ f 13 = Ints.sl LV ∧ f 14 = I 0 ∧ f 15 = .bp (H.length + 2) 0 ∧ f 17 = Bo true ∧ f 18 = .bp (H.length + 6) 0) (by kernel_rfl) ?_ ?_
  · simp -dsimp [f1, f2, f3, f4, f5, f6, f13, f14, f15, f17]
    refine acallsW_of rg2 ?_
    rintro _ _ ⟨rfl, rfl⟩
    simp -dsimp [f1, f2, f3, f4, f5, f6, f13, f14, f15, f17]
  clear f1 f2 f3 f4 f5 f6 f13 f14 f15 f17 f
  rintro f M ⟨rfl, f1, f2, f3, f4, f5, f6, f13, f14, f15, f17, f18⟩
  refine awp_cut (fun _ => false) (fun _ => none) (fun f M => M = H ++ [liB l, byB b, meB r (H.length + 1), rowY z, rfB (Rg.sl r) (H.length + 3), byB b, meB r (H.length + 5), rowY z, rfB (Rg.sl r) (H.length + 7)] ∧ f 1 = Wo.sl args ∧ f 2 = Wo.sl oth ∧ f 3 = Rg.sl r ∧ f 4 = Us.sl w ∧ f 5 = I fuel ∧ f 6 = .bp H.length 0 ∧ f 13 = Ints.sl LV ∧ f 14 = I 0 ∧ f 15 = .bp (H.length + 2) 0 ∧ f 18 = .bp (H.length + 6) 0) (by kernel_rfl) ?_ ?_
  · simp -dsimp [f1, f2, f3, f4, f5, f6, f13, f14, f15, f17, f18]
  clear f1 f2 f3 f4 f5 f6 f13 f14 f15 f17 f18 f
  rintro f M ⟨rfl, f1, f2, f3, f4, f5, f6, f13, f14, f15, f18⟩
  have dlv : ((LV.length : Int) != (l.code.length : Int)) = false := by simp [hlvl]
  refine awp_cut (fun _ => false) (fun _ => none) (fun f M => M = H ++ [liB l, byB b, meB r (H.length + 1), rowY z, rfB (Rg.sl r) (H.length + 3), byB b, meB r (H.length + 5), rowY z, rfB (Rg.sl r) (H.length + 7)] ∧ f 1 = Wo.sl args ∧ f 2 = Wo.sl oth ∧ f 3 = Rg.sl r ∧ f 4 = Us.sl w ∧ f 5 = I fuel ∧ f 6 = .bp H.length 0 ∧ f 13 = Ints.sl LV ∧ f 15 = .bp (H.length + 2) 0 ∧ f 18 = .bp (H.length + 6) 0) (by kernel_rfl) ?_ ?_
  · simp -dsimp [f1, f2, f3, f4, f5, f6, f13, f14, f15, f18, dlv]
  clear f1 f2 f3 f4 f5 f6 f13 f14 f15 f18 f
  rintro f M ⟨hM, f1, f2, f3, f4, f5, f6, f13, f15, f18⟩
  refine awp_under fun huN => ?_
  have hMl : M[H.length]? = some (liB l) := by rw [hM]; simp
  have mm1 : MemAt M (H.length + 2) (H.length + 1) r b := by rw [hM]; exact ⟨by simp, by simp, hbl⟩
  have mm2 : MemAt M (H.length + 6) (H.length + 5) r b := by rw [hM]; exact ⟨by simp, by simp, hbl⟩
  have hMn : M.length = H.length + 9 := by rw [hM]; simp
  have hMp : ∃ L, M = H ++ L := ⟨_, hM⟩
  clear hM rg1 rg2 z
  refine awp_cut ddHn (fun _ => none) (fun f M' => DeadI l args M (f 21) M' ∧ f 1 = Wo.sl args ∧ f 2 = Wo.sl oth ∧ f 3 = Rg.sl r ∧ f 4 = Us.sl w ∧ f 5 = I fuel ∧ f 6 = .bp H.length 0 ∧ f 13 = Ints.sl LV ∧ f 15 = .bp (H.length + 2) 0 ∧ f 18 = .bp (H.length + 6) 0) (by kernel_rfl) ?_ ?_
  · simp -dsimp [f1, f2, f3, f4, f5, f6, f13, f15, f18, ddHn]
    refine app_own (h := none) (n := 0) (Own.nil1 _ _ M) rfl rfl rfl (by simp; omega) (by simp; omega) fun h' M' o' _ => ?_
    rw [List.nil_append] at o' ⊢
    simp -dsimp [f1, f2, f3, f4, f5, f6, f13, f15, f18]
    exact ⟨h', args, o', rfl, rfl, fun _ _ _ _ => rfl⟩
  clear f1 f2 f3 f4 f5 f6 f13 f15 f18 f
  rintro f M3 ⟨⟨h, A, o, f21, hA, hdep⟩, f1, f2, f3, f4, f5, f6, f13, f15, f18⟩
  refine awp_cut ddHn (fun _ => none) (fun f M' => DeadI l args M (f 21) M' ∧ f 1 = Wo.sl args ∧ f 2 = Wo.sl oth ∧ f 3 = Rg.sl r ∧ f 4 = Us.sl w ∧ f 5 = I fuel ∧ f 6 = .bp H.length 0 ∧ f 13 = Ints.sl LV ∧ f 15 = .bp (H.length + 2) 0 ∧ f 18 = .bp (H.length + 6) 0) (by kernel_rfl) ?_ ?_
  · simp -dsimp [f1, f2, f3, f4, f5, f6, f13, f15, f18, f21]
    refine loop_rule (hn := ddHn) (od := fun _ => none) (fun (i : Nat) g M' => DeadI l args M (g 21) M' ∧ g 1 = Wo.sl args ∧ g 2 = Wo.sl oth ∧ g 3 = Rg.sl r ∧ g 4 = Us.sl w ∧ g 5 = I fuel ∧ g 6 = .bp H.length 0 ∧ g 13 = Ints.sl LV ∧ g 15 = .bp (H.length + 2) 0 ∧ g 18 = .bp (H.length + 6) 0 ∧ g 22 = I i ∧ i ≤ args.length) (fun i => args.length - i) (by kernel_rfl) 0 (by refine ⟨⟨h, A, o, by simp [f21], hA, hdep⟩, by simp [f1], by simp [f2], by simp [f3], by simp [f4], by simp [f5], by simp [f6], by simp [f13], by simp [f15], by simp [f18], by simp, by omega⟩) ?_
    clear f1 f2 f3 f4 f5 f6 f13 f15 f18 f21 f o hA hdep h A M3
    rintro i f M3 ⟨⟨h, A, o, f21, hA, hdep⟩, f1, f2, f3, f4, f5, f6, f13, f15, f18, f22, hi⟩
    simp -dsimp [f1, f2, f3, f4, f5, f6, f13, f15, f18, f21, f22]
    refine condVW_introD (fun hlt => ?_) (fun hlt => ?_)
    · have hlt' : i < args.length := by omega
      have g6 := o.old hMl
      have gp := getD_at (b := l.params) (i := i) (by omega)
      have gy := getD_at (b := oth) (i := i) (by omega)
      have ga := getD_at (b := A) (i := i) (by omega)
      obtain ⟨p, hp⟩ : ∃ p, p = l.params.getD i 0 := ⟨_, rfl⟩
      obtain ⟨y, hy⟩ : ∃ y, y = oth.getD i 0 := ⟨_, rfl⟩
      rw [← hp] at gp
      rw [← hy] at gy
      clear hp hy
      obtain ⟨k, rfl, gk, hkM⟩ := o.ex (by simp; omega)
      by_cases hc0 : 0 < l.code.length
      · have glv : (LV.map fun x => [Int.sl x])[0]? = some [Int.sl (liveL l 0)] := by rw [List.getElem?_map, hlv0 hc0]; rfl
        have dl : decide (0 < LV.length) = true := decide_eq_true (by omega)
        have dl' : decide ((0 : Int) < (LV.length : Int)) = true := decide_eq_true (by omega)
        have hmem : ∀ v, v ∈ liveL l 0 ↔ LiveAt l 0 v := fun v => live_mem ho
        have hVl : (liveL l 0).length ≤ 2^40 := by
          have q1 := liveL_len l 0
          have q2 := ho.vars
          omega
        obtain ⟨V, hV⟩ : ∃ V, V = liveL l 0 := ⟨_, rfl⟩
        rw [← hV] at glv hmem hVl
        clear hV
        have hmem := Hid.mk hmem
        have hdep := Hid.mk hdep
        simp -dsimp [f1, f2, f3, f4, f5, f6, f13, f15, f18, f21, f22, dl, dl']
        refine loop_rule (hn := ddHn) (od := fun _ => none) (fun (n : Nat) g M' => M3 = M' ∧ g 1 = Wo.sl args ∧ g 2 = Wo.sl oth ∧ g 3 = Rg.sl r ∧ g 4 = Us.sl w ∧ g 5 = I fuel ∧ g 6 = .bp H.length 0 ∧ g 13 = Ints.sl LV ∧ g 15 = .bp (H.length + 2) 0 ∧ g 18 = .bp (H.length + 6) 0 ∧ g 21 = hrow (some k) A.length ∧ g 22 = I i ∧ g 23 = Bo (hasB V p n) ∧ g 24 = I n ∧ n ≤ V.length) (fun n => V.length - n) (by kernel_rfl) 0 (by refine ⟨rfl, by simp [f1], by simp [f2], by simp [f3], by simp [f4], by simp [f5], by simp [f6], by simp [f13], by simp [f15], by simp [f18], by simp [f21], by simp [f22], by simp [hasB0], by simp, by omega⟩) ?_
        clear f1 f2 f3 f4 f5 f6 f13 f15 f18 f21 f22 f
        rintro n f _ ⟨rfl, f1, f2, f3, f4, f5, f6, f13, f15, f18, f21, f22, f23, f24, hn⟩
        simp -dsimp [f1, f2, f3, f4, f5, f6, f13, f15, f18, f21, f22, f23, f24, glv]
        refine condVW_introD (fun hlt2 => ?_) (fun hlt2 => ?_)
        · have gv := getD_at (b := V) (i := n) (by omega)
          obtain ⟨v, hv⟩ : ∃ v, v = V.getD n 0 := ⟨_, rfl⟩
          rw [← hv] at gv
          clear hv
          have hst := hasBs (p := p) gv
          obtain ⟨c, hc⟩ : ∃ c, c = hasB V p n := ⟨_, rfl⟩
          rw [← hc] at hst f23
          clear hc
          have hst := Hid.mk hst
          cases c
          · simp -dsimp [f1, f2, f3, f4, f5, f6, f13, f15, f18, f21, f22, f23, f24, glv, gv, g6, gp]
            exact ⟨n + 1, by omega, by rw [hst.out]; simp, wrapS (by omega), by omega⟩
          · simp -dsimp [f1, f2, f3, f4, f5, f6, f13, f15, f18, f21, f22, f23, f24, glv, gv, g6, gp]
            exact ⟨n + 1, by omega, by rw [hst.out]; simp, wrapS (by omega), by omega⟩
        · have hnl : n = V.length := by omega
          subst hnl
          have hall := hasBm (V := V) (p := p)
          obtain ⟨c, hc⟩ : ∃ c, c = hasB V p V.length := ⟨_, rfl⟩
          rw [← hc] at hall f23
          clear hc
          cases c
          · have hno : ¬ LiveAt l 0 p := fun q => by have := hall.2 ((hmem.out p).2 q); cases this
            have hA' : i < A.length ∧ True := ⟨by omega, trivial⟩
            have hst1 : astore M3 (.rp k A.length i 0) [U y] = some (M3.set k (.row 29 1 (WoE (A.set i y)))) := by
              rw [astore_one gk (by simp) (by rw [List.getElem?_map, ga]; rfl)]
              congr 2
              simp only [WoE, List.map_set]
            have gkl := lt_of_get gk
            have oN : Own 29 1 M (M3.set k (.row 29 1 (WoE (A.set i y)))) (some k) (WoE (A.set i y)) := by
              obtain ⟨⟨L, rfl⟩, _, _, nw⟩ := o
              exact ⟨⟨_, by rw [List.set_append, if_neg (by omega)]⟩, fun j hj => by cases hj; rw [List.getElem?_set_self gkl], fun q => (by cases q), nw⟩
            have hdN : ∀ j q, l.params[j]? = some q → LiveAt l 0 q → args.getD j 0 = (A.set i y).getD j 0 := fun j q hj hq => by
              by_cases e : i = j
              · subst e
                rw [gp] at hj
                cases hj
                exact absurd hq hno
              · rw [hdep.out j q hj hq, List.getD_eq_getElem?_getD, List.getD_eq_getElem?_getD, List.getElem?_set_ne e]
            simp -dsimp [f1, f2, f3, f4, f5, f6, f13, f15, f18, f21, f22, f23, f24, hrow, gk, gy]
            refine andVW_intro (by omega) ?_
            simp -dsimp [f1, f2, f3, f4, f5, f6, f13, f15, f18, f21, f22, f23, f24, hst1]
            exact ⟨i + 1, by omega, ⟨some k, A.set i y, by rw [show (List.map (fun x => [U x]) A).set i [U y] = WoE (A.set i y) from by simp only [WoE, List.map_set]]; exact oN, by simp [hrow], by simp [hA], hdN⟩, wrapS (by omega), by omega⟩
          · simp -dsimp [f1, f2, f3, f4, f5, f6, f13, f15, f18, f21, f22, f23, f24]
            exact ⟨i + 1, by omega, ⟨some k, A, o, rfl, hA, hdep.out⟩, wrapS (by omega), by omega⟩
      · have dl : decide (0 < LV.length) = false := decide_eq_false (by omega)
        have dl' : decide ((0 : Int) < (LV.length : Int)) = false := decide_eq_false (by omega)
        simp -dsimp [f1, f2, f3, f4, f5, f6, f13, f15, f18, f21, f22, dl, dl']
        exact ⟨i + 1, by omega, ⟨some k, A, o, rfl, hA, hdep⟩, wrapS (by omega), by omega⟩
    · simp -dsimp [f1, f2, f3, f4, f5, f6, f13, f15, f18, f21, f22]
      exact ⟨h, A, o, rfl, hA, hdep⟩
  clear f1 f2 f3 f4 f5 f6 f13 f15 f18 f21 f o hA hdep h A M3
  rintro f M3 ⟨⟨h, A, o, f21, hA, hdep⟩, f1, f2, f3, f4, f5, f6, f13, f15, f18⟩
  refine awp_giveX 21 huN o (wo_frzB _) f21 (by simp) fun M4 f' e21 hpre aS aB => ?_
  have g6 : M4[H.length]? = some (liB l) := by obtain ⟨L, rfl⟩ := hpre; exact get_app_old hMl _
  have n1 : MemAt M4 (H.length + 2) (H.length + 1) r b := by obtain ⟨L, rfl⟩ := hpre; exact ⟨get_app_old mm1.me _, get_app_old mm1.bytes _, hbl⟩
  have n2 : MemAt M4 (H.length + 6) (H.length + 5) r b := by obtain ⟨L, rfl⟩ := hpre; exact ⟨get_app_old mm2.me _, get_app_old mm2.bytes _, hbl⟩
  have p4 : ∃ L, M4 = H ++ L := by obtain ⟨L, rfl⟩ := hpre; obtain ⟨L2, rfl⟩ := hMp; exact ⟨L2 ++ L, by rw [List.append_assoc]⟩
  have e1 : f' 1 = Wo.sl args := by rw [aS 1 (by decide) fun j hj hge => by rw [f1]; exact frz_id hge _ (by simp [AV.under]), f1]
  have e5 : f' 5 = I fuel := by rw [aS 5 (by decide) fun j hj _ => by rw [f5]; rfl, f5]
  have e6 : f' 6 = .bp H.length 0 := by rw [aS 6 (by decide) fun j hj hge => by rw [f6]; exact frz_id hge _ (by simp [AV.under]; omega), f6]
  have e15 : f' 15 = .bp (H.length + 2) 0 := by rw [aS 15 (by decide) fun j hj hge => by rw [f15]; exact frz_id hge _ (by simp [AV.under]; omega), f15]
  have e18 : f' 18 = .bp (H.length + 6) 0 := by rw [aS 18 (by decide) fun j hj hge => by rw [f18]; exact frz_id hge _ (by simp [AV.under]; omega), f18]
  clear f1 f2 f3 f4 f5 f6 f13 f15 f18 f21 aS aB f o hpre mm1 mm2 hMl huN
  have hst : (49152 : Int).tmod 16 = 0 := by decide
  have r1 := lrun_ok l hs hok hw args hal2 49152 hst fuel (by omega) n1 hx.1 hx.2
  have hdd := dead_same hok r args A b hdep 49152 fuel
  have hRl := runM_len r l args b 49152 fuel
  obtain ⟨R, hR⟩ : ∃ R, R = runM r l args b 49152 fuel := ⟨_, rfl⟩
  rw [← hR] at r1 hdd hRl
  clear hR
  have l1 := lt_of_get n1.bytes
  obtain ⟨M5, hM5⟩ : ∃ M5, M5 = M4.set (H.length + 1) (byB R.b) ++ [.box 46 R.cells] := ⟨_, rfl⟩
  have p5 : ∃ L, M5 = H ++ L := by
    obtain ⟨L, rfl⟩ := p4
    exact ⟨_, by rw [hM5, List.set_append, if_neg (by omega), List.append_assoc]⟩
  have g65 : M5[H.length]? = some (liB l) := by rw [hM5]; exact get_app_old (by rw [List.getElem?_set_ne (by omega)]; exact g6) _
  have n15 : MemAt M5 (H.length + 2) (H.length + 1) r R.b := by rw [hM5]; exact ⟨get_app_old (by rw [List.getElem?_set_ne (by omega)]; exact n1.me) _, get_app_old (by rw [List.getElem?_set_self l1]) _, by rw [hRl.1, hbl]⟩
  have n25 : MemAt M5 (H.length + 6) (H.length + 5) r b := by rw [hM5]; exact ⟨get_app_old (by rw [List.getElem?_set_ne (by omega)]; exact n2.me) _, get_app_old (by rw [List.getElem?_set_ne (by omega)]; exact n2.bytes) _, hbl⟩
  have b5 : M5[M4.length]? = some (.box 46 R.cells) := by rw [hM5]; simp
  have l5 := lt_of_get n25.bytes
  have l4 : M5.length = M4.length + 1 := by rw [hM5]; simp
  have l40 := lt_of_get n2.bytes
  refine awp_cut (fun _ => false) (fun _ => none) (fun g M' => M5 = M' ∧ g 5 = I fuel ∧ g 6 = .bp H.length 0 ∧ g 15 = .bp (H.length + 2) 0 ∧ g 18 = .bp (H.length + 6) 0 ∧ g 21 = Wo.sl A ∧ g 25 = .bp M4.length 0 ∧ g 26 = I 0) (by kernel_rfl) ?_ ?_
  · simp only [Linear.cells, Ran.cells] at r1
    simp -dsimp [e1, e5, e6, e15, e18, e21, g6]
    refine acallsW_of r1 ?_
    rintro _ _ ⟨rfl, rfl⟩
    simp -dsimp [e1, e5, e6, e15, e18, e21]
    rw [hM5]
    rfl
  clear e1 e5 e6 e15 e18 e21 f' r1 hM5
  rintro f _ ⟨rfl, f5, f6, f15, f18, f21, f25, f26⟩
  have r2 := lrun_ok l hs hok hw A (by rw [hA]; exact hal2) 49152 hst fuel (by omega) n25 hx.1 hx.2
  rw [hdd] at r2
  obtain ⟨M6, hM6⟩ : ∃ M6, M6 = M5.set (H.length + 5) (byB R.b) ++ [.box 46 R.cells] := ⟨_, rfl⟩
  have p6 : ∃ L, M6 = H ++ L := by
    obtain ⟨L, rfl⟩ := p5
    exact ⟨_, by rw [hM6, List.set_append, if_neg (by omega), List.append_assoc]⟩
  have n16 : MemAt M6 (H.length + 2) (H.length + 1) r R.b := by rw [hM6]; exact ⟨get_app_old (by rw [List.getElem?_set_ne (by omega)]; exact n15.me) _, get_app_old (by rw [List.getElem?_set_ne (by omega)]; exact n15.bytes) _, n15.len⟩
  have n26 : MemAt M6 (H.length + 6) (H.length + 5) r R.b := by rw [hM6]; exact ⟨get_app_old (by rw [List.getElem?_set_ne (by omega)]; exact n25.me) _, get_app_old (by rw [List.getElem?_set_self l5]) _, n15.len⟩
  have b6 : M6[M4.length]? = some (.box 46 R.cells) := by rw [hM6]; exact get_app_old (by rw [List.getElem?_set_ne (by omega)]; exact b5) _
  have b6' : M6[M5.length]? = some (.box 46 R.cells) := by rw [hM6]; simp
  refine awp_cut (fun _ => false) (fun _ => none) (fun g M' => M6 = M' ∧ g 15 = .bp (H.length + 2) 0 ∧ g 18 = .bp (H.length + 6) 0 ∧ g 25 = .bp M4.length 0 ∧ g 26 = I 0 ∧ g 27 = .bp M5.length 0 ∧ g 28 = I 0) (by kernel_rfl) ?_ ?_
  · simp only [Linear.cells, Ran.cells] at r2
    simp -dsimp [f5, f6, f15, f18, f21, f25, f26, g65]
    refine acallsW_of r2 ?_
    rintro _ _ ⟨rfl, rfl⟩
    simp -dsimp [f5, f6, f15, f18, f21, f25, f26]
    rw [hM6]
    rfl
  clear f5 f6 f15 f18 f21 f25 f26 f r2 hM6
  rintro f _ ⟨rfl, f15, f18, f25, f26, f27, f28⟩
  have rn := fun H => ran16_ok R (by omega) (by omega) H
  have w1 := mwords_ok n16 hx.1 hx.2
  have w2 := mwords_ok n26 hx.1 hx.2
  have hrs : ∀ y ∈ r, y.Ok := hx.2
  have sw := fun H => swords_ok (wordsL r R.b) (by simp [wordsL]; omega) (fun y hy => by
    obtain ⟨q, hq, rfl⟩ := List.mem_map.1 hy
    have := (hrs q hq).s2
    simp [wordsR]; omega) H
  simp only [Ran.cells] at rn b6 b6'
  obtain ⟨WW, hWW⟩ : ∃ WW, WW = wordsL r R.b := ⟨_, rfl⟩
  rw [← hWW] at w1 w2 sw
  clear hWW
  refine awp_all (fun _ => false) (fun _ => none) (by kernel_rfl) ?_
  simp -dsimp [f15, f18, f25, f26, f27, f28, b6, b6']
  refine acallsW_det (rn _) ?_
  simp -dsimp [f15, f18, f25, f26, f27, f28]
  refine acallsW_det w1 ?_
  simp -dsimp [f15, f18, f25, f26, f27, f28]
  refine acallsW_det w2 ?_
  simp -dsimp [f15, f18, f25, f26, f27, f28]
  refine acallsW_det (sw _) ?_
  simp -dsimp [f15, f18, f25, f26, f27, f28]
  refine acallsW_det (kn _) ?_
  simp -dsimp [f15, f18, f25, f26, f27, f28]
  obtain ⟨L, hL⟩ := p6
  rw [hL]
  exact fin _
end Go.Proofs
