/- The document's data, as lists of abstract values; and what is used everywhere. -/
import Derived.Test.YteoimifnfkpdeaaTaFacts
import Derived.Test.YteoimifnfkpdeaaFwOtoFwP
set_option linter.unusedVariables false
set_option linter.unusedSimpArgs false
set_option maxHeartbeats 4000000
set_option maxRecDepth 100000
namespace Go.Proofs
open Go.Mu
abbrev I (n : Int) : AV := .v (.int .i64 n)
abbrev U (n : Int) : AV := .v (.int .u64 n)
abbrev Bo (b : Bool) : AV := .v (.bool b)

@[ext] structure Ins where
  (kind op d a b c word : Int)
  stack : Bool
deriving DecidableEq
@[ext] structure Line where
  kind : Int
  ins : Ins
  (var label : Int)
deriving DecidableEq
inductive Node where
  | mk (kind : Int) (ins : Ins) (cond : Int) (ahead body els : List Node)
structure Flat where
  vars : Int
  params : List Int
  rets : List Int
  frame : Int
  code : List Node
structure Linear where
  vars : Int
  params : List Int
  rets : List Int
  frame : Int
  code : List Line
deriving DecidableEq
@[simp] def Ins.cells (i : Ins) : List AV := [I i.kind, I i.op, I i.d, I i.a, I i.b, I i.c, U i.word, Bo i.stack]
@[simp] def Line.cells (l : Line) : List AV := [I l.kind, I l.ins.kind, I l.ins.op, I l.ins.d, I l.ins.a, I l.ins.b, I l.ins.c, U l.ins.word, Bo l.ins.stack, I l.var, I l.label]
mutual
def Node.cells : Node → List AV
  | .mk k i c a b e => [I k, I i.kind, I i.op, I i.d, I i.a, I i.b, I i.c, U i.word, Bo i.stack, I c, .vs 13 (nodeCells a), .vs 13 (nodeCells b), .vs 13 (nodeCells e)]
def nodeCells : List Node → List (List AV)
  | [] => []
  | n :: l => n.cells :: nodeCells l
end
theorem nodeCells_map (l : List Node) : nodeCells l = l.map Node.cells := by
  induction l with
  | nil => simp [nodeCells]
  | cons n l ih => simp [nodeCells, ih]
abbrev Line.sl (l : List Line) : AV := .vs 11 (l.map Line.cells)
abbrev Int.sl (l : List Int) : AV := .vs 1 (l.map fun n => [I n])
abbrev Node.sl (l : List Node) : AV := .vs 13 (l.map Node.cells)
@[simp] def Flat.cells (f : Flat) : List AV := [I f.vars, Int.sl f.params, Int.sl f.rets, I f.frame, Node.sl f.code]
@[simp] def Linear.cells (f : Linear) : List AV := [I f.vars, Int.sl f.params, Int.sl f.rets, I f.frame, Line.sl f.code]
def Node.kind : Node → Int | .mk k _ _ _ _ _ => k
def Node.ins : Node → Ins | .mk _ i _ _ _ _ => i
def Node.cond : Node → Int | .mk _ _ c _ _ _ => c
def Node.ahead : Node → List Node | .mk _ _ _ a _ _ => a
def Node.body : Node → List Node | .mk _ _ _ _ b _ => b
def Node.els : Node → List Node | .mk _ _ _ _ _ e => e
@[simp] theorem Node.cells_eq (n : Node) : n.cells = [I n.kind, I n.ins.kind, I n.ins.op, I n.ins.d, I n.ins.a, I n.ins.b, I n.ins.c, U n.ins.word, Bo n.ins.stack, I n.cond, Node.sl n.ahead, Node.sl n.body, Node.sl n.els] := by
  cases n; simp [Node.cells, nodeCells_map, Node.kind, Node.ins, Node.cond, Node.ahead, Node.body, Node.els]

theorem wrapI {n : Int} (h1 : -9223372036854775808 ≤ n) (h2 : n ≤ 9223372036854775807) : IntKind.i64.wrap n = n := by
  simp [IntKind.wrap, IntKind.bits, IntKind.signed]
  omega
theorem wrapU {n : Int} (h1 : 0 ≤ n) (h2 : n ≤ 18446744073709551615) : IntKind.u64.wrap n = n := by
  simp [IntKind.wrap, IntKind.bits, IntKind.signed]
  omega
theorem drop_cons {α : Type} {l : List α} {i : Nat} (h : i < l.length) : l.drop i = l[i] :: l.drop (i + 1) := List.drop_eq_getElem_cons h
theorem drop_end {α : Type} {l : List α} {i : Nat} (h : ¬ i < l.length) : l.drop i = [] := List.drop_of_length_le (by omega)
theorem wrapS {i : Nat} (h : i < 4611686018427387904) : IntKind.i64.wrap ((i : Int) + 1) = ((i + 1 : Nat) : Int) := by
  rw [wrapI (by omega) (by omega)]; rfl
/-- The first place, from i on, where something holds; -1: none. -/
def idxP {α : Type} (p : α → Bool) : List α → Int → Int
  | [], _ => -1
  | a :: l, i => if p a then i else idxP p l (i + 1)
theorem idxP_any {α : Type} (p : α → Bool) : ∀ (l : List α) (i : Int), 0 ≤ i → decide (0 ≤ idxP p l i) = l.any p
  | [], i, h => by simp [idxP]
  | a :: l, i, h => by
    simp only [idxP, List.any_cons]
    split
    · rename_i hp; simp [hp, h]
    · rename_i hp; simp [hp, idxP_any p l (i + 1) (by omega)]

mutual
/-- How many nodes there are. -/
def Node.count : Node → Nat
  | .mk _ _ _ a b e => 1 + nodesCount a + nodesCount b + nodesCount e
def nodesCount : List Node → Nat
  | [] => 0
  | n :: l => n.count + nodesCount l
end
theorem Node.count_eq (n : Node) : n.count = 1 + nodesCount n.ahead + nodesCount n.body + nodesCount n.els := by cases n; rfl
theorem nodesCount_drop {l : List Node} {i : Nat} (h : i < l.length) : nodesCount (l.drop i) = l[i].count + nodesCount (l.drop (i + 1)) := by rw [drop_cons h, nodesCount]
theorem nodesCount_le (l : List Node) (i : Nat) : nodesCount (l.drop i) ≤ nodesCount l := by
  induction l generalizing i with
  | nil => simp
  | cons n l ih => cases i with
    | zero => simp
    | succ i => simp only [List.drop_succ_cons, nodesCount]; have := ih i; omega
theorem nodes_len (l : List Node) : l.length ≤ nodesCount l := by
  induction l with
  | nil => simp
  | cons n l ih => simp only [List.length_cons, nodesCount, Node.count_eq]; omega
theorem node_parts {l : List Node} {i : Nat} (h : i < l.length) : nodesCount l[i].ahead < nodesCount l ∧ nodesCount l[i].body < nodesCount l ∧ nodesCount l[i].els < nodesCount l := by
  have h1 := nodesCount_drop h
  have h2 := nodesCount_le l i
  rw [Node.count_eq] at h1
  omega
mutual
/-- How deep nodes are nested. -/
def Node.deep : Node → Nat
  | .mk _ _ _ a b e => 1 + max (nodesDeep a) (max (nodesDeep b) (nodesDeep e))
def nodesDeep : List Node → Nat
  | [] => 0
  | n :: l => max n.deep (nodesDeep l)
end
theorem Node.deep_eq (n : Node) : n.deep = 1 + max (nodesDeep n.ahead) (max (nodesDeep n.body) (nodesDeep n.els)) := by cases n; rfl
theorem nodesDeep_drop {l : List Node} {i : Nat} (h : i < l.length) : nodesDeep (l.drop i) = max l[i].deep (nodesDeep (l.drop (i + 1))) := by rw [drop_cons h, nodesDeep]
theorem deep_count : ∀ (n : Nat) (l : List Node), nodesCount l ≤ n → nodesDeep l ≤ nodesCount l := by
  intro n
  induction n with
  | zero => intro l hl; have := nodes_len l; have : l = [] := List.eq_nil_of_length_eq_zero (by omega); subst this; simp [nodesDeep]
  | succ n ih =>
    intro l
    induction l with
    | nil => simp [nodesDeep]
    | cons x l ihl =>
      intro hl
      simp only [nodesCount, nodesDeep, Node.count_eq, Node.deep_eq] at hl ⊢
      have h1 := ih x.ahead (by omega); have h2 := ih x.body (by omega); have h3 := ih x.els (by omega); have h4 := ihl (by omega)
      omega
end Go.Proofs
namespace Go.Proofs
open Go.Mu
def arity (op : Int) : Int := if op = 4 ∨ op = 5 then 1 else if 6 ≤ op ∧ op ≤ 20 then 2 else if op = 21 then 3 else 0
def isV (n vars : Int) : Bool := decide (0 ≤ n) && decide (n < vars)
theorem index_ok (l : List Int) (x : Int) (H : List Blk) (hl : l.length ≤ 2^40) : ACalls Try.prog 94 [Int.sl l, I x] H (fun e H' => e = .ret (I (idxP (x == ·) l 0)) ∧ H' = H) := by
  refine acalls_of_vc (hn := fun _ => false) (od := fun _ => none) Try.func94 rfl (by kernel_rfl) ?_
  simp -dsimp
  refine loop_rule (hn := fun _ => false) (od := fun _ => none) (fun (i : Nat) f H' => H' = H ∧ f 0 = Int.sl l ∧ f 1 = I x ∧ f 7 = I l.length ∧ f 8 = I i ∧ i ≤ l.length ∧ idxP (x == ·) (l.drop i) i = idxP (x == ·) l 0) (fun i => l.length - i) (by kernel_rfl) 0 (by simp) ?_
  rintro i f H' ⟨rfl, h0, h1, h7, h8, hi, ht⟩
  simp -dsimp [h0, h1, h7, h8]
  refine condVW_introD (fun hlt => ?_) (fun hlt => ?_)
  · simp -dsimp [h0, h1, h7, h8, List.getElem?_eq_getElem, hlt]
    rw [drop_cons hlt] at ht
    simp only [idxP] at ht
    repeat' ((with_reducible first | refine And.intro ?_ ?_ | refine guardVW_introTD (fun _ => ?_) (fun _ => ?_) | refine guardVW_introFD (fun _ => ?_) (fun _ => ?_) | refine condVW_introD (fun _ => ?_) (fun _ => ?_) | refine guardVW_introTE (fun _ => ?_) (fun _ _ _ => ?_) | refine guardVW_introFE (fun _ => ?_) (fun _ _ _ => ?_) | refine condVW_introE (fun _ => ?_) (fun _ _ _ => ?_) | refine guardVW_introTNE (fun _ _ _ => ?_) (fun _ => ?_) | refine guardVW_introFNE (fun _ _ _ => ?_) (fun _ => ?_) | refine condVW_introNE (fun _ _ _ => ?_) (fun _ => ?_) | refine guardVW_introTB (fun _ => ?_) (fun _ => ?_) | refine guardVW_introFB (fun _ => ?_) (fun _ => ?_) | refine condVW_introB (fun _ => ?_) (fun _ => ?_) | refine guardVW_introT (fun _ => ?_) (fun _ => ?_) | refine guardVW_introF (fun _ => ?_) (fun _ => ?_) | refine condVW_intro (fun _ => ?_) (fun _ => ?_)) <;> simp -dsimp [*])
    · rename_i h; subst h; rw [← ht]; simp
    · rw [if_neg (by simp; omega)] at ht
      exact ⟨i + 1, by omega, wrapS (by omega), by omega, ht⟩
  · simp -dsimp [h0, h1, h7, h8]
    rw [drop_end hlt] at ht
    exact ht
theorem contains_ok (l : List Int) (x : Int) (H : List Blk) (hl : l.length ≤ 2^40) : ACalls Try.prog 67 [Int.sl l, I x] H (fun e H' => e = .ret (Bo (decide (x ∈ l))) ∧ H' = H) := by
  refine acalls_of_vc (hn := fun _ => false) (od := fun _ => none) Try.func67 rfl (by kernel_rfl) ?_
  simp -dsimp
  refine acallsW_det (index_ok _ _ _ hl) ?_
  simp -dsimp
  have := idxP_any (x == ·) l 0 (by omega)
  rw [Bool.eq_iff_iff] at this
  simpa [List.any_eq] using this
/-- A function value with captured values, that asks something of each element. -/
theorem indexFunc_ok {g : FuncId} {cap : List AV} (p : Int → Bool) (l : List Int) (H : List Blk) (hl : l.length ≤ 2^40) (hg : okFn Try.prog g = true) (hp : ∀ x ∈ l, ACalls Try.prog g (I x :: cap) H (fun e H' => e = .ret (Bo (p x)) ∧ H' = H)) :
    ACalls Try.prog 95 [Int.sl l, .fn (.func g) [] cap] H (fun e H' => e = .ret (I (idxP p l 0)) ∧ H' = H) := by
  refine acalls_of_vc (hn := fun _ => false) (od := fun _ => none) Try.func95 rfl (by kernel_rfl) ?_
  simp -dsimp
  refine loop_rule (hn := fun _ => false) (od := fun _ => none) (fun (i : Nat) f H' => H' = H ∧ f 0 = Int.sl l ∧ f 1 = .fn (.func g) [] cap ∧ f 7 = I l.length ∧ f 8 = I i ∧ i ≤ l.length ∧ idxP p (l.drop i) i = idxP p l 0) (fun i => l.length - i) (by kernel_rfl) 0 (by simp) ?_
  rintro i f H' ⟨rfl, h0, h1, h7, h8, hi, ht⟩
  simp -dsimp [h0, h1, h7, h8]
  refine condVW_introD (fun hlt => ?_) (fun hlt => ?_)
  · simp -dsimp [h0, h1, h7, h8, List.getElem?_eq_getElem, hlt, hg]
    rw [drop_cons hlt] at ht
    simp only [idxP] at ht
    refine acallsW_det (hp _ (List.getElem_mem hlt)) ?_
    simp -dsimp [h0, h1, h7, h8]
    repeat' ((with_reducible first | refine And.intro ?_ ?_ | refine guardVW_introTD (fun _ => ?_) (fun _ => ?_) | refine guardVW_introFD (fun _ => ?_) (fun _ => ?_) | refine condVW_introD (fun _ => ?_) (fun _ => ?_) | refine guardVW_introTE (fun _ => ?_) (fun _ _ _ => ?_) | refine guardVW_introFE (fun _ => ?_) (fun _ _ _ => ?_) | refine condVW_introE (fun _ => ?_) (fun _ _ _ => ?_) | refine guardVW_introTNE (fun _ _ _ => ?_) (fun _ => ?_) | refine guardVW_introFNE (fun _ _ _ => ?_) (fun _ => ?_) | refine condVW_introNE (fun _ _ _ => ?_) (fun _ => ?_) | refine guardVW_introTB (fun _ => ?_) (fun _ => ?_) | refine guardVW_introFB (fun _ => ?_) (fun _ => ?_) | refine condVW_introB (fun _ => ?_) (fun _ => ?_) | refine guardVW_introT (fun _ => ?_) (fun _ => ?_) | refine guardVW_introF (fun _ => ?_) (fun _ => ?_) | refine condVW_intro (fun _ => ?_) (fun _ => ?_)) <;> simp -dsimp [*])
    · rw [← ht]; simp [*]
    · rw [if_neg (by simp [*])] at ht
      exact ⟨i + 1, by omega, wrapS (by omega), by omega, ht⟩
  · simp -dsimp [h0, h1, h7, h8]
    rw [drop_end hlt] at ht
    exact ht
theorem containsFunc_ok {g : FuncId} {cap : List AV} (p : Int → Bool) (l : List Int) (H : List Blk) (hl : l.length ≤ 2^40) (hg : okFn Try.prog g = true) (hp : ∀ x ∈ l, ACalls Try.prog g (I x :: cap) H (fun e H' => e = .ret (Bo (p x)) ∧ H' = H)) :
    ACalls Try.prog 68 [Int.sl l, .fn (.func g) [] cap] H (fun e H' => e = .ret (Bo (l.any p)) ∧ H' = H) := by
  refine acalls_of_vc (hn := fun _ => false) (od := fun _ => none) Try.func68 rfl (by kernel_rfl) ?_
  simp -dsimp
  refine acallsW_det (indexFunc_ok p _ _ hl hg hp) ?_
  simp -dsimp
  rw [idxP_any _ _ _ (by omega)]
theorem indexFuncL_ok {g : FuncId} {cap : List AV} (p : Line → Bool) (l : List Line) (H : List Blk) (hl : l.length ≤ 2^40) (hg : okFn Try.prog g = true) (hp : ∀ x ∈ l, ACalls Try.prog g (.agg x.cells :: cap) H (fun e H' => e = .ret (Bo (p x)) ∧ H' = H)) :
    ACalls Try.prog 72 [Line.sl l, .fn (.func g) [] cap] H (fun e H' => e = .ret (I (idxP p l 0)) ∧ H' = H) := by
  refine acalls_of_vc (hn := fun _ => false) (od := fun _ => none) Try.func72 rfl (by kernel_rfl) ?_
  simp -dsimp
  refine loop_rule (hn := fun _ => false) (od := fun _ => none) (fun (i : Nat) f H' => H' = H ∧ f 0 = Line.sl l ∧ f 1 = .fn (.func g) [] cap ∧ f 7 = I l.length ∧ f 8 = I i ∧ i ≤ l.length ∧ idxP p (l.drop i) i = idxP p l 0) (fun i => l.length - i) (by kernel_rfl) 0 (by simp) ?_
  rintro i f H' ⟨rfl, h0, h1, h7, h8, hi, ht⟩
  simp -dsimp [h0, h1, h7, h8]
  refine condVW_introD (fun hlt => ?_) (fun hlt => ?_)
  · simp -dsimp [h0, h1, h7, h8, List.getElem?_eq_getElem, hlt, hg]
    rw [drop_cons hlt] at ht
    simp only [idxP] at ht
    refine acallsW_det (hp _ (List.getElem_mem hlt)) ?_
    simp -dsimp [h0, h1, h7, h8]
    repeat' ((with_reducible first | refine And.intro ?_ ?_ | refine guardVW_introTD (fun _ => ?_) (fun _ => ?_) | refine guardVW_introFD (fun _ => ?_) (fun _ => ?_) | refine condVW_introD (fun _ => ?_) (fun _ => ?_) | refine guardVW_introTE (fun _ => ?_) (fun _ _ _ => ?_) | refine guardVW_introFE (fun _ => ?_) (fun _ _ _ => ?_) | refine condVW_introE (fun _ => ?_) (fun _ _ _ => ?_) | refine guardVW_introTNE (fun _ _ _ => ?_) (fun _ => ?_) | refine guardVW_introFNE (fun _ _ _ => ?_) (fun _ => ?_) | refine condVW_introNE (fun _ _ _ => ?_) (fun _ => ?_) | refine guardVW_introTB (fun _ => ?_) (fun _ => ?_) | refine guardVW_introFB (fun _ => ?_) (fun _ => ?_) | refine condVW_introB (fun _ => ?_) (fun _ => ?_) | refine guardVW_introT (fun _ => ?_) (fun _ => ?_) | refine guardVW_introF (fun _ => ?_) (fun _ => ?_) | refine condVW_intro (fun _ => ?_) (fun _ => ?_)) <;> simp -dsimp [*])
    · rw [← ht]; simp [*]
    · rw [if_neg (by simp [*])] at ht
      exact ⟨i + 1, by omega, wrapS (by omega), by omega, ht⟩
  · simp -dsimp [h0, h1, h7, h8]
    rw [drop_end hlt] at ht
    exact ht
theorem containsFuncL_ok {g : FuncId} {cap : List AV} (p : Line → Bool) (l : List Line) (H : List Blk) (hl : l.length ≤ 2^40) (hg : okFn Try.prog g = true) (hp : ∀ x ∈ l, ACalls Try.prog g (.agg x.cells :: cap) H (fun e H' => e = .ret (Bo (p x)) ∧ H' = H)) :
    ACalls Try.prog 44 [Line.sl l, .fn (.func g) [] cap] H (fun e H' => e = .ret (Bo (l.any p)) ∧ H' = H) := by
  refine acalls_of_vc (hn := fun _ => false) (od := fun _ => none) Try.func44 rfl (by kernel_rfl) ?_
  simp -dsimp
  refine acallsW_det (indexFuncL_ok p _ _ hl hg hp) ?_
  simp -dsimp
  rw [idxP_any _ _ _ (by omega)]
theorem sameInts_ok (a b : List Int) (H : List Blk) (hl : a.length ≤ 2^40) : ACalls Try.prog 42 [Int.sl a, Int.sl b] H (fun e H' => e = .ret (Bo (decide (a = b))) ∧ H' = H) := by
  refine acalls_of_vc (hn := fun _ => false) (od := fun _ => none) Try.func42 rfl (by kernel_rfl) ?_
  simp -dsimp
  refine condVW_introNE (fun hn _ _ => ?_) (fun hn => ?_)
  · simp -dsimp
    rintro rfl; exact hn rfl
  have hab : a.length = b.length := by omega
  simp -dsimp
  refine loop_rule (hn := fun _ => false) (od := fun _ => none) (fun (i : Nat) f H' => H' = H ∧ f 0 = Int.sl a ∧ f 1 = Int.sl b ∧ f 5 = I i ∧ i ≤ a.length ∧ (a.drop i = b.drop i ↔ a = b)) (fun i => a.length - i) (by kernel_rfl) 0 (by simp) ?_
  rintro i f H' ⟨rfl, h0, h1, h5, hi, ht⟩
  simp -dsimp [h0, h1, h5]
  refine condVW_introD (fun hlt => ?_) (fun hlt => ?_)
  · have hltb : i < b.length := by omega
    simp -dsimp [h0, h1, h5, List.getElem?_eq_getElem, hlt, hltb]
    rw [drop_cons hlt, drop_cons hltb, List.cons.injEq] at ht
    repeat' ((with_reducible first | refine And.intro ?_ ?_ | refine guardVW_introTD (fun _ => ?_) (fun _ => ?_) | refine guardVW_introFD (fun _ => ?_) (fun _ => ?_) | refine condVW_introD (fun _ => ?_) (fun _ => ?_) | refine guardVW_introTE (fun _ => ?_) (fun _ _ _ => ?_) | refine guardVW_introFE (fun _ => ?_) (fun _ _ _ => ?_) | refine condVW_introE (fun _ => ?_) (fun _ _ _ => ?_) | refine guardVW_introTNE (fun _ _ _ => ?_) (fun _ => ?_) | refine guardVW_introFNE (fun _ _ _ => ?_) (fun _ => ?_) | refine condVW_introNE (fun _ _ _ => ?_) (fun _ => ?_) | refine guardVW_introTB (fun _ => ?_) (fun _ => ?_) | refine guardVW_introFB (fun _ => ?_) (fun _ => ?_) | refine condVW_introB (fun _ => ?_) (fun _ => ?_) | refine guardVW_introT (fun _ => ?_) (fun _ => ?_) | refine guardVW_introF (fun _ => ?_) (fun _ => ?_) | refine condVW_intro (fun _ => ?_) (fun _ => ?_)) <;> simp -dsimp [*])
    · rename_i h _ _; simp [← ht, h]
    · rename_i h
      exact ⟨i + 1, by omega, wrapS (by omega), by omega, by rw [← ht]; simp [h]⟩
  · simp -dsimp [h0, h1, h5]
    rw [drop_end hlt, drop_end (by omega)] at ht
    exact ht.1 rfl
theorem is_ok (n vars : Int) (H : List Blk) : ACalls Try.prog 83 [I n, I vars] H (fun e H' => e = .ret (Bo (isV n vars)) ∧ H' = H) := by
  refine acalls_of_vc (hn := fun _ => false) (od := fun _ => none) Try.func83 rfl (by kernel_rfl) ?_
  simp -dsimp
  repeat' ((with_reducible first | refine And.intro ?_ ?_ | refine guardVW_introTD (fun _ => ?_) (fun _ => ?_) | refine guardVW_introFD (fun _ => ?_) (fun _ => ?_) | refine condVW_introD (fun _ => ?_) (fun _ => ?_) | refine guardVW_introTE (fun _ => ?_) (fun _ _ _ => ?_) | refine guardVW_introFE (fun _ => ?_) (fun _ _ _ => ?_) | refine condVW_introE (fun _ => ?_) (fun _ _ _ => ?_) | refine guardVW_introTNE (fun _ _ _ => ?_) (fun _ => ?_) | refine guardVW_introFNE (fun _ _ _ => ?_) (fun _ => ?_) | refine condVW_introNE (fun _ _ _ => ?_) (fun _ => ?_) | refine guardVW_introTB (fun _ => ?_) (fun _ => ?_) | refine guardVW_introFB (fun _ => ?_) (fun _ => ?_) | refine condVW_introB (fun _ => ?_) (fun _ => ?_) | refine guardVW_introT (fun _ => ?_) (fun _ => ?_) | refine guardVW_introF (fun _ => ?_) (fun _ => ?_) | refine condVW_intro (fun _ => ?_) (fun _ => ?_)) <;> simp -dsimp [*])
  all_goals simp [isV, *]
theorem asking_is (k : Nat) (t : Nat) (vars nodes n : Int) (H : List Blk) (hk : H[k]? = some (.box t [I vars, I nodes])) : ACalls Try.prog 66 [.bp k 0, I n] H (fun e H' => e = .ret (Bo (isV n vars)) ∧ H' = H) := by
  refine acalls_of_vc (hn := fun _ => false) (od := fun _ => none) Try.func66 rfl (by kernel_rfl) ?_
  simp -dsimp [hk]
  repeat' ((with_reducible first | refine And.intro ?_ ?_ | refine guardVW_introTD (fun _ => ?_) (fun _ => ?_) | refine guardVW_introFD (fun _ => ?_) (fun _ => ?_) | refine condVW_introD (fun _ => ?_) (fun _ => ?_) | refine guardVW_introTE (fun _ => ?_) (fun _ _ _ => ?_) | refine guardVW_introFE (fun _ => ?_) (fun _ _ _ => ?_) | refine condVW_introE (fun _ => ?_) (fun _ _ _ => ?_) | refine guardVW_introTNE (fun _ _ _ => ?_) (fun _ => ?_) | refine guardVW_introFNE (fun _ _ _ => ?_) (fun _ => ?_) | refine condVW_introNE (fun _ _ _ => ?_) (fun _ => ?_) | refine guardVW_introTB (fun _ => ?_) (fun _ => ?_) | refine guardVW_introFB (fun _ => ?_) (fun _ => ?_) | refine condVW_introB (fun _ => ?_) (fun _ => ?_) | refine guardVW_introT (fun _ => ?_) (fun _ => ?_) | refine guardVW_introF (fun _ => ?_) (fun _ => ?_) | refine condVW_intro (fun _ => ?_) (fun _ => ?_)) <;> simp -dsimp [*])
  all_goals simp [isV, *]
theorem arity_ok (op : Int) (H : List Blk) : ACalls Try.prog 110 [I op] H (fun e H' => e = .ret (I (arity op)) ∧ H' = H) := by
  refine acalls_of_vc (hn := fun _ => false) (od := fun _ => none) Try.func110 rfl (by kernel_rfl) ?_
  simp -dsimp
  repeat' ((with_reducible first | refine And.intro ?_ ?_ | refine guardVW_introTD (fun _ => ?_) (fun _ => ?_) | refine guardVW_introFD (fun _ => ?_) (fun _ => ?_) | refine condVW_introD (fun _ => ?_) (fun _ => ?_) | refine guardVW_introTE (fun _ => ?_) (fun _ _ _ => ?_) | refine guardVW_introFE (fun _ => ?_) (fun _ _ _ => ?_) | refine condVW_introE (fun _ => ?_) (fun _ _ _ => ?_) | refine guardVW_introTNE (fun _ _ _ => ?_) (fun _ => ?_) | refine guardVW_introFNE (fun _ _ _ => ?_) (fun _ => ?_) | refine condVW_introNE (fun _ _ _ => ?_) (fun _ => ?_) | refine guardVW_introTB (fun _ => ?_) (fun _ => ?_) | refine guardVW_introFB (fun _ => ?_) (fun _ => ?_) | refine condVW_introB (fun _ => ?_) (fun _ => ?_) | refine guardVW_introT (fun _ => ?_) (fun _ => ?_) | refine guardVW_introF (fun _ => ?_) (fun _ => ?_) | refine condVW_intro (fun _ => ?_) (fun _ => ?_)) <;> simp -dsimp [*])
  all_goals (simp [arity, *] <;> grind)
theorem args_ok (op : Int) (h1 : 4 ≤ op) (h2 : op ≤ 21) (H : List Blk) : ACalls Try.prog 104 [I op] H (fun e H' => e = .ret (I (arity op)) ∧ H' = H) := by
  refine acalls_of_vc (hn := fun _ => false) (od := fun _ => none) Try.func104 rfl (by kernel_rfl) ?_
  simp -dsimp
  repeat' ((with_reducible first | refine And.intro ?_ ?_ | refine guardVW_introTD (fun _ => ?_) (fun _ => ?_) | refine guardVW_introFD (fun _ => ?_) (fun _ => ?_) | refine condVW_introD (fun _ => ?_) (fun _ => ?_) | refine guardVW_introTE (fun _ => ?_) (fun _ _ _ => ?_) | refine guardVW_introFE (fun _ => ?_) (fun _ _ _ => ?_) | refine condVW_introE (fun _ => ?_) (fun _ _ _ => ?_) | refine guardVW_introTNE (fun _ _ _ => ?_) (fun _ => ?_) | refine guardVW_introFNE (fun _ _ _ => ?_) (fun _ => ?_) | refine condVW_introNE (fun _ _ _ => ?_) (fun _ => ?_) | refine guardVW_introTB (fun _ => ?_) (fun _ => ?_) | refine guardVW_introFB (fun _ => ?_) (fun _ => ?_) | refine condVW_introB (fun _ => ?_) (fun _ => ?_) | refine guardVW_introT (fun _ => ?_) (fun _ => ?_) | refine guardVW_introF (fun _ => ?_) (fun _ => ?_) | refine condVW_intro (fun _ => ?_) (fun _ => ?_)) <;> simp -dsimp [*])
  all_goals (simp [arity, *] <;> grind)
theorem rarity_ok (op : Int) (H : List Blk) : ACalls Try.prog 84 [I op] H (fun e H' => e = .ret (I (arity op)) ∧ H' = H) := by
  refine acalls_of_vc (hn := fun _ => false) (od := fun _ => none) Try.func84 rfl (by kernel_rfl) ?_
  simp -dsimp
  repeat' ((with_reducible first | refine And.intro ?_ ?_ | refine guardVW_introTD (fun _ => ?_) (fun _ => ?_) | refine guardVW_introFD (fun _ => ?_) (fun _ => ?_) | refine condVW_introD (fun _ => ?_) (fun _ => ?_) | refine guardVW_introTE (fun _ => ?_) (fun _ _ _ => ?_) | refine guardVW_introFE (fun _ => ?_) (fun _ _ _ => ?_) | refine condVW_introE (fun _ => ?_) (fun _ _ _ => ?_) | refine guardVW_introTNE (fun _ _ _ => ?_) (fun _ => ?_) | refine guardVW_introFNE (fun _ _ _ => ?_) (fun _ => ?_) | refine condVW_introNE (fun _ _ _ => ?_) (fun _ => ?_) | refine guardVW_introTB (fun _ => ?_) (fun _ => ?_) | refine guardVW_introFB (fun _ => ?_) (fun _ => ?_) | refine condVW_introB (fun _ => ?_) (fun _ => ?_) | refine guardVW_introT (fun _ => ?_) (fun _ => ?_) | refine guardVW_introF (fun _ => ?_) (fun _ => ?_) | refine condVW_intro (fun _ => ?_) (fun _ => ?_) | refine acallsW_det (args_ok _ (by omega) (by omega) _) ?_ | refine callDW_intro (args_ok _ (by omega) (by omega) _) ?_) <;> simp -dsimp [*])
  all_goals (simp [arity, *] <;> grind)
theorem arity_01 (op : Int) : arity op = 0 ∨ arity op = 1 ∨ arity op = 2 ∨ arity op = 3 := by unfold arity; grind
end Go.Proofs
namespace Go.Proofs
open Go.Mu
/-- May an instruction be, over so many variables? -/
def insOk (vars : Int) (x : Ins) : Bool :=
  (x.kind == 1 && isV x.d vars && x.op == 0 && x.a == 0 && x.b == 0 && x.c == 0 && !x.stack) ||
  (x.kind == 2 && isV x.d vars && isV x.a vars && x.op == 0 && x.b == 0 && x.c == 0 && x.word == 0 && !x.stack) ||
  (x.kind == 3 && isV x.d vars && isV x.a vars && x.word == 0 && !x.stack &&
    ((arity x.op == 1 && x.b == 0 && x.c == 0) || (arity x.op == 2 && isV x.b vars && x.c == 0) || (arity x.op == 3 && isV x.b vars && isV x.c vars))) ||
  (x.kind == 4 && isV x.d vars && (x.a == -1 || isV x.a vars) && x.op == 0 && x.b == 0 && x.c == 0) ||
  (x.kind == 5 && x.d == 0 && (x.a == -1 || isV x.a vars) && isV x.b vars && x.op == 0 && x.c == 0)
def zeroIns : Ins := ⟨0, 0, 0, 0, 0, 0, 0, false⟩
mutual
/-- May nodes be, so deep? -/
def Node.ok (vars deep : Int) : Node → Bool
  | .mk k i c a b e => if k = 1 then insOk vars i && c == 0 && a.isEmpty && b.isEmpty && e.isEmpty
    else if k = 2 ∨ k = 3 then decide (i = zeroIns) && isV c vars && (k == 2 || e.isEmpty) && nodesOk vars (deep + 1) a && nodesOk vars (deep + 1) b && nodesOk vars (deep + 1) e
    else false
def nodesOk (vars deep : Int) : List Node → Bool
  | [] => true
  | n :: l => decide (deep ≤ 65) && n.ok vars deep && nodesOk vars deep l
end
theorem Node.ok_eq (vars deep : Int) (n : Node) : n.ok vars deep = if n.kind = 1 then insOk vars n.ins && n.cond == 0 && n.ahead.isEmpty && n.body.isEmpty && n.els.isEmpty
    else if n.kind = 2 ∨ n.kind = 3 then decide (n.ins = zeroIns) && isV n.cond vars && (n.kind == 2 || n.els.isEmpty) && nodesOk vars (deep + 1) n.ahead && nodesOk vars (deep + 1) n.body && nodesOk vars (deep + 1) n.els
    else false := by cases n; simp only [Node.ok, Node.kind, Node.ins, Node.cond, Node.ahead, Node.body, Node.els]; rfl
theorem nodesOk_drop {vars deep : Int} {l : List Node} {i : Nat} (h : i < l.length) : nodesOk vars deep (l.drop i) = (decide (deep ≤ 65) && l[i].ok vars deep && nodesOk vars deep (l.drop (i + 1))) := by rw [drop_cons h, nodesOk]

theorem ins_ok (x : Ins) (vars : Int) (H : List Blk) : ACalls Try.prog 55 [.agg x.cells, I vars] H (fun e H' => e = .ret (Bo (insOk vars x)) ∧ H' = H) := by
  refine acalls_tidy (acalls_of_vc (hn := fun _ => false) (od := fun _ => none) Try.func55 rfl (by kernel_rfl) ?_)
  simp -dsimp
  repeat' ((with_reducible first | refine And.intro ?_ ?_ | refine guardVW_introTD (fun _ => ?_) (fun _ => ?_) | refine guardVW_introFD (fun _ => ?_) (fun _ => ?_) | refine condVW_introD (fun _ => ?_) (fun _ => ?_) | refine guardVW_introTE (fun _ => ?_) (fun _ _ _ => ?_) | refine guardVW_introFE (fun _ => ?_) (fun _ _ _ => ?_) | refine condVW_introE (fun _ => ?_) (fun _ _ _ => ?_) | refine guardVW_introTNE (fun _ _ _ => ?_) (fun _ => ?_) | refine guardVW_introFNE (fun _ _ _ => ?_) (fun _ => ?_) | refine condVW_introNE (fun _ _ _ => ?_) (fun _ => ?_) | refine guardVW_introTB (fun _ => ?_) (fun _ => ?_) | refine guardVW_introFB (fun _ => ?_) (fun _ => ?_) | refine condVW_introB (fun _ => ?_) (fun _ => ?_) | refine guardVW_introT (fun _ => ?_) (fun _ => ?_) | refine guardVW_introF (fun _ => ?_) (fun _ => ?_) | refine condVW_intro (fun _ => ?_) (fun _ => ?_) | refine acallsW_det (is_ok _ _ _) ?_ | refine callDW_intro (is_ok _ _ _) ?_ | refine acallsW_det (rarity_ok _ _) ?_ | refine callDW_intro (rarity_ok _ _) ?_) <;> simp -dsimp [*])
  all_goals refine tidy_same (by first | rfl | simp [AV.under, underL]) ?_
  all_goals refine ⟨congrArg (fun b => AE.ret (Bo b)) ?_, rfl⟩
  all_goals first | (simp_all [insOk]; done) | (have ha := arity_01 x.op; simp only [insOk, isV] at *; grind)

end Go.Proofs
namespace Go.Proofs
open Go.Mu
theorem count_ok (n : Nat) : ∀ (l : List Node), nodesCount l ≤ n → nodesCount l ≤ 2^40 → ∀ (H : List Blk), ACalls Try.prog 34 [Node.sl l] H (fun e H' => e = .ret (I (nodesCount l)) ∧ H' = H) := by
  induction n with
  | zero =>
    intro l hl hb H
    have : l = [] := List.eq_nil_of_length_eq_zero (by have := nodes_len l; omega)
    subst this
    refine acalls_of_vc (hn := fun _ => false) (od := fun _ => none) Try.func34 rfl (by kernel_rfl) ?_
    simp -dsimp
    refine loop_rule (hn := fun _ => false) (od := fun _ => none) (fun (i : Nat) f H' => H' = H ∧ f 0 = Node.sl [] ∧ f 4 = I 0 ∧ f 3 = I 0) (fun i => 0) (by kernel_rfl) 0 (by simp) ?_
    rintro i f H' ⟨rfl, h0, h4, h3⟩
    simp -dsimp [h0, h3, h4, nodesCount]
  | succ n ih =>
    intro l hl hb H
    refine acalls_of_vc (hn := fun _ => false) (od := fun _ => none) Try.func34 rfl (by kernel_rfl) ?_
    simp -dsimp
    have hlen := nodes_len l
    refine loop_rule (hn := fun _ => false) (od := fun _ => none) (fun (i : Nat) f H' => H' = H ∧ f 0 = Node.sl l ∧ f 4 = I i ∧ f 3 = I ((nodesCount l : Int) - nodesCount (l.drop i)) ∧ i ≤ l.length) (fun i => l.length - i) (by kernel_rfl) 0 (by simp) ?_
    rintro i f H' ⟨rfl, h0, h4, h3, hi⟩
    simp -dsimp [h0, h3, h4]
    refine condVW_introD (fun hlt => ?_) (fun hlt => ?_)
    · have hd := nodesCount_drop hlt
      have hle := nodesCount_le l i
      have hp := node_parts hlt
      rw [Node.count_eq] at hd
      simp -dsimp [h0, h3, h4, List.getElem?_eq_getElem, hlt]
      refine callDW_intro (ih _ (by omega) (by omega) _) ?_
      simp -dsimp [h0, h3, h4, List.getElem?_eq_getElem, hlt]
      refine callDW_intro (ih _ (by omega) (by omega) _) ?_
      simp -dsimp [h0, h3, h4, List.getElem?_eq_getElem, hlt]
      refine callDW_intro (ih _ (by omega) (by omega) _) ?_
      simp -dsimp [h0, h3, h4, List.getElem?_eq_getElem, hlt]
      refine ⟨i + 1, by omega, wrapS (by omega), ?_, by omega⟩
      rw [wrapI (n := _ + 1) (by omega) (by omega), wrapI (n := _ + _ + (nodesCount l[i].ahead : Int)) (by omega) (by omega), wrapI (n := _ + _ + (nodesCount l[i].body : Int)) (by omega) (by omega), wrapI (by omega) (by omega)]
      omega
    · simp -dsimp [h0, h3, h4, drop_end hlt, nodesCount]

/-- The deepest of the first k parts. -/
def deepK (a b e : Nat) : Nat → Nat
  | 0 => 0
  | 1 => a
  | 2 => max a b
  | _ => max a (max b e)
theorem deep_ok (n : Nat) : ∀ (l : List Node), nodesCount l ≤ n → nodesCount l ≤ 2^40 → ∀ (H : List Blk), ACalls Try.prog 33 [Node.sl l] H (fun e H' => e = .ret (I (nodesDeep l)) ∧ H' = H) := by
  induction n with
  | zero =>
    intro l hl hb H
    have : l = [] := List.eq_nil_of_length_eq_zero (by have := nodes_len l; omega)
    subst this
    refine acalls_of_vc (hn := fun _ => false) (od := fun _ => none) Try.func33 rfl (by kernel_rfl) ?_
    simp -dsimp
    refine loop_rule (hn := fun _ => false) (od := fun _ => none) (fun (i : Nat) f H' => H' = H ∧ f 0 = Node.sl [] ∧ f 4 = I 0 ∧ f 3 = I 0) (fun i => 0) (by kernel_rfl) 0 (by simp) ?_
    rintro i f H' ⟨rfl, h0, h4, h3⟩
    simp -dsimp [h0, h3, h4, nodesDeep]
  | succ n ih =>
    intro l hl hb H
    refine acalls_of_vc (hn := fun _ => false) (od := fun _ => none) Try.func33 rfl (by kernel_rfl) ?_
    simp -dsimp
    have hlen := nodes_len l
    refine loop_rule (hn := fun _ => false) (od := fun _ => none) (fun (i : Nat) f H' => H' = H ∧ f 0 = Node.sl l ∧ f 4 = I i ∧ (∃ m : Nat, f 3 = I m ∧ max m (nodesDeep (l.drop i)) = nodesDeep l) ∧ i ≤ l.length) (fun i => l.length - i) (by kernel_rfl) 0 (by simp; exact ⟨0, by simp⟩) ?_
    rintro i f H' ⟨rfl, h0, h4, ⟨m, h3, hm⟩, hi⟩
    simp -dsimp [h0, h3, h4]
    refine condVW_introD (fun hlt => ?_) (fun hlt => ?_)
    · have hp := node_parts hlt
      have hdc := deep_count _ l (Nat.le_refl _)
      have hdr := nodesDeep_drop hlt
      rw [Node.deep_eq] at hdr
      simp -dsimp [h0, h3, h4, List.getElem?_eq_getElem, hlt]
      refine loop_rule (hn := fun _ => false) (od := fun _ => none) (fun (k : Nat) f H2 => H2 = H' ∧ f 0 = Node.sl l ∧ f 4 = I i ∧ f 3 = I m ∧ f 7 = I k ∧ k ≤ 3 ∧ f 6 = .vs 1 [[Node.sl l[i].ahead], [Node.sl l[i].body], [Node.sl l[i].els]] ∧ f 5 = I (1 + deepK (nodesDeep l[i].ahead) (nodesDeep l[i].body) (nodesDeep l[i].els) k : Nat)) (fun k => 3 - k) (by kernel_rfl) 0 (by simp [h0, h3, h4, deepK]) ?_
      rintro k f H2 ⟨rfl, h0, h4, h3, h7, hk, h6, h5⟩
      simp -dsimp [h0, h3, h4, h5, h6, h7]
      have hka : (nodesDeep l[i].ahead) < 2^40 := by omega
      have hkb : (nodesDeep l[i].body) < 2^40 := by omega
      have hke : (nodesDeep l[i].els) < 2^40 := by omega
      refine condVW_introD (fun hklt => ?_) (fun hklt => ?_)
      · have : k = 0 ∨ k = 1 ∨ k = 2 := by omega
        rcases this with rfl | rfl | rfl
        · simp -dsimp [h0, h3, h4, h5, h6, h7]
          refine acallsW_det (ih _ (by omega) (by omega) _) ?_
          simp -dsimp [h0, h3, h4, h5, h6, h7]
          rw [wrapI (n := 1 + (nodesDeep l[i].ahead : Int)) (by omega) (by omega)]
          simp only [deepK] at h5 ⊢
          refine condVW_introD (fun hc => ?_) (fun hc => ?_) <;> simp -dsimp [h0, h3, h4, h5, h6, h7]
          · exact ⟨1, by omega, wrapS (by omega), by omega, by simp only [deepK]⟩
          · exact ⟨1, by omega, wrapS (by omega), by omega, by simp only [deepK]; omega⟩
        · simp -dsimp [h0, h3, h4, h5, h6, h7]
          refine acallsW_det (ih _ (by omega) (by omega) _) ?_
          simp -dsimp [h0, h3, h4, h5, h6, h7]
          rw [wrapI (n := 1 + (nodesDeep l[i].body : Int)) (by omega) (by omega)]
          simp only [deepK] at h5 ⊢
          refine condVW_introD (fun hc => ?_) (fun hc => ?_) <;> simp -dsimp [h0, h3, h4, h5, h6, h7]
          · exact ⟨2, by omega, wrapS (i := 1) (by omega), by omega, by simp only [deepK]; omega⟩
          · exact ⟨2, by omega, wrapS (i := 1) (by omega), by omega, by simp only [deepK]; omega⟩
        · simp -dsimp [h0, h3, h4, h5, h6, h7]
          refine acallsW_det (ih _ (by omega) (by omega) _) ?_
          simp -dsimp [h0, h3, h4, h5, h6, h7]
          rw [wrapI (n := 1 + (nodesDeep l[i].els : Int)) (by omega) (by omega)]
          simp only [deepK] at h5 ⊢
          refine condVW_introD (fun hc => ?_) (fun hc => ?_) <;> simp -dsimp [h0, h3, h4, h5, h6, h7]
          · refine ⟨3, by omega, wrapS (i := 2) (by omega), by omega, ?_⟩; simp only [deepK]; omega
          · refine ⟨3, by omega, wrapS (i := 2) (by omega), by omega, ?_⟩; simp only [deepK]; omega
      · have : k = 3 := by omega
        subst this
        simp -dsimp [h0, h3, h4, h5, h6, h7]
        simp only [deepK] at h5 ⊢
        refine condVW_introD (fun hc => ?_) (fun hc => ?_) <;> simp -dsimp [h0, h3, h4, h5, h6, h7]
        · exact ⟨i + 1, by omega, wrapS (by omega), ⟨1 + max (nodesDeep l[i].ahead) (max (nodesDeep l[i].body) (nodesDeep l[i].els)), by omega, by omega⟩, by omega⟩
        · exact ⟨i + 1, by omega, wrapS (by omega), ⟨m, rfl, by omega⟩, by omega⟩
    · simp -dsimp [h0, h3, h4]
      rw [drop_end hlt] at hm
      simp only [nodesDeep] at hm
      omega
end Go.Proofs
namespace Go.Proofs
open Go.Mu
theorem zero_ins (x : Ins) : (!x.kind == 0 || (!x.op == 0 || (!x.d == 0 || (!x.a == 0 || (!x.b == 0 || (!x.c == 0 || (!x.word == 0 || x.stack))))))) = !decide (x = zeroIns) := by
  rw [Bool.eq_iff_iff]
  simp [zeroIns, Ins.ext_iff]
theorem list_ok (vars : Int) (n : Nat) : ∀ (l : List Node) (deep : Int), nodesCount l ≤ n → nodesCount l ≤ 2^40 → 0 ≤ deep → ∀ (H : List Blk), ACalls Try.prog 41 [Node.sl l, I vars, I deep] H (fun e H' => e = .ret (Bo (nodesOk vars deep l)) ∧ H' = H) := by
  induction n with
  | zero =>
    intro l deep hl hb hdp H
    have : l = [] := List.eq_nil_of_length_eq_zero (by have := nodes_len l; omega)
    subst this
    refine acalls_of_vc (hn := fun _ => false) (od := fun _ => none) Try.func41 rfl (by kernel_rfl) ?_
    simp -dsimp
    refine loop_rule (hn := fun _ => false) (od := fun _ => none) (fun (i : Nat) f H' => H' = H ∧ f 0 = Node.sl [] ∧ f 7 = I 0) (fun i => 0) (by kernel_rfl) 0 (by simp) ?_
    rintro i f H' ⟨rfl, h0, h7⟩
    simp -dsimp [h0, h7, nodesOk]
  | succ n ih =>
    intro l deep hl hb hdp H
    refine acalls_tidy (acalls_of_vc (hn := fun _ => false) (od := fun _ => none) Try.func41 rfl (by kernel_rfl) ?_)
    simp -dsimp
    have hlen := nodes_len l
    have leaf : ∀ (L : List Blk) (b : Bool), b = nodesOk vars deep l → Tidy H (fun e H' => e = AE.ret (Bo (nodesOk vars deep l)) ∧ H' = H) (AE.ret (AV.v (Value.bool b))) (H ++ L) := fun L b hb => tidy_same rfl ⟨by rw [hb], rfl⟩
    have leaf0 : ∀ (b : Bool), b = nodesOk vars deep l → Tidy H (fun e H' => e = AE.ret (Bo (nodesOk vars deep l)) ∧ H' = H) (AE.ret (AV.v (Value.bool b))) H := fun b hb => by simpa using leaf [] b hb
    refine guardVW_introTD (fun hpos => ?_) (fun hpos => ?_) <;> simp -dsimp [hpos]
    refine condVW_introD (fun hdeep => ?_) (fun hdeep => ?_) <;> simp -dsimp
    · refine leaf0 _ ?_
      cases l with
      | nil => simp at hpos
      | cons x l => simp [nodesOk]; omega
    all_goals
      refine loop_rule (hn := fun _ => false) (od := fun _ => none) (fun (i : Nat) f H' => (∃ L, H' = H ++ L) ∧ f 0 = Node.sl l ∧ f 1 = I vars ∧ f 2 = I deep ∧ f 7 = I i ∧ i ≤ l.length ∧ nodesOk vars deep (l.drop i) = nodesOk vars deep l) (fun i => l.length - i) (by kernel_rfl) 0 (by simp) ?_
      rintro i f H' ⟨⟨L, rfl⟩, h0, h1, h2, h7, hi, hok⟩
      simp -dsimp [h0, h1, h2, h7]
      refine condVW_introD (fun hlt => ?_) (fun hlt => ?_)
      · have hp := node_parts hlt
        have hd := nodesOk_drop (vars := vars) (deep := deep) hlt
        rw [Node.ok_eq, hok] at hd
        have hdp2 : decide (deep ≤ 65) = true := by simp; omega
        rw [hdp2, Bool.true_and] at hd
        simp only [isEmpty_len] at hd
        replace hd := Hid.mk hd
        replace hok := Hid.mk hok
        have hw : IntKind.i64.wrap (deep + 1) = deep + 1 := wrapI (by omega) (by omega)
        have hwl : IntKind.i64.wrap (↑l[i].ahead.length + ↑l[i].body.length) = ↑l[i].ahead.length + ↑l[i].body.length := by
          have := nodes_len l[i].ahead; have := nodes_len l[i].body; exact wrapI (by omega) (by omega)
        have hwl2 : IntKind.i64.wrap (↑l[i].ahead.length + ↑l[i].body.length + ↑l[i].els.length) = ↑l[i].ahead.length + ↑l[i].body.length + ↑l[i].els.length := by
          have := nodes_len l[i].ahead; have := nodes_len l[i].body; have := nodes_len l[i].els; exact wrapI (by omega) (by omega)
        have hins := fun H => ins_ok l[i].ins vars H
        simp only [Ins.cells] at hins
        simp -dsimp [h0, h1, h2, h7, List.getElem?_eq_getElem, hlt, zero_ins]
        repeat' ((with_reducible first | refine And.intro ?_ ?_ | refine guardVW_introTD (fun _ => ?_) (fun _ => ?_) | refine guardVW_introFD (fun _ => ?_) (fun _ => ?_) | refine condVW_introD (fun _ => ?_) (fun _ => ?_) | refine guardVW_introTE (fun _ => ?_) (fun _ _ _ => ?_) | refine guardVW_introFE (fun _ => ?_) (fun _ _ _ => ?_) | refine condVW_introE (fun _ => ?_) (fun _ _ _ => ?_) | refine guardVW_introTNE (fun _ _ _ => ?_) (fun _ => ?_) | refine guardVW_introFNE (fun _ _ _ => ?_) (fun _ => ?_) | refine condVW_introNE (fun _ _ _ => ?_) (fun _ => ?_) | refine guardVW_introTB (fun _ => ?_) (fun _ => ?_) | refine guardVW_introFB (fun _ => ?_) (fun _ => ?_) | refine condVW_introB (fun _ => ?_) (fun _ => ?_) | refine guardVW_introT (fun _ => ?_) (fun _ => ?_) | refine guardVW_introF (fun _ => ?_) (fun _ => ?_) | refine condVW_intro (fun _ => ?_) (fun _ => ?_) | refine acallsW_det (hins _) ?_ | refine callDW_intro (hins _) ?_ | refine acallsW_det (ih _ _ (by omega) (by omega) (by omega) _) ?_ | refine callDW_intro (ih _ _ (by omega) (by omega) (by omega) _) ?_) <;> simp -dsimp [*, zero_ins])
        all_goals replace hd := hd.out
        all_goals first
          | exact leaf _ _ (by rw [hd]; first | (simp [*, isV]; done) | (simp [*, isV, -List.length_eq_zero_iff]; omega))
          | exact ⟨i + 1, by omega, wrapS (by omega), by omega, by rw [hd]; first | (simp [*, isV]; done) | (simp [*, isV, -List.length_eq_zero_iff]; omega)⟩
      · simp -dsimp [h0, h1, h2, h7]
        rw [drop_end hlt] at hok
        exact leaf _ _ (by simpa [nodesOk] using hok)

/-- May these be parameters, behind those? -/
def paramsOk (vars : Int) (seen : List Int) : List Int → Bool
  | [] => true
  | x :: l => isV x vars && !decide (x ∈ seen) && paramsOk vars (seen ++ [x]) l
theorem paramsOk_drop {vars : Int} {l : List Int} {i : Nat} (h : i < l.length) : paramsOk vars (l.take i) (l.drop i) = (isV l[i] vars && !decide (l[i] ∈ l.take i) && paramsOk vars (l.take (i + 1)) (l.drop (i + 1))) := by
  rw [drop_cons h, paramsOk, List.take_succ_eq_append_getElem h]
theorem take_drop_cons {l : List Int} {i k : Nat} (hk : k < i) (hi : i ≤ l.length) : (l.take i).drop k = l[k] :: (l.take i).drop (k + 1) := by
  rw [drop_cons (l := l.take i) (i := k) (by simp; omega)]; simp
def headOk (vars : Int) (params rets : List Int) (frame : Int) : Bool :=
  decide (0 ≤ vars) && decide (vars ≤ 16384) && decide (0 ≤ frame) && decide (frame ≤ 8192) && decide (frame % 16 = 0) && decide (rets.length ≤ 16384) && paramsOk vars [] params && rets.all (isV · vars)
theorem all_drop {p : Int → Bool} {l : List Int} {i : Nat} (h : i < l.length) : (l.drop i).all p = (p l[i] && (l.drop (i + 1)).all p) := by rw [drop_cons h, List.all_cons]
theorem head_ok (vars : Int) (params rets : List Int) (frame : Int) (hp : params.length ≤ 2^40) (hr : rets.length ≤ 2^40) (H : List Blk) : ACalls Try.prog 40 [I vars, Int.sl params, Int.sl rets, I frame] H (fun e H' => e = .ret (Bo (headOk vars params rets frame)) ∧ H' = H) := by
  refine acalls_of_vc (hn := fun _ => false) (od := fun _ => none) Try.func40 rfl (by kernel_rfl) ?_
  simp -dsimp
  repeat' ((with_reducible first | refine And.intro ?_ ?_ | refine guardVW_introTD (fun _ => ?_) (fun _ => ?_) | refine guardVW_introFD (fun _ => ?_) (fun _ => ?_) | refine condVW_introD (fun _ => ?_) (fun _ => ?_) | refine guardVW_introTE (fun _ => ?_) (fun _ _ _ => ?_) | refine guardVW_introFE (fun _ => ?_) (fun _ _ _ => ?_) | refine condVW_introE (fun _ => ?_) (fun _ _ _ => ?_) | refine guardVW_introTNE (fun _ _ _ => ?_) (fun _ => ?_) | refine guardVW_introFNE (fun _ _ _ => ?_) (fun _ => ?_) | refine condVW_introNE (fun _ _ _ => ?_) (fun _ => ?_) | refine guardVW_introTB (fun _ => ?_) (fun _ => ?_) | refine guardVW_introFB (fun _ => ?_) (fun _ => ?_) | refine condVW_introB (fun _ => ?_) (fun _ => ?_) | refine guardVW_introT (fun _ => ?_) (fun _ => ?_) | refine guardVW_introF (fun _ => ?_) (fun _ => ?_) | refine condVW_intro (fun _ => ?_) (fun _ => ?_)) <;> simp -dsimp [*])
  case refine_2.refine_2.refine_2.refine_2.refine_2.refine_2 h1 h2 h3 h4 h5 h6 =>
    have hbase : headOk vars params rets frame = (paramsOk vars [] params && rets.all (isV · vars)) := by
      have ht := Int.tmod_eq_emod_of_nonneg (a := frame) (b := 16) (by omega)
      rw [ht] at h5
      have e1 : decide (0 ≤ vars) = true := by simp; omega
      have e2 : decide (vars ≤ 16384) = true := by simp; omega
      have e3 : decide (0 ≤ frame) = true := by simp; omega
      have e4 : decide (frame ≤ 8192) = true := by simp; omega
      have e5 : decide (frame % 16 = 0) = true := by simpa using h5
      have e6 : decide (rets.length ≤ 16384) = true := by simp; omega
      simp only [headOk, e1, e2, e3, e4, e5, e6, Bool.true_and]
    replace hbase := Hid.mk hbase
    refine loop_rule (hn := fun _ => false) (od := fun _ => none) (fun (i : Nat) f H' => H' = H ∧ f 0 = I vars ∧ f 1 = Int.sl params ∧ f 2 = Int.sl rets ∧ f 9 = I i ∧ i ≤ params.length ∧ paramsOk vars (params.take i) (params.drop i) = paramsOk vars [] params) (fun i => params.length - i) (by kernel_rfl) 0 (by simp) ?_
    rintro i f H' ⟨rfl, f0, f1, f2, f9, hi, hok⟩
    simp -dsimp [f0, f1, f2, f9]
    refine condVW_introD (fun hlt => ?_) (fun hlt => ?_)
    · have hd := paramsOk_drop (vars := vars) hlt
      rw [hok] at hd
      replace hd := Hid.mk hd
      replace hok := Hid.mk hok
      simp -dsimp [f0, f1, f2, f9, List.getElem?_eq_getElem, hlt]
      repeat' ((with_reducible first | refine And.intro ?_ ?_ | refine guardVW_introTD (fun _ => ?_) (fun _ => ?_) | refine guardVW_introFD (fun _ => ?_) (fun _ => ?_) | refine condVW_introD (fun _ => ?_) (fun _ => ?_) | refine guardVW_introTE (fun _ => ?_) (fun _ _ _ => ?_) | refine guardVW_introFE (fun _ => ?_) (fun _ _ _ => ?_) | refine condVW_introE (fun _ => ?_) (fun _ _ _ => ?_) | refine guardVW_introTNE (fun _ _ _ => ?_) (fun _ => ?_) | refine guardVW_introFNE (fun _ _ _ => ?_) (fun _ => ?_) | refine condVW_introNE (fun _ _ _ => ?_) (fun _ => ?_) | refine guardVW_introTB (fun _ => ?_) (fun _ => ?_) | refine guardVW_introFB (fun _ => ?_) (fun _ => ?_) | refine condVW_introB (fun _ => ?_) (fun _ => ?_) | refine guardVW_introT (fun _ => ?_) (fun _ => ?_) | refine guardVW_introF (fun _ => ?_) (fun _ => ?_) | refine condVW_intro (fun _ => ?_) (fun _ => ?_)) <;> simp -dsimp [*])
      · rw [hbase.out, hd.out]
        have : isV params[i] vars = false := by simp [isV]; omega
        simp [this]
      · rw [hbase.out, hd.out]
        have : isV params[i] vars = false := by simp [isV]; omega
        simp [this]
      · rename_i hv1 hv2
        have hv : isV params[i] vars = true := by simp [isV]; omega
        rw [hv, Bool.true_and] at hd
        refine loop_rule (hn := fun _ => false) (od := fun _ => none) (fun (k : Nat) f H2 => H2 = H' ∧ f 0 = I vars ∧ f 1 = Int.sl params ∧ f 2 = Int.sl rets ∧ f 9 = I i ∧ f 10 = I k ∧ k ≤ i ∧ (params[i] ∈ (params.take i).drop k ↔ params[i] ∈ params.take i)) (fun k => i - k) (by kernel_rfl) 0 (by simp [f0, f1, f2, f9]) ?_
        rintro k f H2 ⟨rfl, f0, f1, f2, f9, f10, hk, hmem⟩
        simp -dsimp [f0, f1, f2, f9, f10]
        refine condVW_introD (fun hkl => ?_) (fun hkl => ?_)
        · have hkl2 : k < params.length := by omega
          rw [take_drop_cons hkl (by omega), List.mem_cons] at hmem
          replace hmem := Hid.mk hmem
          simp -dsimp [f0, f1, f2, f9, f10, List.getElem?_eq_getElem, hlt, hkl2]
          refine condVW_introE (fun he => ?_) (fun hne _ _ => ?_)
          · simp -dsimp
            rw [hbase.out, hd.out]
            have : params[i] ∈ params.take i := hmem.out.1 (.inl he.symm)
            simp [this]
          · simp -dsimp [f0, f1, f2, f9, f10]
            refine ⟨k + 1, by omega, wrapS (by omega), by omega, ?_⟩
            rw [← hmem.out]
            constructor
            · exact fun h => .inr h
            · exact fun h => h.resolve_left (fun e => hne e.symm)
        · simp -dsimp [f0, f1, f2, f9, f10]
          refine ⟨i + 1, by omega, wrapS (by omega), by omega, ?_⟩
          rw [hd.out]
          have hnil : (params.take i).drop k = [] := List.drop_of_length_le (by simp; omega)
          rw [hnil] at hmem
          have : params[i] ∉ params.take i := fun h => by have := hmem.2 h; simp at this
          simp [this]
    · rw [drop_end hlt] at hok
      have hpok : paramsOk vars [] params = true := by rw [← hok]; rfl
      rw [hpok, Bool.true_and] at hbase
      simp -dsimp [f0, f1, f2, f9]
      refine loop_rule (hn := fun _ => false) (od := fun _ => none) (fun (i : Nat) f H2 => H2 = H' ∧ f 0 = I vars ∧ f 2 = Int.sl rets ∧ f 11 = I i ∧ i ≤ rets.length ∧ (rets.drop i).all (isV · vars) = rets.all (isV · vars)) (fun i => rets.length - i) (by kernel_rfl) 0 (by simp [f0, f2]) ?_
      rintro j f H2 ⟨rfl, f0, f2, f11, hj, hall⟩
      simp -dsimp [f0, f2, f11]
      refine condVW_introD (fun hlt2 => ?_) (fun hlt2 => ?_)
      · rw [all_drop hlt2] at hall
        replace hall := Hid.mk hall
        simp -dsimp [f0, f2, f11, List.getElem?_eq_getElem, hlt2]
        repeat' ((with_reducible first | refine And.intro ?_ ?_ | refine guardVW_introTD (fun _ => ?_) (fun _ => ?_) | refine guardVW_introFD (fun _ => ?_) (fun _ => ?_) | refine condVW_introD (fun _ => ?_) (fun _ => ?_) | refine guardVW_introTE (fun _ => ?_) (fun _ _ _ => ?_) | refine guardVW_introFE (fun _ => ?_) (fun _ _ _ => ?_) | refine condVW_introE (fun _ => ?_) (fun _ _ _ => ?_) | refine guardVW_introTNE (fun _ _ _ => ?_) (fun _ => ?_) | refine guardVW_introFNE (fun _ _ _ => ?_) (fun _ => ?_) | refine condVW_introNE (fun _ _ _ => ?_) (fun _ => ?_) | refine guardVW_introTB (fun _ => ?_) (fun _ => ?_) | refine guardVW_introFB (fun _ => ?_) (fun _ => ?_) | refine condVW_introB (fun _ => ?_) (fun _ => ?_) | refine guardVW_introT (fun _ => ?_) (fun _ => ?_) | refine guardVW_introF (fun _ => ?_) (fun _ => ?_) | refine condVW_intro (fun _ => ?_) (fun _ => ?_)) <;> simp -dsimp [*])
        · rw [hbase.out, ← hall.out]
          have : isV rets[j] vars = false := by simp [isV]; omega
          simp [this]
        · rw [hbase.out, ← hall.out]
          have : isV rets[j] vars = false := by simp [isV]; omega
          simp [this]
        · refine ⟨j + 1, by omega, wrapS (by omega), by omega, ?_⟩
          have : isV rets[j] vars = true := by simp [isV]; omega
          have hh := hall.out
          rw [this, Bool.true_and] at hh
          simpa using hh
      · simp -dsimp [f0, f2, f11]
        rw [drop_end hlt2] at hall
        rw [hbase.out, ← hall]; rfl
  case refine_2.refine_2.refine_2.refine_2.refine_1 h5 _ _ =>
    have ht := Int.tmod_eq_emod_of_nonneg (a := frame) (b := 16) (by omega)
    rw [ht] at h5
    have : decide (frame % 16 = 0) = false := by simpa using h5
    simp [headOk, h5]
  all_goals (simp [headOk]; omega)
def Flat.ok (f : Flat) : Bool := headOk f.vars f.params f.rets f.frame && decide (nodesCount f.code ≤ 16384) && nodesOk f.vars 1 f.code
theorem refMay_ok (f : Flat) (hp : f.params.length ≤ 2^40) (hr : f.rets.length ≤ 2^40) (hc : nodesCount f.code ≤ 2^40) (H : List Blk) : ACalls Try.prog 12 [.agg f.cells] H (fun e H' => e = .ret (Bo f.ok) ∧ H' = H) := by
  refine acalls_tidy (acalls_of_vc (hn := fun _ => false) (od := fun _ => none) Try.func12 rfl (by kernel_rfl) ?_)
  simp -dsimp
  repeat' ((with_reducible first | refine And.intro ?_ ?_ | refine guardVW_introTD (fun _ => ?_) (fun _ => ?_) | refine guardVW_introFD (fun _ => ?_) (fun _ => ?_) | refine condVW_introD (fun _ => ?_) (fun _ => ?_) | refine guardVW_introTE (fun _ => ?_) (fun _ _ _ => ?_) | refine guardVW_introFE (fun _ => ?_) (fun _ _ _ => ?_) | refine condVW_introE (fun _ => ?_) (fun _ _ _ => ?_) | refine guardVW_introTNE (fun _ _ _ => ?_) (fun _ => ?_) | refine guardVW_introFNE (fun _ _ _ => ?_) (fun _ => ?_) | refine condVW_introNE (fun _ _ _ => ?_) (fun _ => ?_) | refine guardVW_introTB (fun _ => ?_) (fun _ => ?_) | refine guardVW_introFB (fun _ => ?_) (fun _ => ?_) | refine condVW_introB (fun _ => ?_) (fun _ => ?_) | refine guardVW_introT (fun _ => ?_) (fun _ => ?_) | refine guardVW_introF (fun _ => ?_) (fun _ => ?_) | refine condVW_intro (fun _ => ?_) (fun _ => ?_) | refine acallsW_det (head_ok _ _ _ _ hp hr _) ?_ | refine callDW_intro (head_ok _ _ _ _ hp hr _) ?_ | refine acallsW_det (count_ok _ _ (Nat.le_refl _) hc _) ?_ | refine callDW_intro (count_ok _ _ (Nat.le_refl _) hc _) ?_ | refine acallsW_det (list_ok _ _ _ _ (Nat.le_refl _) hc (by omega) _) ?_ | refine callDW_intro (list_ok _ _ _ _ (Nat.le_refl _) hc (by omega) _) ?_) <;> simp -dsimp [*])
  all_goals refine tidy_same rfl ⟨congrArg (fun b => AE.ret (Bo b)) ?_, rfl⟩
  all_goals (simp [Flat.ok, *] <;> omega)
end Go.Proofs
namespace Go.Proofs
open Go.Mu
theorem asking_ins (k : Nat) (t : Nat) (vars nodes : Int) (x : Ins) (H : List Blk) (hk : H[k]? = some (.box t [I vars, I nodes])) : ACalls Try.prog 96 [.bp k 0, .agg x.cells] H (fun e H' => e = .ret (Bo (insOk vars x)) ∧ H' = H) := by
  refine acalls_tidy (acalls_of_vc (hn := fun _ => false) (od := fun i => if i = 14 then some [(0, []), (1, []), (2, []), (3, []), (4, []), (5, [2, 3]), (6, []), (7, [])] else if i = 20 then some [(0, []), (1, []), (2, []), (3, [0, 1]), (4, []), (5, [])] else if i = 23 then some [(0, []), (1, []), (2, []), (3, []), (4, []), (5, []), (6, []), (7, [2, 3, 4, 5]), (8, []), (9, [4, 5]), (10, []), (11, [])] else none) Try.func96 rfl (by kernel_rfl) ?_)
  have hk' := fun L => get_app_old hk L
  simp -dsimp [hk]
  repeat' ((with_reducible first | refine And.intro ?_ ?_ | refine guardVW_introTD (fun _ => ?_) (fun _ => ?_) | refine guardVW_introFD (fun _ => ?_) (fun _ => ?_) | refine condVW_introD (fun _ => ?_) (fun _ => ?_) | refine guardVW_introTE (fun _ => ?_) (fun _ _ _ => ?_) | refine guardVW_introFE (fun _ => ?_) (fun _ _ _ => ?_) | refine condVW_introE (fun _ => ?_) (fun _ _ _ => ?_) | refine guardVW_introTNE (fun _ _ _ => ?_) (fun _ => ?_) | refine guardVW_introFNE (fun _ _ _ => ?_) (fun _ => ?_) | refine condVW_introNE (fun _ _ _ => ?_) (fun _ => ?_) | refine guardVW_introTB (fun _ => ?_) (fun _ => ?_) | refine guardVW_introFB (fun _ => ?_) (fun _ => ?_) | refine condVW_introB (fun _ => ?_) (fun _ => ?_) | refine guardVW_introT (fun _ => ?_) (fun _ => ?_) | refine guardVW_introF (fun _ => ?_) (fun _ => ?_) | refine condVW_intro (fun _ => ?_) (fun _ => ?_) | refine acallsW_det (asking_is _ _ _ _ _ _ (hk' _)) ?_ | refine callDW_intro (asking_is _ _ _ _ _ _ (hk' _)) ?_ | refine acallsW_det (arity_ok _ _) ?_ | refine callDW_intro (arity_ok _ _) ?_) <;> simp -dsimp [*])
  all_goals refine tidy_same (by first | rfl | simp [AV.under, underL]) ?_
  all_goals refine ⟨?_, rfl⟩
  all_goals clear hk hk'
  all_goals refine congrArg (fun b => AE.ret (Bo b)) ?_
  all_goals first | (simp_all [insOk]; done) | (have ha := arity_01 x.op; simp only [insOk, isV] at *; grind)
/-- What asking a list of nodes comes to: whether it may be, and how many nodes were counted. -/
def AListR (vars deep : Int) (l : List Node) (n0 : Nat) (H : List Blk) (k t : Nat) (e : AE) (H' : List Blk) : Prop :=
  ∃ (b : Bool) (n1 : Nat), e = .ret (Bo b) ∧ b = (nodesOk vars deep l && (l.isEmpty || decide (n0 + nodesCount l ≤ 16384))) ∧ n1 ≤ 16385 ∧ H' = H.set k (.box t [I vars, I n1]) ∧ (b = true → n1 = n0 + nodesCount l ∧ n1 ≤ 16384)
theorem AListR.out {vars deep : Int} {l : List Node} {n0 : Nat} {H : List Blk} {k t : Nat} {e : AE} {H' : List Blk} (h : AListR vars deep l n0 H k t e H') :
  ∃ (b : Bool) (n1 : Nat), e = .ret (Bo b) ∧ b = (nodesOk vars deep l && (l.isEmpty || decide (n0 + nodesCount l ≤ 16384))) ∧ n1 ≤ 16385 ∧ H' = H.set k (.box t [I vars, I n1]) ∧ (b = true → n1 = n0 + nodesCount l ∧ n1 ≤ 16384) := h
theorem count_empty (l : List Node) : l.length = 0 → nodesCount l = 0 := by cases l <;> simp [nodesCount]
theorem alist_ok (vars : Int) (n : Nat) : ∀ (l : List Node) (deep : Int), nodesCount l ≤ n → nodesCount l ≤ 2^40 → 0 ≤ deep → ∀ (n0 : Nat), n0 ≤ 16384 → ∀ (H : List Blk) (k t : Nat), H[k]? = some (.box t [I vars, I n0]) →
    ACalls Try.prog 70 [.bp k 0, Node.sl l, I deep] H (AListR vars deep l n0 H k t) := by
  induction n with
  | zero =>
    intro l deep hl hb hdp n0 hn0 H k t hk
    have : l = [] := List.eq_nil_of_length_eq_zero (by have := nodes_len l; omega)
    subst this
    refine acalls_of_vc (hn := fun _ => false) (od := fun _ => none) Try.func70 rfl (by kernel_rfl) ?_
    simp -dsimp
    refine loop_rule (hn := fun _ => false) (od := fun _ => none) (fun (i : Nat) f H' => H' = H ∧ f 16 = Node.sl [] ∧ f 17 = I 0 ∧ f 18 = I 0) (fun i => 0) (by kernel_rfl) 0 (by simp) ?_
    rintro i f H' ⟨rfl, h0, h7, h8⟩
    simp -dsimp [h0, h7, h8]
    exact ⟨true, n0, rfl, by simp [nodesOk], by omega, (set_same hk).symm, fun _ => ⟨by simp [nodesCount], hn0⟩⟩
  | succ n ih =>
    intro l deep hl hb hdp n0 hn0 H k t hk
    refine acalls_tidy (acalls_of_vc (hn := fun _ => false) (od := fun _ => none) Try.func70 rfl (by kernel_rfl) ?_)
    have hkl := lt_of_get hk
    have g1 := fun X L => m1_get hkl X L
    have g2 := fun X Y L => m1_set hkl X Y L
    have g3 := fun X L i => m1_getN (H := H) (k := k) X L i
    have g4 := fun X L => m1_getE (H := H) (k := k) X L
    have hlen := nodes_len l
    have leaf : ∀ (n1 : Nat) (L : List Blk) (c : Bool), n1 ≤ 16385 → c = (nodesOk vars deep l && (l.isEmpty || decide (n0 + nodesCount l ≤ 16384))) → (c = true → n1 = n0 + nodesCount l ∧ n1 ≤ 16384) → Tidy H (AListR vars deep l n0 H k t) (AE.ret (AV.v (Value.bool c))) (H.set k (.box t [I vars, I n1]) ++ L) := by
      intro n1 L c h1 hc h2
      exact tidy_to (by simp) (fun hu => by rw [List.length_set]; exact underH_set hu rfl) rfl ⟨c, n1, rfl, hc, h1, rfl, h2⟩
    have hH : Hid (H = H.set k (.box t [I vars, I n0]) ++ []) := ⟨by rw [List.append_nil]; exact (set_same hk).symm⟩
    have leafS : ∀ (n1 : Nat) (L : List Blk) (c : Bool), n1 + 1 ≤ 16385 → c = (nodesOk vars deep l && (l.isEmpty || decide (n0 + nodesCount l ≤ 16384))) → (c = true → n1 + 1 = n0 + nodesCount l ∧ n1 + 1 ≤ 16384) → Tidy H (AListR vars deep l n0 H k t) (AE.ret (AV.v (Value.bool c))) (H.set k (.box t [I vars, I ((n1 : Int) + 1)]) ++ L) := fun n1 L c h1 h2 h3 => leaf (n1 + 1) L c h1 h2 h3
    replace leaf := Hid.mk leaf
    replace leafS := Hid.mk leafS
    simp -dsimp
    refine guardVW_introTD (fun hpos => ?_) (fun hpos => ?_) <;> simp -dsimp [hpos]
    refine condVW_introD (fun hdeep => ?_) (fun hdeep => ?_) <;> simp -dsimp
    · conv => arg 4; rw [hH.out]
      refine leaf.out n0 [] _ (by omega) ?_ (by simp)
      cases l with
      | nil => simp at hpos
      | cons x l =>
        have : decide (deep ≤ 65) = false := by simp; omega
        simp [nodesOk, this]
    all_goals
      refine loop_rule (hn := fun _ => false) (od := fun _ => none) (fun (i : Nat) f H' => (∃ (ni : Nat) (L : List Blk), H' = H.set k (.box t [I vars, I ni]) ++ L ∧ ni + nodesCount (l.drop i) = n0 + nodesCount l ∧ ni ≤ 16384) ∧ f 0 = .bp k 0 ∧ f 16 = Node.sl l ∧ f 17 = I l.length ∧ f 2 = I deep ∧ f 18 = I i ∧ i ≤ l.length ∧ nodesOk vars deep (l.drop i) = nodesOk vars deep l) (fun i => l.length - i) (by kernel_rfl) 0 (by refine ⟨⟨n0, [], hH.out, by simp, hn0⟩, ?_⟩; simp) ?_
      rintro i f H' ⟨⟨ni, L, rfl, hni, hni2⟩, h0, h16, h17, h2, h18, hi, hok⟩
      simp -dsimp [h0, h16, h17, h2, h18]
      refine condVW_introD (fun hlt => ?_) (fun hlt => ?_)
      · have hp := node_parts hlt
        have hd := nodesOk_drop (vars := vars) (deep := deep) hlt
        have hcd := nodesCount_drop hlt
        have hcle := nodesCount_le l i
        rw [Node.count_eq] at hcd
        rw [Node.ok_eq, hok] at hd
        have hdp2 : decide (deep ≤ 65) = true := by simp; omega
        have hempty : l.isEmpty = false := by rw [isEmpty_len]; simp only [decide_eq_false_iff_not]; omega
        rw [hdp2, Bool.true_and] at hd
        simp only [isEmpty_len] at hd
        replace hd := Hid.mk hd
        replace hok := Hid.mk hok
        replace hempty := Hid.mk hempty
        have hw : IntKind.i64.wrap (deep + 1) = deep + 1 := wrapI (by omega) (by omega)
        have hwn : IntKind.i64.wrap ((ni : Int) + 1) = ((ni + 1 : Nat) : Int) := wrapS (by omega)
        have hwl : IntKind.i64.wrap (↑l[i].ahead.length + ↑l[i].body.length) = ↑l[i].ahead.length + ↑l[i].body.length := by
          have := nodes_len l[i].ahead; have := nodes_len l[i].body; exact wrapI (by omega) (by omega)
        have hwl2 : IntKind.i64.wrap (↑l[i].ahead.length + ↑l[i].body.length + ↑l[i].els.length) = ↑l[i].ahead.length + ↑l[i].body.length + ↑l[i].els.length := by
          have := nodes_len l[i].ahead; have := nodes_len l[i].body; have := nodes_len l[i].els; exact wrapI (by omega) (by omega)
        have hins := fun nn H h => asking_ins k t vars nn l[i].ins H h
        simp only [Ins.cells] at hins
        have ih1 : ni + 1 ≤ 16384 → ∀ H', H'[k]? = some (.box t [I vars, I ((ni : Int) + 1)]) → ACalls Try.prog 70 [.bp k 0, Node.sl l[i].ahead, I (deep + 1)] H' (AListR vars (deep + 1) l[i].ahead (ni + 1) H' k t) := fun hn H' h => ih l[i].ahead (deep + 1) (by omega) (by omega) (by omega) (ni + 1) hn H' k t h
        have ih2 : ∀ n1 : Nat, n1 ≤ 16384 → ∀ H', H'[k]? = some (.box t [I vars, I n1]) → ACalls Try.prog 70 [.bp k 0, Node.sl l[i].body, I (deep + 1)] H' (AListR vars (deep + 1) l[i].body n1 H' k t) := fun n1 hn H' h => ih l[i].body (deep + 1) (by omega) (by omega) (by omega) n1 hn H' k t h
        have ih3 : ∀ n1 : Nat, n1 ≤ 16384 → ∀ H', H'[k]? = some (.box t [I vars, I n1]) → ACalls Try.prog 70 [.bp k 0, Node.sl l[i].els, I (deep + 1)] H' (AListR vars (deep + 1) l[i].els n1 H' k t) := fun n1 hn H' h => ih l[i].els (deep + 1) (by omega) (by omega) (by omega) n1 hn H' k t h
        simp -dsimp [h0, h16, h17, h2, h18, List.getElem?_eq_getElem, hlt, zero_ins, g1, g2, g3, g4, hwn]
        repeat' ((with_reducible first | refine And.intro ?_ ?_ | refine guardVW_introTD (fun _ => ?_) (fun _ => ?_) | refine guardVW_introFD (fun _ => ?_) (fun _ => ?_) | refine condVW_introD (fun _ => ?_) (fun _ => ?_) | refine guardVW_introTE (fun _ => ?_) (fun _ _ _ => ?_) | refine guardVW_introFE (fun _ => ?_) (fun _ _ _ => ?_) | refine condVW_introE (fun _ => ?_) (fun _ _ _ => ?_) | refine guardVW_introTNE (fun _ _ _ => ?_) (fun _ => ?_) | refine guardVW_introFNE (fun _ _ _ => ?_) (fun _ => ?_) | refine condVW_introNE (fun _ _ _ => ?_) (fun _ => ?_) | refine guardVW_introTB (fun _ => ?_) (fun _ => ?_) | refine guardVW_introFB (fun _ => ?_) (fun _ => ?_) | refine condVW_introB (fun _ => ?_) (fun _ => ?_) | refine guardVW_introT (fun _ => ?_) (fun _ => ?_) | refine guardVW_introF (fun _ => ?_) (fun _ => ?_) | refine condVW_intro (fun _ => ?_) (fun _ => ?_) | refine acallsW_det (hins _ _ (g1 _ _)) ?_ | refine callDW_intro (hins _ _ (g1 _ _)) ?_ | refine acallsW_det (asking_is _ _ _ _ _ _ (g1 _ _)) ?_ | refine callDW_intro (asking_is _ _ _ _ _ _ (g1 _ _)) ?_ | (refine acallsW_of (ih1 (by omega) _ (g1 _ _)) (fun e H' hq => ?_); obtain ⟨b1, n1, rfl, hb1, hn1, rfl, he1⟩ := AListR.out hq; replace hb1 := Hid.mk hb1; replace he1 := Hid.mk he1) | (refine acallsW_of (ih2 n1 (he1.out ‹b1 = true›).2 _ (g1 _ _)) (fun e H' hq => ?_); obtain ⟨b2, n2, rfl, hb2, hn2, rfl, he2⟩ := AListR.out hq; replace hb2 := Hid.mk hb2; replace he2 := Hid.mk he2) | (refine acallsW_of (ih3 n2 (he2.out ‹b2 = true›).2 _ (g1 _ _)) (fun e H' hq => ?_); obtain ⟨b3, n3, rfl, hb3, hn3, rfl, he3⟩ := AListR.out hq; replace hb3 := Hid.mk hb3; replace he3 := Hid.mk he3)) <;> simp -dsimp [*, zero_ins])
        all_goals clear ih ih1 ih2 ih3 hins g1 g2 g3 g4 h0 h16 h17 h2 h18 hwl hwl2 hw
        all_goals have hca := count_empty l[i].ahead
        all_goals have hcb := count_empty l[i].body
        all_goals have hce := count_empty l[i].els
        all_goals first
          | (refine leafS.out ni _ _ (by omega) ?_ (by simp); clear leaf leafS; rw [hd.out, hempty.out]; first | (simp [*]; done) | (simp [*, isV, -List.length_eq_zero_iff]; done) | (simp [*, isV, -List.length_eq_zero_iff]; omega))
          | (refine leaf.out n1 _ _ hn1 ?_ (by simp); clear leaf leafS; rw [hempty.out]; have := hb1.out; rw [hd.out]; grind)
          | (refine leaf.out n2 _ _ hn2 ?_ (by simp); clear leaf leafS; rw [hempty.out]; have := hb1.out; have := hb2.out; have := he1.out; rw [hd.out]; grind)
          | (refine leaf.out n3 _ _ hn3 ?_ (by simp); clear leaf leafS; rw [hempty.out]; have := hb1.out; have := hb2.out; have := hb3.out; have := he1.out; have := he2.out; rw [hd.out]; grind)
          | (refine ⟨i + 1, by omega, ⟨n3, ⟨_, rfl⟩, ?_, ?_⟩, wrapS (by omega), by omega, ?_⟩ <;> clear leaf leafS <;> (have := hb1.out; have := hb2.out; have := hb3.out; have := he1.out; have := he2.out; have := he3.out; first | grind | (rw [hd.out]; grind)))
          | (refine ⟨i + 1, by omega, ⟨ni + 1, ⟨_, rfl⟩, ?_, by omega⟩, wrapS (by omega), by omega, ?_⟩ <;> clear leaf leafS <;> first | grind | (rw [hd.out]; grind))
          | trace_state
      · simp -dsimp [h0, h16, h17, h2, h18]
        rw [drop_end hlt] at hok hni
        have hok2 : nodesOk vars deep l = true := by rw [← hok]; rfl
        simp only [nodesCount] at hni
        refine leaf.out _ _ _ (by omega) ?_ (fun _ => by omega)
        rw [hok2]; simp; right; omega
end Go.Proofs
namespace Go.Proofs
open Go.Mu
theorem may1_ok (ka kp ta tp : Nat) (vars nodes x : Int) (H : List Blk) (hp : H[kp]? = some (.box tp [.bp ka 0])) (ha : H[ka]? = some (.box ta [I vars, I nodes])) : ACalls Try.prog 69 [I x, .bp kp 0] H (fun e H' => e = .ret (Bo (!isV x vars)) ∧ H' = H) := by
  refine acalls_of_vc (hn := fun _ => false) (od := fun _ => none) Try.func69 rfl (by kernel_rfl) ?_
  simp -dsimp [hp]
  repeat' ((with_reducible first | refine And.intro ?_ ?_ | refine guardVW_introTD (fun _ => ?_) (fun _ => ?_) | refine guardVW_introFD (fun _ => ?_) (fun _ => ?_) | refine condVW_introD (fun _ => ?_) (fun _ => ?_) | refine guardVW_introTE (fun _ => ?_) (fun _ _ _ => ?_) | refine guardVW_introFE (fun _ => ?_) (fun _ _ _ => ?_) | refine condVW_introE (fun _ => ?_) (fun _ _ _ => ?_) | refine guardVW_introTNE (fun _ _ _ => ?_) (fun _ => ?_) | refine guardVW_introFNE (fun _ _ _ => ?_) (fun _ => ?_) | refine condVW_introNE (fun _ _ _ => ?_) (fun _ => ?_) | refine guardVW_introTB (fun _ => ?_) (fun _ => ?_) | refine guardVW_introFB (fun _ => ?_) (fun _ => ?_) | refine condVW_introB (fun _ => ?_) (fun _ => ?_) | refine guardVW_introT (fun _ => ?_) (fun _ => ?_) | refine guardVW_introF (fun _ => ?_) (fun _ => ?_) | refine condVW_intro (fun _ => ?_) (fun _ => ?_) | refine acallsW_det (asking_is _ _ _ _ _ _ ha) ?_ | refine callDW_intro (asking_is _ _ _ _ _ _ ha) ?_) <;> simp -dsimp [*])
theorem may_ok (f : Flat) (hp : f.params.length ≤ 2^40) (hr : f.rets.length ≤ 2^40) (hc : nodesCount f.code ≤ 2^40) (H : List Blk) : ACalls Try.prog 35 [.agg f.cells] H (fun e H' => e = .ret (Bo f.ok) ∧ H' = H) := by
  refine acalls_tidy (acalls_of_vc (hn := fun d => d == 70) (od := fun _ => none) Try.func35 rfl (by kernel_rfl) ?_)
  have leaf : ∀ (L : List Blk) (b : Bool), b = f.ok → Tidy H (fun e H' => e = AE.ret (Bo f.ok) ∧ H' = H) (AE.ret (AV.v (Value.bool b))) (H ++ L) := fun L b hb => tidy_same rfl ⟨by rw [hb], rfl⟩
  replace leaf := Hid.mk leaf
  simp -dsimp
  repeat' ((with_reducible first | refine And.intro ?_ ?_ | refine guardVW_introTD (fun _ => ?_) (fun _ => ?_) | refine guardVW_introFD (fun _ => ?_) (fun _ => ?_) | refine condVW_introD (fun _ => ?_) (fun _ => ?_) | refine guardVW_introTE (fun _ => ?_) (fun _ _ _ => ?_) | refine guardVW_introFE (fun _ => ?_) (fun _ _ _ => ?_) | refine condVW_introE (fun _ => ?_) (fun _ _ _ => ?_) | refine guardVW_introTNE (fun _ _ _ => ?_) (fun _ => ?_) | refine guardVW_introFNE (fun _ _ _ => ?_) (fun _ => ?_) | refine condVW_introNE (fun _ _ _ => ?_) (fun _ => ?_) | refine guardVW_introTB (fun _ => ?_) (fun _ => ?_) | refine guardVW_introFB (fun _ => ?_) (fun _ => ?_) | refine condVW_introB (fun _ => ?_) (fun _ => ?_) | refine guardVW_introT (fun _ => ?_) (fun _ => ?_) | refine guardVW_introF (fun _ => ?_) (fun _ => ?_) | refine condVW_intro (fun _ => ?_) (fun _ => ?_)) <;> simp -dsimp [*])
  case refine_2.refine_2.refine_2.refine_2.refine_2 h1 h2 h3 h4 h5 =>
    have hbase : f.ok = (decide (f.rets.length ≤ 16384) && paramsOk f.vars [] f.params && f.rets.all (isV · f.vars) && decide (nodesCount f.code ≤ 16384) && nodesOk f.vars 1 f.code) := by
      have ht := Int.tmod_eq_emod_of_nonneg (a := f.frame) (b := 16) (by omega)
      rw [ht] at h5
      have e1 : decide (0 ≤ f.vars) = true := by simp; omega
      have e2 : decide (f.vars ≤ 16384) = true := by simp; omega
      have e3 : decide (0 ≤ f.frame) = true := by simp; omega
      have e4 : decide (f.frame ≤ 8192) = true := by simp; omega
      have e5 : decide (f.frame % 16 = 0) = true := by simpa using h5
      simp only [Flat.ok, headOk, e1, e2, e3, e4, e5, Bool.true_and]
    replace hbase := Hid.mk hbase
    refine loop_rule (hn := fun d => d == 70) (od := fun _ => none) (fun (i : Nat) g H' => H' = H ++ [.box 25 f.cells, .box 141 [I f.vars, I 0], .box 139 [.bp (H.length + 1) 0]] ∧ g 1 = .bp H.length 0 ∧ g 3 = .bp (H.length + 2) 0 ∧ g 35 = Int.sl f.params ∧ g 36 = I f.params.length ∧ g 37 = I i ∧ i ≤ f.params.length ∧ paramsOk f.vars (f.params.take i) (f.params.drop i) = paramsOk f.vars [] f.params) (fun i => f.params.length - i) (by kernel_rfl) 0 (by simp) ?_
    rintro i g H' ⟨rfl, g1, g3, g35, g36, g37, hi, hok⟩
    simp -dsimp [g1, g3, g35, g36, g37]
    have hm : ∀ L, (H ++ Blk.box 25 f.cells :: Blk.box 141 [I f.vars, I 0] :: L)[H.length + 1]? = some (.box 141 [I f.vars, I 0]) := by intro L; simp
    simp only [Flat.cells] at hm
    refine condVW_introD (fun hlt => ?_) (fun hlt => ?_)
    · have hd := paramsOk_drop (vars := f.vars) hlt
      rw [hok] at hd
      replace hd := Hid.mk hd
      replace hok := Hid.mk hok
      have hct := contains_ok (f.params.take i) f.params[i]
      simp only [Int.sl, List.map_take] at hct
      have hctl : (f.params.take i).length ≤ 2^40 := by simp; omega
      simp -dsimp [g1, g3, g35, g36, g37, List.getElem?_eq_getElem, hlt]
      repeat' ((with_reducible first | refine And.intro ?_ ?_ | refine guardVW_introTD (fun _ => ?_) (fun _ => ?_) | refine guardVW_introFD (fun _ => ?_) (fun _ => ?_) | refine condVW_introD (fun _ => ?_) (fun _ => ?_) | refine guardVW_introTE (fun _ => ?_) (fun _ _ _ => ?_) | refine guardVW_introFE (fun _ => ?_) (fun _ _ _ => ?_) | refine condVW_introE (fun _ => ?_) (fun _ _ _ => ?_) | refine guardVW_introTNE (fun _ _ _ => ?_) (fun _ => ?_) | refine guardVW_introFNE (fun _ _ _ => ?_) (fun _ => ?_) | refine condVW_introNE (fun _ _ _ => ?_) (fun _ => ?_) | refine guardVW_introTB (fun _ => ?_) (fun _ => ?_) | refine guardVW_introFB (fun _ => ?_) (fun _ => ?_) | refine condVW_introB (fun _ => ?_) (fun _ => ?_) | refine guardVW_introT (fun _ => ?_) (fun _ => ?_) | refine guardVW_introF (fun _ => ?_) (fun _ => ?_) | refine condVW_intro (fun _ => ?_) (fun _ => ?_) | refine acallsW_det (asking_is _ _ _ _ _ _ (hm _)) ?_ | refine callDW_intro (asking_is _ _ _ _ _ _ (hm _)) ?_ | refine acallsW_det (hct _ hctl) ?_ | refine callDW_intro (hct _ hctl) ?_) <;> simp -dsimp [*])
      · refine leaf.out _ _ ?_
        rw [hbase.out, hd.out]; simp [*]
      · refine leaf.out _ _ ?_
        rw [hbase.out, hd.out]; simp [*]
      · refine ⟨i + 1, by omega, wrapS (by omega), by omega, ?_⟩
        have := hd.out
        simp [*] at this
        simp [this]
    · rw [drop_end hlt] at hok
      have hpok : paramsOk f.vars [] f.params = true := by rw [← hok]; rfl
      rw [hpok, Bool.and_true] at hbase
      have hcf := containsFunc_ok (g := 69) (cap := [.bp (H.length + 2) 0]) (fun v => !isV v f.vars) f.rets (H ++ [.box 25 f.cells, .box 141 [I f.vars, I 0], .box 139 [.bp (H.length + 1) 0]]) hr (by kernel_rfl) (fun x _ => may1_ok (H.length + 1) (H.length + 2) 141 139 f.vars 0 x _ (by simp) (by simp))
      have hal := alist_ok f.vars _ f.code 1 (Nat.le_refl _) hc (by omega) 0 (by omega) (H ++ [.box 25 f.cells, .box 141 [I f.vars, I 0], .box 139 [.bp (H.length + 1) 0]]) (H.length + 1) 141 (by simp)
      simp only [Flat.cells] at hcf hal
      simp -dsimp [g1, g3, g35, g36, g37]
      refine acallsW_det hcf ?_
      have hany : (f.rets.any fun v => !isV v f.vars) = !f.rets.all (isV · f.vars) := by rw [List.all_eq_not_any_not]; simp
      replace hany := Hid.mk hany
      simp -dsimp [g1, g3, g35, g36, g37, hany.out]
      repeat' ((with_reducible first | refine And.intro ?_ ?_ | refine guardVW_introTD (fun _ => ?_) (fun _ => ?_) | refine guardVW_introFD (fun _ => ?_) (fun _ => ?_) | refine condVW_introD (fun _ => ?_) (fun _ => ?_) | refine guardVW_introTE (fun _ => ?_) (fun _ _ _ => ?_) | refine guardVW_introFE (fun _ => ?_) (fun _ _ _ => ?_) | refine condVW_introE (fun _ => ?_) (fun _ _ _ => ?_) | refine guardVW_introTNE (fun _ _ _ => ?_) (fun _ => ?_) | refine guardVW_introFNE (fun _ _ _ => ?_) (fun _ => ?_) | refine condVW_introNE (fun _ _ _ => ?_) (fun _ => ?_) | refine guardVW_introTB (fun _ => ?_) (fun _ => ?_) | refine guardVW_introFB (fun _ => ?_) (fun _ => ?_) | refine condVW_introB (fun _ => ?_) (fun _ => ?_) | refine guardVW_introT (fun _ => ?_) (fun _ => ?_) | refine guardVW_introF (fun _ => ?_) (fun _ => ?_) | refine condVW_intro (fun _ => ?_) (fun _ => ?_) | (refine acallsW_of hal (fun e H' hq => ?_); obtain ⟨b1, n1, rfl, hb1, hn1, rfl, he1⟩ := AListR.out hq; replace hb1 := Hid.mk hb1; replace he1 := Hid.mk he1)) <;> simp -dsimp [*])
      all_goals refine leaf.out _ _ ?_
      all_goals clear hcf hal hm
      all_goals rw [hbase.out]
      · have hcap : (f.code.isEmpty || decide (0 + nodesCount f.code ≤ 16384)) = decide (nodesCount f.code ≤ 16384) := by
          have h0 := count_empty f.code
          rw [isEmpty_len, Bool.eq_iff_iff, Nat.zero_add]; simp only [Bool.or_eq_true, decide_eq_true_eq]; omega
        rw [hb1.out, hcap]
        have : f.rets.length ≤ 16384 := by omega
        simp [*, Bool.and_comm]
      · simp [*]; omega
      · simp [*]
  case refine_2.refine_2.refine_2.refine_2.refine_1 h5 _ _ =>
    refine leaf.out _ _ ?_
    have ht := Int.tmod_eq_emod_of_nonneg (a := f.frame) (b := 16) (by omega)
    rw [ht] at h5
    simp [Flat.ok, headOk, h5]
  all_goals
    refine leaf.out _ _ ?_
    simp [Flat.ok, headOk]
    omega
end Go.Proofs
namespace Go.Proofs
open Go.Mu
abbrev lineOf (kind var label : Int) : Line := ⟨kind, ⟨0, 0, 0, 0, 0, 0, 0, false⟩, var, label⟩
mutual
/-- The lines that a node makes, the labels being numbered from here on; and the next label. -/
def Node.lines : Node → Nat → List Line × Nat
  | .mk k i c a b e, lab =>
    if k = 1 then ([⟨1, i, 0, 0⟩], lab)
    else if k = 2 then
      let A := nodesLines a lab
      let B := nodesLines b (A.2 + 2)
      let E := nodesLines e B.2
      (A.1 ++ [lineOf 4 c A.2] ++ B.1 ++ [lineOf 3 0 ((A.2 : Int) + 1), lineOf 2 0 A.2] ++ E.1 ++ [lineOf 2 0 ((A.2 : Int) + 1)], E.2)
    else
      let A := nodesLines a (lab + 2)
      let B := nodesLines b A.2
      ([lineOf 2 0 lab] ++ A.1 ++ [lineOf 4 c ((lab : Int) + 1)] ++ B.1 ++ [lineOf 3 0 lab, lineOf 2 0 ((lab : Int) + 1)], B.2)
def nodesLines : List Node → Nat → List Line × Nat
  | [], lab => ([], lab)
  | n :: l, lab =>
    let A := n.lines lab
    let B := nodesLines l A.2
    (A.1 ++ B.1, B.2)
end
theorem Node.lines_ins (n : Node) (lab : Nat) (h : n.kind = 1) : n.lines lab = ([⟨1, n.ins, 0, 0⟩], lab) := by
  cases n; simp only [Node.kind] at h; subst h; simp [Node.lines, Node.ins]
theorem Node.lines_if (n : Node) (lab : Nat) (h : n.kind = 2) : n.lines lab = (let A := nodesLines n.ahead lab; let B := nodesLines n.body (A.2 + 2); let E := nodesLines n.els B.2
    (A.1 ++ [lineOf 4 n.cond A.2] ++ B.1 ++ [lineOf 3 0 ((A.2 : Int) + 1), lineOf 2 0 A.2] ++ E.1 ++ [lineOf 2 0 ((A.2 : Int) + 1)], E.2)) := by
  cases n; simp only [Node.kind] at h; subst h; simp only [Node.lines, Node.ahead, Node.body, Node.els, Node.cond]; rfl
theorem Node.lines_loop (n : Node) (lab : Nat) (h1 : n.kind ≠ 1) (h2 : n.kind ≠ 2) : n.lines lab = (let A := nodesLines n.ahead (lab + 2); let B := nodesLines n.body A.2
    ([lineOf 2 0 lab] ++ A.1 ++ [lineOf 4 n.cond ((lab : Int) + 1)] ++ B.1 ++ [lineOf 3 0 lab, lineOf 2 0 ((lab : Int) + 1)], B.2)) := by
  cases n; simp only [Node.kind] at h1 h2; simp only [Node.lines, Node.ahead, Node.body, Node.els, Node.cond, if_neg h1, if_neg h2]
theorem nodesLines_drop {l : List Node} {i : Nat} (h : i < l.length) (lab : Nat) : nodesLines (l.drop i) lab = ((l[i].lines lab).1 ++ (nodesLines (l.drop (i + 1)) (l[i].lines lab).2).1, (nodesLines (l.drop (i + 1)) (l[i].lines lab).2).2) := by
  rw [drop_cons h, nodesLines]
/-- How many lines and labels there are at the most. -/
theorem lines_le (n : Nat) : ∀ (l : List Node), nodesCount l ≤ n → ∀ lab, (nodesLines l lab).1.length ≤ 5 * nodesCount l ∧ (nodesLines l lab).2 ≤ lab + 2 * nodesCount l ∧ lab ≤ (nodesLines l lab).2 := by
  induction n with
  | zero => intro l hl lab; have := nodes_len l; have : l = [] := List.eq_nil_of_length_eq_zero (by omega); subst this; simp [nodesLines]
  | succ n ih =>
    intro l
    induction l with
    | nil => intro _ lab; simp [nodesLines]
    | cons x l ihl =>
      intro hl lab
      simp only [nodesCount, Node.count_eq] at hl
      have key : (x.lines lab).1.length ≤ 5 * x.count ∧ (x.lines lab).2 ≤ lab + 2 * x.count ∧ lab ≤ (x.lines lab).2 := by
        rw [Node.count_eq]
        by_cases h1 : x.kind = 1
        · rw [Node.lines_ins x lab h1]; simp; omega
        · by_cases h2 : x.kind = 2
          · rw [Node.lines_if x lab h2]
            have hA := ih x.ahead (by omega) lab
            have hB := ih x.body (by omega) ((nodesLines x.ahead lab).2 + 2)
            have hE := ih x.els (by omega) (nodesLines x.body ((nodesLines x.ahead lab).2 + 2)).2
            simp only [List.length_append, List.length_cons, List.length_nil]
            omega
          · rw [Node.lines_loop x lab h1 h2]
            have hA := ih x.ahead (by omega) (lab + 2)
            have hB := ih x.body (by omega) (nodesLines x.ahead (lab + 2)).2
            simp only [List.length_append, List.length_cons, List.length_nil]
            omega
      have hL := ihl (by omega) (x.lines lab).2
      simp only [nodesLines, List.length_append, nodesCount]
      omega

/-- The panic by which a making is left. -/
abbrev refV : AV := .ifc 93 (.agg [])
def mkBox (t k : Nat) (ls : List Line) (lab : Nat) : Blk := .box t [ownS k (ls.map Line.cells), I lab]
def mkRow (ls : List Line) : Blk := ownB 45 11 (ls.map Line.cells)
theorem under_mkBox {n t k : Nat} (h : k < n) (ls : List Line) (lab : Nat) : (mkBox t k ls lab).under n = true := by simp [mkBox, Blk.under, underL, under_ownS _ _ _ h, AV.under]
theorem under_mkRow (n : Nat) (ls : List Line) : (mkRow ls).under n = true := by
  refine under_ownB _ _ _ _ ?_
  rw [List.all_eq_true]
  intro e he
  obtain ⟨x, _, rfl⟩ := List.mem_map.1 he
  simp [underL, AV.under]

theorem label_call {H : List Blk} {a k : Nat} {ls : List Line} {lab : Nat} {L : List Blk} {R : AE → List Blk → Prop} {w : Wit R} (ha : a < H.length) (hk : k < H.length) (hak : a ≠ k) (hl : lab ≤ 2^45)
    (h1 : R (.ret (I lab)) (set2 H a (mkBox 96 k ls (lab + 1)) k (mkRow ls) ++ L)) :
    ACallsW Try.prog 71 [.bp a 0] (set2 H a (mkBox 96 k ls lab) k (mkRow ls) ++ L) R w := by
  refine acalls_of_vc (hn := fun _ => false) (od := fun _ => none) Try.func71 rfl (by kernel_rfl) ?_
  have g1 := fun X Y L => m2_getA ha hak X Y L
  have s1 := fun X Y Z L => m2_setA ha hak X Y Z L
  have hw : IntKind.i64.wrap ((lab : Int) + 1) = (lab : Int) + 1 := wrapI (by omega) (by omega)
  have hw2 : IntKind.i64.wrap (lab : Int) = lab := wrapI (by omega) (by omega)
  simp -dsimp [g1, s1, hw, hw2, mkBox]
  exact h1
theorem line_call {H : List Blk} {a k : Nat} {ls : List Line} {lab : Nat} {L : List Blk} {x : Line} {R : AE → List Blk → Prop} {w : Wit R} (ha : a < H.length) (hk : k < H.length) (hak : a ≠ k) (hls : ls.length ≤ 65536)
    (h1 : ls.length < 65536 → R (.ret (.tup [])) (set2 H a (mkBox 96 k (ls ++ [x]) lab) k (mkRow (ls ++ [x])) ++ L)) (h2 : ls.length = 65536 → R (.pan refV) (set2 H a (mkBox 96 k ls lab) k (mkRow ls) ++ L)) :
    ACallsW Try.prog 38 [.bp a 0, .agg [I x.kind, I x.ins.kind, I x.ins.op, I x.ins.d, I x.ins.a, I x.ins.b, I x.ins.c, U x.ins.word, Bo x.ins.stack, I x.var, I x.label]] (set2 H a (mkBox 96 k ls lab) k (mkRow ls) ++ L) R w := by
  refine acalls_tidy (acalls_of_vc (hn := fun d => d == 19) (od := fun _ => none) Try.func38 rfl (by kernel_rfl) ?_)
  have g1 := fun X Y L => m2_getA ha hak X Y L
  have g2 := fun X Y L => m2_getB (a := a) hk X Y L
  have s1 := fun X Y Z L => m2_setA ha hak X Y Z L
  have s2 := fun X Y Z L => m2_setB (a := a) hk X Y Z L
  have hlen : ∀ X L, lenV (set2 H a X k (mkRow ls) ++ L) 1 (ownS k (List.map Line.cells ls)) = some ((List.map Line.cells ls).length : Int) := fun X L => lenV_ownS (m2_getB hk X _ L)
  have hu : ∀ (X' Y' : Blk), X'.under (set2 H a X' k Y' ++ L).length = true → Y'.under (set2 H a X' k Y' ++ L).length = true → underH (set2 H a (mkBox 96 k ls lab) k (mkRow ls) ++ L).length (set2 H a (mkBox 96 k ls lab) k (mkRow ls) ++ L) = true → underH (set2 H a X' k Y' ++ L).length (set2 H a X' k Y' ++ L) = true := by
    intro X' Y' h1 h2 h3
    have e : (set2 H a (mkBox 96 k ls lab) k (mkRow ls) ++ L).length = (set2 H a X' k Y' ++ L).length := by simp
    rw [e] at h3
    exact underH_m2 ha hk hak h3 h1 h2
  simp -dsimp [g1, g2, s1, s2, hlen, mkBox]
  refine condVW_introE (fun he => ?_) (fun hne _ _ => ?_)
  · simp -dsimp [g1, g2, s1, s2, hlen, mkBox]
    rw [← List.append_assoc]
    exact tidy_toP (Nat.le_refl _) id rfl (h2 (by omega))
  · simp -dsimp [g1, g2, s1, s2, hlen, mkBox]
    refine appendVW_own (g2 _ _ _) (by simp; omega) (by simp; omega) ?_
    simp -dsimp [g1, g2, s1, s2, hlen, mkBox]
    rw [← List.append_assoc]
    have := h1 (by omega)
    simp only [mkBox, mkRow, List.map_append] at this
    refine tidy_to (by simp) (hu _ _ ?_ ?_) rfl this
    · simp [Blk.under, underL, AV.under]
      exact under_ownS _ _ _ (by omega)
    · have := under_mkRow (set2 H a (mkBox 96 k (ls ++ [x]) lab) k (mkRow (ls ++ [x])) ++ L).length (ls ++ [x])
      simpa [mkRow] using this
end Go.Proofs
namespace Go.Proofs
open Go.Mu
theorem nodes_call (vars : Int) (n : Nat) : ∀ (l : List Node) (deep : Int), nodesCount l ≤ n → nodesCount l ≤ 2^40 → nodesOk vars deep l = true → ∀ {H : List Blk} {a k : Nat} {ls : List Line} {lab : Nat} {L : List Blk} {R : AE → List Blk → Prop} {w : Wit R},
    a < H.length → k < H.length → a ≠ k → ls.length ≤ 65536 → lab + 2 * nodesCount l ≤ 2^44 →
    (ls.length + (nodesLines l lab).1.length ≤ 65536 → R (.ret (.tup [])) (set2 H a (mkBox 96 k (ls ++ (nodesLines l lab).1) (nodesLines l lab).2) k (mkRow (ls ++ (nodesLines l lab).1)) ++ L)) →
    (65536 < ls.length + (nodesLines l lab).1.length → ∀ (ls' : List Line) (lab' : Nat), R (.pan refV) (set2 H a (mkBox 96 k ls' lab') k (mkRow ls') ++ L)) →
    ACallsW Try.prog 37 [.bp a 0, Node.sl l] (set2 H a (mkBox 96 k ls lab) k (mkRow ls) ++ L) R w := by
  induction n with
  | zero =>
    intro l deep hl hb hok H a k ls lab L R w ha hk hak hls hlab h1 h2
    have : l = [] := List.eq_nil_of_length_eq_zero (by have := nodes_len l; omega)
    subst this
    refine acalls_of_vc (hn := fun _ => false) (od := fun _ => none) Try.func37 rfl (by kernel_rfl) ?_
    simp -dsimp
    refine loop_rule (hn := fun _ => false) (od := fun _ => none) (fun (i : Nat) f H' => H' = set2 H a (mkBox 96 k ls lab) k (mkRow ls) ++ L ∧ f 10 = Node.sl [] ∧ f 11 = I 0 ∧ f 12 = I 0) (fun i => 0) (by kernel_rfl) 0 (by simp) ?_
    rintro i f H' ⟨rfl, h0, h7, h8⟩
    have := h1 (by simpa [nodesLines] using hls)
    simp only [nodesLines, List.append_nil] at this
    simp -dsimp [h0, h7, h8]
    exact this
  | succ n ih =>
    intro l deep hl hb hok H a k ls lab L R w ha hk hak hls hlab h1 h2
    refine acalls_tidy (acalls_of_vc (hn := fun _ => false) (od := fun _ => none) Try.func37 rfl (by kernel_rfl) ?_)
    have hu : ∀ (l1 : List Line) (b1 : Nat), underH (set2 H a (mkBox 96 k ls lab) k (mkRow ls) ++ L).length (set2 H a (mkBox 96 k ls lab) k (mkRow ls) ++ L) = true → underH (set2 H a (mkBox 96 k l1 b1) k (mkRow l1) ++ L).length (set2 H a (mkBox 96 k l1 b1) k (mkRow l1) ++ L) = true := by
      intro l1 b1 h3
      have e : (set2 H a (mkBox 96 k ls lab) k (mkRow ls) ++ L).length = (set2 H a (mkBox 96 k l1 b1) k (mkRow l1) ++ L).length := by simp
      rw [e] at h3
      exact underH_m2 ha hk hak h3 (under_mkBox (by simp; omega) _ _) (under_mkRow _ _)
    have panleaf : Hid (65536 < ls.length + (nodesLines l lab).1.length → ∀ (l1 : List Line) (b1 : Nat) (G : List Blk), Tidy (set2 H a (mkBox 96 k ls lab) k (mkRow ls) ++ L) R (.pan refV) (set2 H a (mkBox 96 k l1 b1) k (mkRow l1) ++ (L ++ G))) := ⟨fun hlt l1 b1 G => by
      rw [← List.append_assoc]
      exact tidy_toP (by simp) (hu l1 b1) rfl (h2 hlt l1 b1)⟩
    have retleaf : Hid (∀ (l1 : List Line) (b1 : Nat) (G : List Blk), l1 = ls ++ (nodesLines l lab).1 → b1 = (nodesLines l lab).2 → l1.length ≤ 65536 → Tidy (set2 H a (mkBox 96 k ls lab) k (mkRow ls) ++ L) R (.ret (.tup [])) (set2 H a (mkBox 96 k l1 b1) k (mkRow l1) ++ (L ++ G))) := ⟨fun l1 b1 G e1 e2 hlt => by
      rw [← List.append_assoc]
      refine tidy_to (by simp) (hu l1 b1) rfl ?_
      rw [e1, e2]
      exact h1 (by rw [e1] at hlt; simpa using hlt)⟩
    clear h1 h2
    have g1 := fun X Y L => m2_getA ha hak X Y L
    have g2 := fun X Y L i => m2_getN (H := H) (a := a) (b := k) X Y L i
    have g3 := fun X Y L => m2_getE (H := H) (a := a) (b := k) X Y L
    have s2 := fun X Y Z L i => m2_setN (H := H) (a := a) (b := k) X Y Z L i
    have s3 := fun X Y Z L => m2_setE (H := H) (a := a) (b := k) X Y Z L
    have hlen := nodes_len l
    simp -dsimp
    refine loop_rule (hn := fun _ => false) (od := fun _ => none) (fun (i : Nat) f H' => (∃ (li : List Line) (bi : Nat) (G : List Blk), H' = set2 H a (mkBox 96 k li bi) k (mkRow li) ++ (L ++ G) ∧ li ++ (nodesLines (l.drop i) bi).1 = ls ++ (nodesLines l lab).1 ∧ (nodesLines (l.drop i) bi).2 = (nodesLines l lab).2 ∧ li.length ≤ 65536 ∧ bi + 2 * nodesCount (l.drop i) ≤ 2^44) ∧ f 0 = .bp a 0 ∧ f 10 = Node.sl l ∧ f 11 = I l.length ∧ f 12 = I i ∧ i ≤ l.length ∧ nodesOk vars deep (l.drop i) = true) (fun i => l.length - i) (by kernel_rfl) 0 (by refine ⟨⟨ls, lab, [], by simp, rfl, rfl, hls, hlab⟩, ?_⟩; simp [hok]) ?_
    rintro i f H' ⟨⟨li, bi, G, rfl, he1, he2, hli, hbi⟩, f0, f10, f11, f12, hi, hoki⟩
    simp -dsimp [f0, f10, f11, f12]
    refine condVW_introD (fun hlt => ?_) (fun hlt => ?_)
    · have hp := node_parts hlt
      have hcd := nodesCount_drop hlt
      rw [Node.count_eq] at hcd
      have hd := nodesOk_drop (vars := vars) (deep := deep) hlt
      rw [hoki, Node.ok_eq] at hd
      obtain ⟨X, b', hXb⟩ : ∃ X b', l[i].lines bi = (X, b') := ⟨_, _, rfl⟩
      have hld := nodesLines_drop hlt bi
      have hlenE := congrArg List.length he1
      rw [hld] at he1 he2 hlenE
      simp only [hXb] at he1 he2 hlenE
      rw [← List.append_assoc] at he1
      simp only [List.length_append] at hlenE
      have hb'le : b' + 2 * nodesCount (l.drop (i + 1)) ≤ 2^44 := by
        have := (lines_le _ [l[i]] (Nat.le_refl _) bi).2.1
        simp only [nodesLines, hXb, nodesCount, Node.count_eq] at this
        omega
      have hoknext : nodesOk vars deep (l.drop (i + 1)) = true := by
        have := hd.symm
        simp only [Bool.and_eq_true] at this
        exact this.2
      have next : Hid (∀ (l1 : List Line) (b1 : Nat) (G' : List Blk), l1 = li ++ X → b1 = b' → l1.length ≤ 65536 → ∃ y, l.length - y < l.length - i ∧ (∃ li_1 bi_1, (∃ x, set2 H a (mkBox 96 k l1 b1) k (mkRow l1) ++ (L ++ G') = set2 H a (mkBox 96 k li_1 bi_1) k (mkRow li_1) ++ (L ++ x)) ∧
          li_1 ++ (nodesLines (List.drop y l) bi_1).fst = ls ++ (nodesLines l lab).fst ∧ (nodesLines (List.drop y l) bi_1).snd = (nodesLines l lab).snd ∧ li_1.length ≤ 65536 ∧ bi_1 + 2 * nodesCount (List.drop y l) ≤ 17592186044416) ∧
          IntKind.i64.wrap ((i : Int) + 1) = (y : Int) ∧ y ≤ l.length ∧ nodesOk vars deep (List.drop y l) = true) := ⟨fun l1 b1 G' e1 e2 e3 => by
        subst e1; subst e2
        exact ⟨i + 1, by omega, ⟨_, _, ⟨_, rfl⟩, he1, he2, e3, by omega⟩, wrapS (by omega), by omega, hoknext⟩⟩
      replace he1 := Hid.mk he1
      replace he2 := Hid.mk he2
      replace hld := Hid.mk hld
      have hsub : l[i].kind ≠ 1 → (l[i].kind = 2 ∨ l[i].kind = 3) ∧ nodesOk vars (deep + 1) l[i].ahead = true ∧ nodesOk vars (deep + 1) l[i].body = true ∧ nodesOk vars (deep + 1) l[i].els = true := by
        intro h1
        rw [if_neg h1] at hd
        have := hd.symm
        simp only [Bool.and_eq_true] at this
        have h2 := this.1.2
        split at h2
        · rename_i h3; simp only [Bool.and_eq_true] at h2; exact ⟨h3, h2.1.1.2, h2.1.2, h2.2⟩
        · cases h2
      clear hd
      simp -dsimp [f0, f10, f11, f12, List.getElem?_eq_getElem, hlt, g1, g2, g3, s2, s3]
      refine condVW_introE (fun hk1 => ?_) (fun hk1 hk1' _ => ?_)
      · have hX := hXb
        rw [Node.lines_ins l[i] bi hk1] at hX
        cases hX
        have hk2 : True := trivial
        have hX : True := trivial
        simp -dsimp [f0, f10, f11, f12, g1, g2, g3, s2, s3, hk1]
        refine line_call (x := ⟨1, l[i].ins, 0, 0⟩) ha hk hak hli (fun hc => ?_) (fun hc => ?_)
        · simp -dsimp [f0, f10, f11, f12]
          exact next.out _ _ _ rfl rfl (by simp; omega)
        · simp -dsimp
          exact panleaf.out (by simp at hlenE; omega) _ _ _
      · obtain ⟨hk23, hoka, hokb, hoke⟩ := hsub hk1
        simp -dsimp [f0, f10, f11, f12, g1, g2, g3, s2, s3]
        refine condVW_introE (fun hk2 => ?_) (fun hk2 hk2' _ => ?_)
        · have hX := hXb
          rw [Node.lines_if l[i] bi hk2] at hX
          obtain ⟨A, bA, hA⟩ : ∃ A b, nodesLines l[i].ahead bi = (A, b) := ⟨_, _, rfl⟩
          obtain ⟨B, bB, hB⟩ : ∃ B b, nodesLines l[i].body (bA + 2) = (B, b) := ⟨_, _, rfl⟩
          obtain ⟨E, bE, hE⟩ : ∃ E b, nodesLines l[i].els bB = (E, b) := ⟨_, _, rfl⟩
          simp only [hA, hB, hE, Prod.mk.injEq] at hX
          obtain ⟨hX, rfl⟩ := hX
          have hbA := lines_le _ l[i].ahead (Nat.le_refl _) bi
          have hbB := lines_le _ l[i].body (Nat.le_refl _) (bA + 2)
          have hbE := lines_le _ l[i].els (Nat.le_refl _) bB
          rw [hA] at hbA; rw [hB] at hbB; rw [hE] at hbE
          have hXl := congrArg List.length hX
          simp only [List.length_append, List.length_cons, List.length_nil] at hXl
          have ihA := @ih l[i].ahead (deep + 1) (by omega) (by omega) hoka
          have ihB := @ih l[i].body (deep + 1) (by omega) (by omega) hokb
          have ihE := @ih l[i].els (deep + 1) (by omega) (by omega) hoke
          simp -dsimp [f0, f10, f11, f12, g1, g2, g3, s2, s3, hk2]
          refine ihA ha hk hak hli (by omega) (fun hc => ?_) (fun hc _ _ => ?_)
          rotate_left
          · simp -dsimp; exact panleaf.out (by simp only [List.length_append, List.length_cons, List.length_nil, hA, hB, hE] at hc; omega) _ _ _
          simp -dsimp [f0, f10, f11, f12, g1, g2, g3, s2, s3]
          simp only [List.length_append, List.length_cons, List.length_nil, hA, hB, hE] at hc ⊢
          refine label_call (lab := bA) ha hk hak (by omega) ?_
          simp -dsimp [f0, f10, f11, f12, g1, g2, g3, s2, s3]
          refine label_call (lab := bA + 1) ha hk hak (by omega) ?_
          simp -dsimp [f0, f10, f11, f12, g1, g2, g3, s2, s3]
          refine line_call (x := lineOf 4 l[i].cond bA) ha hk hak (by simp only [List.length_append, List.length_cons, List.length_nil]; omega) (fun hc => ?_) (fun hc => ?_)
          rotate_left
          · simp -dsimp; exact panleaf.out (by simp only [List.length_append, List.length_cons, List.length_nil, hA, hB, hE] at hc; omega) _ _ _
          simp -dsimp [f0, f10, f11, f12, g1, g2, g3, s2, s3]
          simp only [List.length_append, List.length_cons, List.length_nil, hA, hB, hE] at hc ⊢
          refine ihB ha hk hak (by simp only [List.length_append, List.length_cons, List.length_nil]; omega) (by omega) (fun hc => ?_) (fun hc _ _ => ?_)
          rotate_left
          · simp -dsimp; exact panleaf.out (by simp only [List.length_append, List.length_cons, List.length_nil, hA, hB, hE] at hc; omega) _ _ _
          simp -dsimp [f0, f10, f11, f12, g1, g2, g3, s2, s3]
          simp only [List.length_append, List.length_cons, List.length_nil, hA, hB, hE] at hc ⊢
          refine line_call (x := lineOf 3 0 ((bA : Int) + 1)) ha hk hak (by simp only [List.length_append, List.length_cons, List.length_nil]; omega) (fun hc => ?_) (fun hc => ?_)
          rotate_left
          · simp -dsimp; exact panleaf.out (by simp only [List.length_append, List.length_cons, List.length_nil, hA, hB, hE] at hc; omega) _ _ _
          simp -dsimp [f0, f10, f11, f12, g1, g2, g3, s2, s3]
          simp only [List.length_append, List.length_cons, List.length_nil, hA, hB, hE] at hc ⊢
          refine line_call (x := lineOf 2 0 bA) ha hk hak (by simp only [List.length_append, List.length_cons, List.length_nil]; omega) (fun hc => ?_) (fun hc => ?_)
          rotate_left
          · simp -dsimp; exact panleaf.out (by simp only [List.length_append, List.length_cons, List.length_nil, hA, hB, hE] at hc; omega) _ _ _
          simp -dsimp [f0, f10, f11, f12, g1, g2, g3, s2, s3]
          simp only [List.length_append, List.length_cons, List.length_nil, hA, hB, hE] at hc ⊢
          refine ihE ha hk hak (by simp only [List.length_append, List.length_cons, List.length_nil]; omega) (by omega) (fun hc => ?_) (fun hc _ _ => ?_)
          rotate_left
          · simp -dsimp; exact panleaf.out (by simp only [List.length_append, List.length_cons, List.length_nil, hA, hB, hE] at hc; omega) _ _ _
          simp -dsimp [f0, f10, f11, f12, g1, g2, g3, s2, s3]
          simp only [List.length_append, List.length_cons, List.length_nil, hA, hB, hE] at hc ⊢
          refine line_call (x := lineOf 2 0 ((bA : Int) + 1)) ha hk hak (by simp only [List.length_append, List.length_cons, List.length_nil]; omega) (fun hc => ?_) (fun hc => ?_)
          rotate_left
          · simp -dsimp; exact panleaf.out (by simp only [List.length_append, List.length_cons, List.length_nil, hA, hB, hE] at hc; omega) _ _ _
          simp -dsimp [f0, f10, f11, f12, g1, g2, g3, s2, s3]
          simp only [List.length_append, List.length_cons, List.length_nil, hA, hB, hE] at hc ⊢
          exact next.out _ _ _ (by rw [← hX]; simp) rfl (by simp; omega)
        · have hk3 : l[i].kind = 3 := hk23.resolve_left hk2
          simp -dsimp [f0, f10, f11, f12, g1, g2, g3, s2, s3, hk3]
          have hX := hXb
          rw [Node.lines_loop l[i] bi hk1 hk2] at hX
          obtain ⟨A, bA, hA⟩ : ∃ A b, nodesLines l[i].ahead (bi + 2) = (A, b) := ⟨_, _, rfl⟩
          obtain ⟨B, bB, hB⟩ : ∃ B b, nodesLines l[i].body bA = (B, b) := ⟨_, _, rfl⟩
          simp only [hA, hB, Prod.mk.injEq] at hX
          obtain ⟨hX, rfl⟩ := hX
          have hbA := lines_le _ l[i].ahead (Nat.le_refl _) (bi + 2)
          have hbB := lines_le _ l[i].body (Nat.le_refl _) bA
          rw [hA] at hbA; rw [hB] at hbB
          have hXl := congrArg List.length hX
          simp only [List.length_append, List.length_cons, List.length_nil] at hXl
          have ihA := @ih l[i].ahead (deep + 1) (by omega) (by omega) hoka
          have ihB := @ih l[i].body (deep + 1) (by omega) (by omega) hokb
          refine label_call (lab := bi) ha hk hak (by omega) ?_
          simp -dsimp [f0, f10, f11, f12, g1, g2, g3, s2, s3]
          refine label_call (lab := bi + 1) ha hk hak (by omega) ?_
          simp -dsimp [f0, f10, f11, f12, g1, g2, g3, s2, s3]
          refine line_call (x := lineOf 2 0 bi) ha hk hak hli (fun hc => ?_) (fun hc => ?_)
          rotate_left
          · simp -dsimp; exact panleaf.out (by (try simp only [List.length_append, List.length_cons, List.length_nil, hA, hB] at hc); omega) _ _ _
          simp -dsimp [f0, f10, f11, f12, g1, g2, g3, s2, s3]
          try simp only [List.length_append, List.length_cons, List.length_nil, hA, hB] at hc ⊢
          refine ihA ha hk hak (by simp only [List.length_append, List.length_cons, List.length_nil]; omega) (by omega) (fun hc => ?_) (fun hc _ _ => ?_)
          rotate_left
          · simp -dsimp; exact panleaf.out (by (try simp only [List.length_append, List.length_cons, List.length_nil, hA, hB] at hc); omega) _ _ _
          simp -dsimp [f0, f10, f11, f12, g1, g2, g3, s2, s3]
          try simp only [List.length_append, List.length_cons, List.length_nil, hA, hB] at hc ⊢
          refine line_call (x := lineOf 4 l[i].cond ((bi : Int) + 1)) ha hk hak (by simp only [List.length_append, List.length_cons, List.length_nil]; omega) (fun hc => ?_) (fun hc => ?_)
          rotate_left
          · simp -dsimp; exact panleaf.out (by (try simp only [List.length_append, List.length_cons, List.length_nil, hA, hB] at hc); omega) _ _ _
          simp -dsimp [f0, f10, f11, f12, g1, g2, g3, s2, s3]
          try simp only [List.length_append, List.length_cons, List.length_nil, hA, hB] at hc ⊢
          refine ihB ha hk hak (by simp only [List.length_append, List.length_cons, List.length_nil]; omega) (by omega) (fun hc => ?_) (fun hc _ _ => ?_)
          rotate_left
          · simp -dsimp; exact panleaf.out (by (try simp only [List.length_append, List.length_cons, List.length_nil, hA, hB] at hc); omega) _ _ _
          simp -dsimp [f0, f10, f11, f12, g1, g2, g3, s2, s3]
          try simp only [List.length_append, List.length_cons, List.length_nil, hA, hB] at hc ⊢
          refine line_call (x := lineOf 3 0 bi) ha hk hak (by simp only [List.length_append, List.length_cons, List.length_nil]; omega) (fun hc => ?_) (fun hc => ?_)
          rotate_left
          · simp -dsimp; exact panleaf.out (by (try simp only [List.length_append, List.length_cons, List.length_nil, hA, hB] at hc); omega) _ _ _
          simp -dsimp [f0, f10, f11, f12, g1, g2, g3, s2, s3]
          try simp only [List.length_append, List.length_cons, List.length_nil, hA, hB] at hc ⊢
          refine line_call (x := lineOf 2 0 ((bi : Int) + 1)) ha hk hak (by simp only [List.length_append, List.length_cons, List.length_nil]; omega) (fun hc => ?_) (fun hc => ?_)
          rotate_left
          · simp -dsimp; exact panleaf.out (by (try simp only [List.length_append, List.length_cons, List.length_nil, hA, hB] at hc); omega) _ _ _
          simp -dsimp [f0, f10, f11, f12, g1, g2, g3, s2, s3]
          try simp only [List.length_append, List.length_cons, List.length_nil, hA, hB] at hc ⊢
          exact next.out _ _ _ (by rw [← hX]; simp) rfl (by simp; omega)
    · rw [drop_end hlt] at he1 he2
      simp only [nodesLines, List.append_nil] at he1 he2
      simp -dsimp [f0, f10, f11, f12]
      exact retleaf.out _ _ _ he1 he2 hli
end Go.Proofs
namespace Go.Proofs
open Go.Mu
abbrev rBox (k : Nat) (es : List (List AV)) (b : Int) : Blk := .box 105 [ownS k es, I b]
theorem under_rBox {n k : Nat} (h : k < n) (es : List (List AV)) (b : Int) : (rBox k es b).under n = true := by simp [Blk.under, underL, under_ownS _ _ _ h, AV.under]
theorem rnodes_call (n : Nat) : ∀ (l : List Node), nodesCount l ≤ n → nodesCount l ≤ 2^36 → ∀ {H : List Blk} {a k : Nat} {es : List (List AV)} {ls : List Line} {b : Int} {lab : Nat} {L : List Blk} {R : AE → List Blk → Prop} {w : Wit R},
    a < H.length → k < H.length → a ≠ k → es = ls.map Line.cells → b = lab → ls.length + 5 * nodesCount l ≤ 2^39 → lab + 2 * nodesCount l ≤ 2^44 →
    R (.ret (.tup [])) (set2 H a (rBox k ((ls ++ (nodesLines l lab).1).map Line.cells) (nodesLines l lab).2) k (ownB 45 11 ((ls ++ (nodesLines l lab).1).map Line.cells)) ++ L) →
    ACallsW Try.prog 43 [.bp a 0, Node.sl l] (set2 H a (rBox k es b) k (ownB 45 11 es) ++ L) R w := by
  induction n with
  | zero =>
    intro l hl hb H a k es ls b lab L R w ha hk hak hes hbl hls hlab h1
    have : l = [] := List.eq_nil_of_length_eq_zero (by have := nodes_len l; omega)
    subst this; subst hes; subst hbl
    refine acalls_of_vc (hn := fun _ => false) (od := fun _ => none) Try.func43 rfl (by kernel_rfl) ?_
    simp -dsimp
    refine loop_rule (hn := fun _ => false) (od := fun _ => none) (fun (i : Nat) f H' => H' = set2 H a (rBox k (ls.map Line.cells) lab) k (ownB 45 11 (ls.map Line.cells)) ++ L ∧ f 1 = Node.sl [] ∧ f 4 = I 0) (fun i => 0) (by kernel_rfl) 0 (by simp) ?_
    rintro i f H' ⟨rfl, h0, h7⟩
    have := h1
    simp only [nodesLines, List.append_nil] at this
    simp -dsimp [h0, h7]
    exact this
  | succ n ih =>
    intro l hl hb H a k es ls b lab L R w ha hk hak hes hbl hls hlab h1
    subst hes; subst hbl
    refine acalls_tidy (acalls_of_vc (hn := fun d => d == 32 || d == 69 || d == 86 || d == 101 || d == 129 || d == 146 || d == 163) (od := fun _ => none) Try.func43 rfl (by kernel_rfl) ?_)
    have under_row : ∀ n (l1 : List Line), (ownB 45 11 (l1.map Line.cells)).under n = true := fun n l1 => under_mkRow n l1
    have hu : ∀ (l1 : List Line) (b1 : Int), underH (set2 H a (rBox k (ls.map Line.cells) lab) k (ownB 45 11 (ls.map Line.cells)) ++ L).length (set2 H a (rBox k (ls.map Line.cells) lab) k (ownB 45 11 (ls.map Line.cells)) ++ L) = true → underH (set2 H a (rBox k (l1.map Line.cells) b1) k (ownB 45 11 (l1.map Line.cells)) ++ L).length (set2 H a (rBox k (l1.map Line.cells) b1) k (ownB 45 11 (l1.map Line.cells)) ++ L) = true := by
      intro l1 b1 h3
      have e : (set2 H a (rBox k (ls.map Line.cells) lab) k (ownB 45 11 (ls.map Line.cells)) ++ L).length = (set2 H a (rBox k (l1.map Line.cells) b1) k (ownB 45 11 (l1.map Line.cells)) ++ L).length := by simp
      rw [e] at h3
      exact underH_m2 ha hk hak h3 (under_rBox (by simp; omega) _ _) (under_row _ _)
    have retleaf : Hid (∀ (l1 : List Line) (b1 : Int) (G : List Blk), l1 = ls ++ (nodesLines l lab).1 → b1 = (nodesLines l lab).2 → Tidy (set2 H a (rBox k (ls.map Line.cells) lab) k (ownB 45 11 (ls.map Line.cells)) ++ L) R (.ret (.tup [])) (set2 H a (rBox k (l1.map Line.cells) b1) k (ownB 45 11 (l1.map Line.cells)) ++ (L ++ G))) := ⟨fun l1 b1 G e1 e2 => by
      rw [← List.append_assoc]
      refine tidy_to (by simp) (hu l1 b1) rfl ?_
      rw [e1, e2]
      exact h1⟩
    clear h1
    have g1 := fun X Y L => m2_getA ha hak X Y L
    have gB := fun X Y L => m2_getB (a := a) hk X Y L
    have g2 := fun X Y L i => m2_getN (H := H) (a := a) (b := k) X Y L i
    have g3 := fun X Y L => m2_getE (H := H) (a := a) (b := k) X Y L
    have s1 := fun X Y Z L => m2_setA ha hak X Y Z L
    have sB := fun X Y Z L => m2_setB (a := a) hk X Y Z L
    have s2 := fun X Y Z L i => m2_setN (H := H) (a := a) (b := k) X Y Z L i
    have s3 := fun X Y Z L => m2_setE (H := H) (a := a) (b := k) X Y Z L
    have hlen := nodes_len l
    simp -dsimp
    refine loop_rule (hn := fun d => d == 32 || d == 69 || d == 86 || d == 101 || d == 129 || d == 146 || d == 163) (od := fun _ => none) (fun (i : Nat) f H' => (∃ (li : List Line) (bi : Nat) (G : List Blk), H' = set2 H a (rBox k (li.map Line.cells) bi) k (ownB 45 11 (li.map Line.cells)) ++ (L ++ G) ∧ li ++ (nodesLines (l.drop i) bi).1 = ls ++ (nodesLines l lab).1 ∧ (nodesLines (l.drop i) bi).2 = (nodesLines l lab).2 ∧ li.length + 5 * nodesCount (l.drop i) ≤ 2^39 ∧ bi + 2 * nodesCount (l.drop i) ≤ 2^44) ∧ f 0 = .bp a 0 ∧ f 1 = Node.sl l ∧ f 4 = I i ∧ i ≤ l.length) (fun i => l.length - i) (by kernel_rfl) 0 (by refine ⟨⟨ls, lab, [], by simp, rfl, rfl, hls, hlab⟩, ?_⟩; simp) ?_
    rintro i f H' ⟨⟨li, bi, G, rfl, he1, he2, hli, hbi⟩, f0, f1, f4, hi⟩
    simp -dsimp [f0, f1, f4]
    refine condVW_introD (fun hlt => ?_) (fun hlt => ?_)
    · have hp := node_parts hlt
      have hcd := nodesCount_drop hlt
      rw [Node.count_eq] at hcd
      obtain ⟨X, b', hXb⟩ : ∃ X b', l[i].lines bi = (X, b') := ⟨_, _, rfl⟩
      have hld := nodesLines_drop hlt bi
      rw [hld] at he1 he2
      simp only [hXb] at he1 he2
      rw [← List.append_assoc] at he1
      have hb'le := lines_le _ [l[i]] (Nat.le_refl _) bi
      simp only [nodesLines, hXb, nodesCount, Node.count_eq, List.append_nil, Nat.add_zero] at hb'le
      have next : Hid (∀ (l1 : List Line) (b1 : Int) (G' : List Blk), l1 = li ++ X → b1 = b' → ∃ y, l.length - y < l.length - i ∧ (∃ li_1 bi_1, (∃ x, set2 H a (rBox k (l1.map Line.cells) b1) k (ownB 45 11 (l1.map Line.cells)) ++ (L ++ G') = set2 H a (rBox k (li_1.map Line.cells) ((bi_1 : Nat) : Int)) k (ownB 45 11 (li_1.map Line.cells)) ++ (L ++ x)) ∧
          li_1 ++ (nodesLines (List.drop y l) bi_1).fst = ls ++ (nodesLines l lab).fst ∧ (nodesLines (List.drop y l) bi_1).snd = (nodesLines l lab).snd ∧ li_1.length + 5 * nodesCount (List.drop y l) ≤ 549755813888 ∧ bi_1 + 2 * nodesCount (List.drop y l) ≤ 17592186044416) ∧
          IntKind.i64.wrap ((i : Int) + 1) = (y : Int) ∧ y ≤ l.length) := ⟨fun l1 b1 G' e1 e2 => by
        subst e1; subst e2
        exact ⟨i + 1, by omega, ⟨_, _, ⟨_, rfl⟩, he1, he2, by simp only [List.length_append]; omega, by omega⟩, wrapS (by omega), by omega⟩⟩
      replace he1 := Hid.mk he1
      replace he2 := Hid.mk he2
      replace hld := Hid.mk hld
      have hw1 : IntKind.i64.wrap ((bi : Int) + 1) = (bi : Int) + 1 := wrapI (by omega) (by omega)
      have hw2 : IntKind.i64.wrap ((bi : Int) + 2) = (bi : Int) + 2 := wrapI (by omega) (by omega)
      simp -dsimp [f0, f1, f4, List.getElem?_eq_getElem, hlt, g1, g2, g3, s1, s2, s3]
      refine condVW_introE (fun hk1 => ?_) (fun hk1 hk1' _ => ?_)
      · have hX := hXb
        rw [Node.lines_ins l[i] bi hk1] at hX
        cases hX
        simp -dsimp [f0, f1, f4, g1, g2, g3, s1, s2, s3, hk1]
        refine appendVW_own (gB _ _ _) (by simp; omega) (by simp; omega) ?_
        simp -dsimp [f0, f1, f4, g1, g2, g3, s1, sB, s2, s3, hk1]
        have := fun G' => next.out (li ++ [⟨1, l[i].ins, 0, 0⟩]) bi G' rfl rfl
        simp only [List.map_append, List.map_cons, List.map_nil, Line.cells] at this
        exact this _
      · simp -dsimp [f0, f1, f4, g1, g2, g3, s1, s2, s3]
        refine condVW_introE (fun hk2 => ?_) (fun hk2 hk2' _ => ?_)
        · have hX := hXb
          rw [Node.lines_if l[i] bi hk2] at hX
          obtain ⟨A, bA, hA⟩ : ∃ A b, nodesLines l[i].ahead bi = (A, b) := ⟨_, _, rfl⟩
          obtain ⟨B, bB, hB⟩ : ∃ B b, nodesLines l[i].body (bA + 2) = (B, b) := ⟨_, _, rfl⟩
          obtain ⟨E, bE, hE⟩ : ∃ E b, nodesLines l[i].els bB = (E, b) := ⟨_, _, rfl⟩
          simp only [hA, hB, hE, Prod.mk.injEq] at hX
          obtain ⟨hX, rfl⟩ := hX
          have hbA := lines_le _ l[i].ahead (Nat.le_refl _) bi
          have hbB := lines_le _ l[i].body (Nat.le_refl _) (bA + 2)
          have hbE := lines_le _ l[i].els (Nat.le_refl _) bB
          rw [hA] at hbA; rw [hB] at hbB; rw [hE] at hbE
          simp only at hbA hbB hbE
          have hwA1 : IntKind.i64.wrap ((bA : Int) + 1) = (bA : Int) + 1 := wrapI (by omega) (by omega)
          have hwA2 : IntKind.i64.wrap ((bA : Int) + 2) = (bA : Int) + 2 := wrapI (by omega) (by omega)
          have ihA := @ih l[i].ahead (by omega) (by omega)
          have ihB := @ih l[i].body (by omega) (by omega)
          have ihE := @ih l[i].els (by omega) (by omega)
          simp -dsimp [f0, f1, f4, g1, g2, g3, s1, sB, s2, s3, hA, hB, hE, hk2, hw1, hw2, hwA1, hwA2]
          refine ihA (ls := li) (lab := bi) ha hk hak rfl rfl (by omega) (by omega) ?_
          simp -dsimp [f0, f1, f4, g1, g2, g3, s1, sB, s2, s3, hA, hB, hE, hw1, hw2, hwA1, hwA2]
          refine appendVW_own (gB _ _ _) (by simp; omega) (by simp; omega) ?_
          simp -dsimp [f0, f1, f4, g1, g2, g3, s1, sB, s2, s3, hA, hB, hE, hw1, hw2, hwA1, hwA2]
          refine ihB (ls := li ++ A ++ [lineOf 4 l[i].cond bA]) (lab := bA + 2) ha hk hak (by simp) (by simp) (by simp only [List.length_append, List.length_cons, List.length_nil]; omega) (by omega) ?_
          simp -dsimp [f0, f1, f4, g1, g2, g3, s1, sB, s2, s3, hA, hB, hE, hw1, hw2, hwA1, hwA2]
          refine appendVW_own (gB _ _ _) (by simp; omega) (by simp; omega) ?_
          simp -dsimp [f0, f1, f4, g1, g2, g3, s1, sB, s2, s3, hA, hB, hE, hw1, hw2, hwA1, hwA2]
          refine ihE (ls := li ++ A ++ [lineOf 4 l[i].cond bA] ++ B ++ [lineOf 3 0 ((bA : Int) + 1), lineOf 2 0 bA]) (lab := bB) ha hk hak (by simp) (by simp) (by simp only [List.length_append, List.length_cons, List.length_nil]; omega) (by omega) ?_
          simp -dsimp [f0, f1, f4, g1, g2, g3, s1, sB, s2, s3, hA, hB, hE, hw1, hw2, hwA1, hwA2]
          refine appendVW_own (gB _ _ _) (by simp; omega) (by simp; omega) ?_
          simp -dsimp [f0, f1, f4, g1, g2, g3, s1, sB, s2, s3, hA, hB, hE, hw1, hw2, hwA1, hwA2]
          have := fun G' => next.out (li ++ X) bE G' rfl rfl
          rw [← hX] at this
          simp at this

          exact this _
        · simp -dsimp [f0, f1, f4, g1, g2, g3, s1, s2, s3, hw1, hw2]
          have hX := hXb
          rw [Node.lines_loop l[i] bi hk1 hk2] at hX
          obtain ⟨A, bA, hA⟩ : ∃ A b, nodesLines l[i].ahead (bi + 2) = (A, b) := ⟨_, _, rfl⟩
          obtain ⟨B, bB, hB⟩ : ∃ B b, nodesLines l[i].body bA = (B, b) := ⟨_, _, rfl⟩
          simp only [hA, hB, Prod.mk.injEq] at hX
          obtain ⟨hX, rfl⟩ := hX
          have hbA := lines_le _ l[i].ahead (Nat.le_refl _) (bi + 2)
          have hbB := lines_le _ l[i].body (Nat.le_refl _) bA
          rw [hA] at hbA; rw [hB] at hbB
          simp only at hbA hbB
          have hwA1 : True := trivial
          have hwA2 : True := trivial
          have ihA := @ih l[i].ahead (by omega) (by omega)
          have ihB := @ih l[i].body (by omega) (by omega)
          refine appendVW_own (gB _ _ _) (by simp; omega) (by simp; omega) ?_
          simp -dsimp [f0, f1, f4, g1, g2, g3, s1, sB, s2, s3, hA, hB, hw1, hw2, hwA1, hwA2]
          refine ihA (ls := li ++ [lineOf 2 0 bi]) (lab := bi + 2) ha hk hak (by simp) (by simp) (by simp only [List.length_append, List.length_cons, List.length_nil]; omega) (by omega) ?_
          simp -dsimp [f0, f1, f4, g1, g2, g3, s1, sB, s2, s3, hA, hB, hw1, hw2, hwA1, hwA2]
          refine appendVW_own (gB _ _ _) (by simp; omega) (by simp; omega) ?_
          simp -dsimp [f0, f1, f4, g1, g2, g3, s1, sB, s2, s3, hA, hB, hw1, hw2, hwA1, hwA2]
          refine ihB (ls := li ++ [lineOf 2 0 bi] ++ A ++ [lineOf 4 l[i].cond ((bi : Int) + 1)]) (lab := bA) ha hk hak (by simp) (by simp) (by simp only [List.length_append, List.length_cons, List.length_nil]; omega) (by omega) ?_
          simp -dsimp [f0, f1, f4, g1, g2, g3, s1, sB, s2, s3, hA, hB, hw1, hw2, hwA1, hwA2]
          refine appendVW_own (gB _ _ _) (by simp; omega) (by simp; omega) ?_
          simp -dsimp [f0, f1, f4, g1, g2, g3, s1, sB, s2, s3, hA, hB, hw1, hw2, hwA1, hwA2]
          have := fun G' => next.out (li ++ X) bB G' rfl rfl
          rw [← hX] at this
          simp at this

          exact this _
    · rw [drop_end hlt] at he1 he2
      simp only [nodesLines, List.append_nil] at he1 he2
      simp -dsimp [f0, f1, f4]
      exact retleaf.out _ _ _ he1 (by rw [he2])
end Go.Proofs
namespace Go.Proofs
open Go.Mu
theorem clone_ok (l : List Int) (hl : l.length ≤ 2^40) (H : List Blk) : ACalls Try.prog 39 [Int.sl l] H (fun e H' => e = .ret (Int.sl l) ∧ H' = H) := by
  refine acalls_under fun hu _ => acalls_tidy (acalls_weakE (acalls_of_vc (hn := fun d => d == 5 || d == 7) (od := fun _ => none) Try.func39 rfl (by kernel_rfl) ?_))
  simp -dsimp
  have own : ∀ (R : AE → List Blk → Prop), R = (Tidy H fun e H' => e = AE.ret (Int.sl l) ∧ H' = H) → WeakE R (.ret (.hs H.length 0 l.length l.length)) (H ++ [.row 3 1 (l.map fun n => [I n])]) := by
    intro R hR
    refine tidy_weak (.refl _) ?_
    rw [hR]
    refine tidy_give hu 0 1 3 (l.map fun n => [I n]) rfl (by simp [AV.frzB]) ?_
    simp only [AV.frz, List.length_map, Nat.add_zero, and_self, if_true, List.drop_zero]
    have : List.take l.length (l.map fun n => [I n]) = l.map fun n => [I n] := List.take_of_length_le (by simp)
    rw [this]
    exact tidy_same rfl ⟨rfl, rfl⟩
  refine slNilW_vs (fun hne => ?_) (fun he => ⟨?_, ?_⟩)
  · simp -dsimp
    refine appendVW_hs (es := []) (by simp) rfl rfl (by simp; omega) (by simp; omega) ?_
    simp -dsimp
    exact own _ rfl
  · have : l = [] := by simpa using he
    subst this
    simp -dsimp
    refine tidy_weak (.nil 1) ?_
    exact tidy_now rfl ⟨rfl, rfl⟩
  · simp -dsimp
    refine appendVW_hs (es := []) (by simp) rfl rfl (by simp; omega) (by simp; omega) ?_
    simp -dsimp
    exact own _ rfl
@[simp] theorem nil20 : binE Try.prog .eql 20 (.v .nilIface) (.v .nilIface) = some (.v (.bool true)) := by kernel_rfl
@[simp] theorem ifc20 (t : Nat) (x : AV) : binE Try.prog .eql 20 (.ifc t x) (.v .nilIface) = some (.v (.bool false)) := by kernel_rfl
/-- What the recovering function does: nothing, or it tells that there are too many lines. -/
theorem rec_none (t2 t3 : Nat) (H : List Blk) : RecSem Try.prog ⟨36, [.bp t2 0, .bp t3 0], none⟩ (.v .nilIface) H (fun H' => H' = H) := by
  refine recSem_of_vc (hn := fun _ => false) (od := fun _ => none) Try.func36 rfl rfl (by kernel_rfl) ?_
  show vcC _ _ _ _ _ (recQ _) _ _ _
  simp -dsimp
abbrev nilS : AV := .v (.slice none 0 0)
theorem rec_some (t2 t3 : Nat) (H : List Blk) (h2 : H[t2]? = some (.box 30 [I 0, nilS, nilS, I 0, nilS])) (h3 : H[t3]? = some (.box 31 [I 0])) (h23 : t2 ≠ t3) : RecSem Try.prog ⟨36, [.bp t2 0, .bp t3 0], none⟩ refV H
    (fun H' => ∃ L, H' = set2 H t2 (.box 30 [I 0, nilS, nilS, I 0, nilS]) t3 (.box 31 [I 13]) ++ L) := by
  refine recSem_of_vc (hn := fun _ => false) (od := fun _ => none) Try.func36 rfl rfl (by kernel_rfl) ?_
  show vcC _ _ _ _ _ (recQ _) _ _ _
  have l2 := lt_of_get h2
  have l3 := lt_of_get h3
  have hH : H = set2 H t2 (.box 30 [I 0, nilS, nilS, I 0, nilS]) t3 (.box 31 [I 0]) ++ [] := by rw [set2_same h2 h3]; simp
  rw [hH]
  clear h2 h3
  have g1 := fun X Y L => m2_getA l2 h23 X Y L
  have g2 := fun X Y L => m2_getB (a := t2) l3 X Y L
  have g3 := fun X Y L i => m2_getN (H := H) (a := t2) (b := t3) X Y L i
  have g4 := fun X Y L => m2_getE (H := H) (a := t2) (b := t3) X Y L
  have s1 := fun X Y Z L => m2_setA l2 h23 X Y Z L
  have s2 := fun X Y Z L => m2_setB (a := t2) l3 X Y Z L
  have s4 := fun X Y Z L => m2_setE (H := H) (a := t2) (b := t3) X Y Z L
  clear hH
  simp -dsimp [assertV, g1, g2, g3, g4, s1, s2, s4]
  exact ⟨[.box 93 []], by rw [set2_set2 l2 l3 h23]⟩
/-- What making linear code of flat code comes to. -/
def MakeR (f : Flat) (H : List Blk) (e : AE) (H' : List Blk) : Prop :=
  ∃ (l : Linear) (n : Int), e = .ret (.tup [.agg l.cells, I n]) ∧ H' = H ∧ (f.ok = false → n = 2 ∧ l = ⟨0, [], [], 0, []⟩) ∧
    (f.ok = true → ((nodesLines f.code 0).1.length < 65536 → n = 0 ∧ l = ⟨f.vars, f.params, f.rets, f.frame, (nodesLines f.code 0).1 ++ [lineOf 5 0 0]⟩) ∧ (65536 ≤ (nodesLines f.code 0).1.length → n = 13))
theorem make_ok (f : Flat) (hp : f.params.length ≤ 2^40) (hr : f.rets.length ≤ 2^40) (hc : nodesCount f.code ≤ 2^36) (H : List Blk) : ACalls Try.prog 11 [.agg f.cells] H (MakeR f H) := by
  refine acalls_under fun hu _ => acalls_tidy (acalls_weakE (acalls_spare 1 (acalls_of_vcD (hn := fun _ => false) (od := fun _ => none) Try.func11 rfl (by kernel_rfl) ?_)))
  have hmay := fun H => may_ok f hp hr (by omega) H
  simp only [Flat.cells] at hmay
  simp -dsimp
  refine acallsW_det (hmay _) ?_
  simp -dsimp
  have hweak : Weak (.tup [.agg [I 0, nilS, nilS, I 0, nilS], I 2]) (.tup [.agg (Linear.mk 0 [] [] 0 []).cells, I 2]) :=
    .tupL (.cons (.aggL (.cons (.refl _) (.cons (.nil 1) (.cons (.nil 1) (.cons (.refl _) (.cons (.nil 11) .nil)))))) (.cons (.refl _) .nil))
  have hweak13 : Weak (.tup [.agg [I 0, nilS, nilS, I 0, nilS], I 13]) (.tup [.agg (Linear.mk 0 [] [] 0 []).cells, I 13]) :=
    .tupL (.cons (.aggL (.cons (.refl _) (.cons (.nil 1) (.cons (.nil 1) (.cons (.refl _) (.cons (.nil 11) .nil)))))) (.cons (.refl _) .nil))
  refine condVW_introB (fun hok => ?_) (fun hok => ?_)
  · simp -dsimp
    exact tidy_weak hweak (tidy_same rfl ⟨_, 2, rfl, rfl, fun _ => ⟨rfl, rfl⟩, fun h => absurd h (by simp [hok])⟩)
  · have hnok : nodesOk f.vars 1 f.code = true := by simp only [Flat.ok, Bool.and_eq_true] at hok; exact hok.2
    have hcount : nodesCount f.code ≤ 16384 := by simp only [Flat.ok, Bool.and_eq_true, decide_eq_true_eq] at hok; exact hok.1.2
    obtain ⟨N, lb, hN⟩ : ∃ N lb, nodesLines f.code 0 = (N, lb) := ⟨_, _, rfl⟩
    simp -dsimp
    obtain ⟨M, hM⟩ : ∃ M, M = H ++ [Blk.pend, Blk.box 25 [I f.vars, Int.sl f.params, Int.sl f.rets, I f.frame, Node.sl f.code], .box 30 [I 0, nilS, nilS, I 0, nilS], .box 31 [I 0], .box 96 [nilS, I 0]] := ⟨_, rfl⟩
    have hMl : M.length = H.length + 5 := by rw [hM]; simp
    have hM0 : M = set2 M (H.length + 4) (mkBox 96 H.length [] 0) H.length (mkRow []) ++ [] := by
      rw [List.append_nil, set2_same]
      · rw [hM]; simp [mkBox]
      · rw [hM]; simp [mkRow]
    have fold : ∀ X Y L, set2 M (H.length + 4) X H.length Y ++ L = H ++ ([Y, Blk.box 25 [I f.vars, Int.sl f.params, Int.sl f.rets, I f.frame, Node.sl f.code], .box 30 [I 0, nilS, nilS, I 0, nilS], .box 31 [I 0], X] ++ L) := by
      intro X Y L; rw [hM]; simp [set2]
    have fold0 : ∀ X Y, set2 M (H.length + 4) X H.length Y = H ++ [Y, Blk.box 25 [I f.vars, Int.sl f.params, Int.sl f.rets, I f.frame, Node.sl f.code], .box 30 [I 0, nilS, nilS, I 0, nilS], .box 31 [I 0], X] := by
      intro X Y; have := fold X Y []; simpa using this
    have pan : ∀ (L : List Blk) (h65 : 65536 ≤ N.length), WeakE (Tidy H (MakeR f H)) (.ret (.tup [.agg [I 0, nilS, nilS, I 0, nilS], I 13])) (H ++ L) := fun L h65 =>
      tidy_weak hweak13 (tidy_same rfl ⟨_, 13, rfl, rfl, fun h => absurd h (by simp [hok]), fun _ => by rw [hN]; exact ⟨fun h => by simp only at h; omega, fun _ => rfl⟩⟩)
    rw [← hM, hM0]
    refine nodes_call f.vars _ f.code 1 (Nat.le_refl _) (by omega) hnok (by omega) (by omega) (by omega) (by simp) (by omega) (fun h65 => ?_) (fun h65 ls' lab' => ?_)
    rotate_left
    · rw [hN] at h65
      simp -dsimp [fold0]
      refine recW_of (rec_some (H.length + 2) (H.length + 3) _ (by simp) (by simp) (by omega)) ?_
      rintro H' ⟨L, rfl⟩
      simp -dsimp [set2]
      exact pan _ (by simp at h65; omega)
    rw [hN] at h65 ⊢
    simp only [List.nil_append, List.length_nil, Nat.zero_add] at h65 ⊢
    simp -dsimp
    have e : set2 M (H.length + 4) (mkBox 96 H.length N lb) H.length (mkRow N) = set2 M (H.length + 4) (mkBox 96 H.length N lb) H.length (mkRow N) ++ [] := by simp
    rw [e]
    refine line_call (x := lineOf 5 0 0) (H := M) (a := H.length + 4) (k := H.length) (by omega) (by omega) (by omega) (by omega) (fun hc => ?_) (fun hc => ?_)
    rotate_left
    · simp -dsimp [fold0]
      refine recW_of (rec_some (H.length + 2) (H.length + 3) _ (by simp) (by simp) (by omega)) ?_
      rintro H' ⟨L, rfl⟩
      simp -dsimp [set2]
      exact pan _ (by omega)
    have hcl1 := clone_ok f.params hp
    have hcl2 := clone_ok f.rets hr
    rw [fold]
    simp -dsimp [mkBox, mkRow]
    refine callDW_intro (hcl1 _) ?_
    simp -dsimp
    refine callDW_intro (hcl2 _) ?_
    simp -dsimp
    refine recW_of (rec_none _ _ _) ?_
    rintro H' rfl
    simp -dsimp
    obtain ⟨es, hes⟩ : ∃ es, es = (N ++ [lineOf 5 0 0]).map Line.cells := ⟨_, rfl⟩
    have hes2 : List.map Line.cells N ++ [[I 5, I 0, I 0, I 0, I 0, I 0, I 0, U 0, Bo false, I 0, I 0]] = es := by rw [hes]; simp
    have hne : es ≠ [] := by rw [hes]; simp
    have hz : es.flatten.all AV.frzB = true := by
      rw [hes, List.all_eq_true]
      intro c hc
      obtain ⟨e, he, hce⟩ := List.mem_flatten.1 hc
      obtain ⟨x, _, rfl⟩ := List.mem_map.1 he
      simp at hce
      rcases hce with rfl | rfl | rfl | rfl | rfl | rfl | rfl | rfl | rfl | rfl | rfl <;> rfl
    rw [hes2]
    refine tidy_weak (.refl _) ?_
    rw [ownB, if_neg hne]
    have hfz : (AV.tup [.agg [I f.vars, Int.sl f.params, Int.sl f.rets, I f.frame, ownS H.length es], I 0]).frz H.length 11 es = .tup [.agg [I f.vars, Int.sl f.params, Int.sl f.rets, I f.frame, .vs 11 es], I 0] := by
      simp [AV.frz, frzL, frz_own _ _ _ hne]
    refine tidy_give1 hu 11 45 es hz ?_ ?_
    · rw [hfz]; rfl
    · rw [hfz]
      refine ⟨⟨f.vars, f.params, f.rets, f.frame, N ++ [lineOf 5 0 0]⟩, 0, by rw [hes]; rfl, rfl, fun h => absurd h (by simp [hok]), fun _ => ?_⟩
      rw [hN]
      exact ⟨fun _ => ⟨rfl, rfl⟩, fun h => by simp only at h; omega⟩
end Go.Proofs
namespace Go.Proofs
open Go.Mu
def RMakeR (f : Flat) (H : List Blk) (e : AE) (H' : List Blk) : Prop :=
  e = .ret (.tup [.agg (Linear.mk f.vars f.params f.rets f.frame ((nodesLines f.code 0).1 ++ [lineOf 5 0 0])).cells, Bo (decide ((nodesLines f.code 0).1.length < 65536))]) ∧ H' = H
theorem end_row (N : List Line) : ∃ es, es = (N ++ [lineOf 5 0 0]).map Line.cells ∧ List.map Line.cells N ++ [[I 5, I 0, I 0, I 0, I 0, I 0, I 0, U 0, Bo false, I 0, I 0]] = es ∧ es ≠ [] ∧ es.flatten.all AV.frzB = true := by
  refine ⟨_, rfl, by simp, by simp, ?_⟩
  rw [List.all_eq_true]
  intro c hc
  obtain ⟨e, he, hce⟩ := List.mem_flatten.1 hc
  obtain ⟨x, _, rfl⟩ := List.mem_map.1 he
  simp at hce
  rcases hce with rfl | rfl | rfl | rfl | rfl | rfl | rfl | rfl | rfl | rfl | rfl <;> rfl
theorem rmake_ok (f : Flat) (hc : nodesCount f.code ≤ 2^36) (H : List Blk) : ACalls Try.prog 14 [.agg f.cells] H (RMakeR f H) := by
  refine acalls_under fun hu _ => acalls_tidy (acalls_spare 1 (acalls_of_vc (hn := fun d => d == 10 || d == 18) (od := fun i => if i = 4 then some [(0, []), (1, []), (2, []), (3, []), (4, []), (5, []), (6, []), (7, []), (8, []), (9, []), (10, []), (11, []), (12, []), (13, []), (14, []), (15, []), (16, []), (17, []), (18, []), (19, [13, 14, 15, 16, 17, 18]), (20, [])] else none) Try.func14 rfl (by kernel_rfl) ?_))
  simp -dsimp
  obtain ⟨M, hM⟩ : ∃ M, M = H ++ [Blk.pend, Blk.box 25 [I f.vars, Int.sl f.params, Int.sl f.rets, I f.frame, Node.sl f.code], .box 30 [I 0, nilS, nilS, I 0, nilS], .box 105 [nilS, I 0]] := ⟨_, rfl⟩
  have hMl : M.length = H.length + 4 := by rw [hM]; simp
  have hM0 : M = set2 M (H.length + 3) (rBox H.length [] 0) H.length (ownB 45 11 []) ++ [] := by
    rw [List.append_nil, set2_same]
    · rw [hM]; simp
    · rw [hM]; simp
  have fold : ∀ X Y L, set2 M (H.length + 3) X H.length Y ++ L = H ++ ([Y, Blk.box 25 [I f.vars, Int.sl f.params, Int.sl f.rets, I f.frame, Node.sl f.code], .box 30 [I 0, nilS, nilS, I 0, nilS], X] ++ L) := by
    intro X Y L; rw [hM]; simp [set2]
  have hle := lines_le _ f.code (Nat.le_refl _) 0
  rw [← hM, hM0]
  refine rnodes_call _ f.code (Nat.le_refl _) hc (ls := []) (lab := 0) (by omega) (by omega) (by omega) rfl rfl (by simp; omega) (by omega) ?_
  rw [fold]
  obtain ⟨N, lb, hN⟩ : ∃ N lb, nodesLines f.code 0 = (N, lb) := ⟨_, _, rfl⟩
  rw [hN] at hle ⊢
  simp only at hle
  simp only [List.nil_append]
  simp -dsimp
  refine appendVW_own (by simp) (by simp; omega) (by simp; omega) ?_
  obtain ⟨es, hes, hes2, hne, hz⟩ := end_row N
  have hesl : es.length = N.length + 1 := by rw [hes]; simp
  have hl1 : ∀ L, lenV (H ++ ownB 45 11 es :: L) 1 (ownS H.length es) = some (es.length : Int) := fun L => lenV_ownS (t := 45) (sz := 11) (by simp)
  simp -dsimp [hes2, hl1, hesl]
  rw [ownB, if_neg hne]
  have hfz : (AV.tup [.agg [I f.vars, Int.sl f.params, Int.sl f.rets, I f.frame, ownS H.length es], Bo (decide ((N.length : Int) + 1 ≤ 65536))]).frz H.length 11 es = .tup [.agg [I f.vars, Int.sl f.params, Int.sl f.rets, I f.frame, .vs 11 es], Bo (decide ((N.length : Int) + 1 ≤ 65536))] := by
    simp [AV.frz, frzL, frz_own _ _ _ hne]
  have hdec : decide (N.length < 65536) = decide ((N.length : Int) + 1 ≤ 65536) := by rw [Bool.eq_iff_iff]; simp; omega
  refine tidy_give1 hu 11 45 es hz ?_ ?_
  · rw [hfz]; rfl
  · rw [hfz]
    refine ⟨?_, rfl⟩
    rw [hN, hdec, hes]; rfl
theorem line_nq (x y : Line) : binE Try.prog .neq 45 (.agg x.cells) (.agg y.cells) = some (Bo (!decide (x = y))) := by
  simp only [Line.cells, I, U, Bo]
  rw [Try.nq45]
  congr 3
  congr 1
  rw [Bool.eq_iff_iff]
  simp [Line.ext_iff, Ins.ext_iff]
theorem take_next {α : Type} {a b : List α} {i : Nat} (ha : i < a.length) (hb : i < b.length) (h : a.take i = b.take i) (he : a[i] = b[i]) : a.take (i + 1) = b.take (i + 1) := by
  rw [List.take_succ_eq_append_getElem ha, List.take_succ_eq_append_getElem hb, h, he]
theorem same_ok (a b : Linear) (h1 : a.params.length ≤ 2^40) (h2 : a.rets.length ≤ 2^40) (h3 : a.code.length ≤ 2^40) (H : List Blk) : ACalls Try.prog 13 [.agg a.cells, .agg b.cells] H (fun e H' => e = .ret (Bo (decide (a = b))) ∧ H' = H) := by
  refine acalls_tidy (acalls_of_vc (hn := fun d => false) (od := fun i => none) Try.func13 rfl (by kernel_rfl) ?_)
  have leaf : ∀ (L : List Blk) (c : Bool), c = decide (a = b) → Tidy H (fun e H' => e = AE.ret (Bo (decide (a = b))) ∧ H' = H) (AE.ret (AV.v (Value.bool c))) (H ++ L) := fun L c hb => tidy_same rfl ⟨by rw [hb], rfl⟩
  replace leaf := Hid.mk leaf
  have hs1 := fun H => sameInts_ok a.params b.params H h1
  have hs2 := fun H => sameInts_ok a.rets b.rets H h2
  have hnq := fun (x y : Line) => line_nq x y
  simp only [Line.cells] at hnq
  simp -dsimp
  repeat' ((with_reducible first | refine And.intro ?_ ?_ | refine guardVW_introTD (fun _ => ?_) (fun _ => ?_) | refine guardVW_introFD (fun _ => ?_) (fun _ => ?_) | refine condVW_introD (fun _ => ?_) (fun _ => ?_) | refine guardVW_introTE (fun _ => ?_) (fun _ _ _ => ?_) | refine guardVW_introFE (fun _ => ?_) (fun _ _ _ => ?_) | refine condVW_introE (fun _ => ?_) (fun _ _ _ => ?_) | refine guardVW_introTNE (fun _ _ _ => ?_) (fun _ => ?_) | refine guardVW_introFNE (fun _ _ _ => ?_) (fun _ => ?_) | refine condVW_introNE (fun _ _ _ => ?_) (fun _ => ?_) | refine guardVW_introTB (fun _ => ?_) (fun _ => ?_) | refine guardVW_introFB (fun _ => ?_) (fun _ => ?_) | refine condVW_introB (fun _ => ?_) (fun _ => ?_) | refine guardVW_introT (fun _ => ?_) (fun _ => ?_) | refine guardVW_introF (fun _ => ?_) (fun _ => ?_) | refine condVW_intro (fun _ => ?_) (fun _ => ?_) | refine acallsW_det (hs1 _) ?_ | refine callDW_intro (hs1 _) ?_ | refine acallsW_det (hs2 _) ?_ | refine callDW_intro (hs2 _) ?_) <;> simp -dsimp [*])
  case refine_2.refine_2.refine_2.refine_2.refine_2 e1 e2 e3 e4 e5 =>
    simp at e3 e4
    have e5' : a.code.length = b.code.length := by omega
    refine loop_rule (hn := fun _ => false) (od := fun _ => none) (fun (i : Nat) f H' => H' = H ++ [Blk.box 30 [I b.vars, Int.sl a.params, Int.sl a.rets, I b.frame, Line.sl a.code], Blk.box 30 [I b.vars, Int.sl b.params, Int.sl b.rets, I b.frame, Line.sl b.code]] ∧ f 2 = .bp H.length 0 ∧ f 3 = .bp (H.length + 1) 0 ∧ f 5 = I i ∧ i ≤ a.code.length ∧ a.code.take i = b.code.take i) (fun i => a.code.length - i) (by kernel_rfl) 0 (by simp) ?_
    rintro i f H' ⟨rfl, f2, f3, f5, hi, hok⟩
    simp -dsimp [f2, f3, f5]
    refine condVW_introD (fun hlt => ?_) (fun hlt => ?_)
    · have hlt' : i < b.code.length := by omega
      have hab : a = b → a.code[i] = b.code[i] := by rintro rfl; rfl
      simp -dsimp [f2, f3, f5, List.getElem?_eq_getElem, hlt, hlt', hnq]
      refine condVW_intro (fun hne => ?_) (fun heq => ?_)
      · simp -dsimp
        refine leaf.out _ _ ?_
        simp only [Bool.not_eq_true', decide_eq_false_iff_not] at hne
        symm; rw [decide_eq_false_iff_not]; exact fun h => hne (hab h)
      · simp only [Bool.not_eq_false', decide_eq_true_eq] at heq
        simp -dsimp [f2, f3, f5]
        exact ⟨i + 1, by omega, wrapS (by omega), by omega, take_next hlt hlt' hok heq⟩
    · simp -dsimp [f2, f3, f5]
      rw [List.take_of_length_le (by omega), List.take_of_length_le (by omega)] at hok
      refine leaf.out _ _ ?_
      cases a; cases b
      simp_all
  all_goals refine leaf.out _ _ ?_
  all_goals (symm; rw [decide_eq_false_iff_not]; rintro rfl; simp_all)
end Go.Proofs
namespace Go.Proofs
open Go.Mu
/-- A map that tells which labels stand. -/
def stand (ls : List Int) : List (Value × AV) := ls.map fun n => (.int .i64 n, .agg [Bo true])
theorem sameNow_i64 (a b : Int) : Instr.sameNow (.int .i64) (.int .i64 a) (.int .i64 b) = some (a == b) := by rfl
theorem stand_find (n : Int) (ls : List Int) : mfind (.int .i64) (.int .i64 n) (stand ls) = some (if n ∈ ls then some (.agg [Bo true]) else none) := by
  induction ls with
  | nil => rfl
  | cons a l ih =>
    have : stand (a :: l) = (.int .i64 a, .agg [Bo true]) :: stand l := rfl
    rw [this, mfind, sameNow_i64]
    by_cases h : n = a
    · subst h; simp
    · have e : (n == a) = false := by simp [h]
      rw [e]; simp only [ih, List.mem_cons, h, false_or]
theorem stand_set (n : Int) (ls : List Int) (h : n ∉ ls) : mset (.int .i64) (.int .i64 n) (.agg [Bo true]) (stand ls) = some (stand (ls ++ [n])) := by
  induction ls with
  | nil => rfl
  | cons a l ih =>
    have : stand (a :: l) = (.int .i64 a, .agg [Bo true]) :: stand l := rfl
    simp only [List.mem_cons, not_or] at h
    have e : (n == a) = false := by simp [h.1]
    rw [this, mset, sameNow_i64, e]
    simp only [ih h.2]; rfl
@[simp] theorem avz107 : assertV.avZ (Value.agg #[Value.bool false]) = .agg [Bo false] := (rfl)
theorem jumps_ok (x : Line) (ls : List Int) (k m : Nat) (H : List Blk) (hk : H[k]? = some (.box 106 [.hm m])) (hm : H[m]? = some (.map (stand ls))) :
    ACalls Try.prog 45 [.agg x.cells, .bp k 0] H (fun e H' => e = .ret (Bo ((x.kind == 3 || x.kind == 4) && !decide (x.label ∈ ls))) ∧ H' = H) := by
  have hkl : k < H.length := (List.getElem?_eq_some_iff.1 hk).1
  have hml : m < H.length := (List.getElem?_eq_some_iff.1 hm).1
  have hk' : ∀ L, (H ++ L)[k]? = some (.box 106 [.hm m]) := fun L => by rw [List.getElem?_append_left hkl, hk]
  have hm' : ∀ L, mapEs (H ++ L) (.hm m) = some (stand ls) := fun L => by simp only [mapEs]; rw [List.getElem?_append_left hml, hm]
  have hf := stand_find x.label ls
  refine acalls_tidy (acalls_of_vc (hn := fun _ => false) (od := fun _ => none) Try.func45 rfl (by kernel_rfl) ?_)
  simp -dsimp
  by_cases hmem : x.label ∈ ls
  all_goals (simp only [hmem, if_true, if_false] at hf)
  all_goals repeat' ((with_reducible first | refine And.intro ?_ ?_ | refine guardVW_introTD (fun _ => ?_) (fun _ => ?_) | refine guardVW_introFD (fun _ => ?_) (fun _ => ?_) | refine condVW_introD (fun _ => ?_) (fun _ => ?_) | refine guardVW_introTE (fun _ => ?_) (fun _ _ _ => ?_) | refine guardVW_introFE (fun _ => ?_) (fun _ _ _ => ?_) | refine condVW_introE (fun _ => ?_) (fun _ _ _ => ?_) | refine guardVW_introTNE (fun _ _ _ => ?_) (fun _ => ?_) | refine guardVW_introFNE (fun _ _ _ => ?_) (fun _ => ?_) | refine condVW_introNE (fun _ _ _ => ?_) (fun _ => ?_) | refine guardVW_introTB (fun _ => ?_) (fun _ => ?_) | refine guardVW_introFB (fun _ => ?_) (fun _ => ?_) | refine condVW_introB (fun _ => ?_) (fun _ => ?_) | refine guardVW_introT (fun _ => ?_) (fun _ => ?_) | refine guardVW_introF (fun _ => ?_) (fun _ => ?_) | refine condVW_intro (fun _ => ?_) (fun _ => ?_)) <;> simp -dsimp [*])
  all_goals exact tidy_same rfl ⟨by simp [*], rfl⟩
end Go.Proofs
namespace Go.Proofs
open Go.Mu
/-- May a line be, where these labels stand; and which labels stand then. -/
def lineSeen (vars : Int) (x : Line) (seen : List Int) : Option (List Int) :=
  if x.kind = 1 then (if ((Flat.mk vars [] [] 0 [.mk 1 x.ins 0 [] [] []]).ok && (x.var == 0 && x.label == 0)) = true then some seen else none)
  else if x.kind = 2 then (if x.label ∈ seen then none else if x.ins = zeroIns ∧ x.var = 0 ∧ 0 ≤ x.label then some (seen ++ [x.label]) else none)
  else if x.kind = 4 then (if (0 ≤ x.var ∧ x.var < vars) ∧ x.ins = zeroIns ∧ 0 ≤ x.label then some seen else none)
  else if x.kind = 3 then (if x.ins = zeroIns ∧ x.var = 0 ∧ 0 ≤ x.label then some seen else none)
  else if x.kind = 5 then (if x.ins = zeroIns ∧ x.var = 0 ∧ x.label = 0 then some seen else none)
  else none
def linesSeen (vars : Int) : List Line → List Int → Option (List Int)
  | [], s => some s
  | x :: l, s => (lineSeen vars x s).bind (linesSeen vars l)
def jumps (s : List Int) (x : Line) : Bool := (x.kind == 3 || x.kind == 4) && !decide (x.label ∈ s)
def Linear.ok (l : Linear) : Bool :=
  decide (l.code.length ≤ 65536) && (Flat.mk l.vars l.params l.rets l.frame []).ok && (match linesSeen l.vars l.code [] with | none => false | some s => !l.code.any (jumps s))
theorem linear_ok (l : Linear) (hp : l.params.length ≤ 2^40) (hr : l.rets.length ≤ 2^40) (hc : l.code.length ≤ 2^40) (H : List Blk) : ACalls Try.prog 15 [.agg l.cells] H (fun e H' => e = .ret (Bo l.ok) ∧ H' = H) := by
  refine acalls_tidy (acalls_of_vc (hn := fun _ => false) (od := fun _ => none) Try.func15 rfl (by kernel_rfl) ?_)
  have leaf : ∀ (L : List Blk) (c : Bool), c = l.ok → Tidy H (fun e H' => e = AE.ret (Bo l.ok) ∧ H' = H) (AE.ret (AV.v (Value.bool c))) (H ++ L) := fun L c hb => tidy_same rfl ⟨by rw [hb], rfl⟩
  replace leaf := Hid.mk leaf
  have hm1 := fun H => acalls_weak (args := [.agg [I l.vars, Int.sl l.params, Int.sl l.rets, I l.frame, nilS]]) (.cons (.aggL (.cons (.refl _) (.cons (.refl _) (.cons (.refl _) (.cons (.refl _) (.cons (.nil 13) .nil)))))) .nil) (may_ok ⟨l.vars, l.params, l.rets, l.frame, []⟩ hp hr (by simp [nodesCount]) H)
  have hm2 := fun (x : Line) H => acalls_weak (args := [.agg [I l.vars, nilS, nilS, I 0, .vs 13 [[I 1, I x.ins.kind, I x.ins.op, I x.ins.d, I x.ins.a, I x.ins.b, I x.ins.c, U x.ins.word, Bo x.ins.stack, I 0, nilS, nilS, nilS]]]])
    (.cons (.aggL (.cons (.refl _) (.cons (.nil 1) (.cons (.nil 1) (.cons (.refl _) (.cons (.vsR (.cons (.append (.refl [I 1, I x.ins.kind, I x.ins.op, I x.ins.d, I x.ins.a, I x.ins.b, I x.ins.c, U x.ins.word, Bo x.ins.stack, I 0]) (.cons (.nil 13) (.cons (.nil 13) (.cons (.nil 13) .nil)))) .nil)) .nil)))))) .nil)
    (may_ok ⟨l.vars, [], [], 0, [.mk 1 x.ins 0 [] [] []]⟩ (by simp) (by simp) (by simp [nodesCount, Node.count]) H)
  simp -dsimp
  repeat' ((with_reducible first | refine And.intro ?_ ?_ | refine guardVW_introTD (fun _ => ?_) (fun _ => ?_) | refine guardVW_introFD (fun _ => ?_) (fun _ => ?_) | refine condVW_introD (fun _ => ?_) (fun _ => ?_) | refine guardVW_introTE (fun _ => ?_) (fun _ _ _ => ?_) | refine guardVW_introFE (fun _ => ?_) (fun _ _ _ => ?_) | refine condVW_introE (fun _ => ?_) (fun _ _ _ => ?_) | refine guardVW_introTNE (fun _ _ _ => ?_) (fun _ => ?_) | refine guardVW_introFNE (fun _ _ _ => ?_) (fun _ => ?_) | refine condVW_introNE (fun _ _ _ => ?_) (fun _ => ?_) | refine guardVW_introTB (fun _ => ?_) (fun _ => ?_) | refine guardVW_introFB (fun _ => ?_) (fun _ => ?_) | refine condVW_introB (fun _ => ?_) (fun _ => ?_) | refine guardVW_introT (fun _ => ?_) (fun _ => ?_) | refine guardVW_introF (fun _ => ?_) (fun _ => ?_) | refine condVW_intro (fun _ => ?_) (fun _ => ?_) | refine acallsW_det (hm1 _) ?_ | refine callDW_intro (hm1 _) ?_) <;> simp -dsimp [*])
  · refine leaf.out _ _ ?_
    rename_i h
    simp [Linear.ok]; omega
  · refine leaf.out _ _ ?_
    rename_i h
    simp [Linear.ok, h]
  rename_i h64 hhead
  have hl64 : l.code.length ≤ 65536 := by omega
  obtain ⟨M, hM⟩ : ∃ M, M = H ++ [Blk.box 30 [I l.vars, Int.sl l.params, Int.sl l.rets, I l.frame, Line.sl l.code], .map [], .box 106 [.hm (H.length + 1)]] := ⟨_, rfl⟩
  have hMl : M.length = H.length + 3 := by rw [hM]; simp
  have hM0 : M = M.set (H.length + 1) (.map (stand [])) ++ [] := by
    rw [List.append_nil, hM]; simp [stand]
  rw [← hM]
  refine loop_rule (hn := fun _ => false) (od := fun _ => none) (fun (i : Nat) f H' => (∃ seen L, H' = M.set (H.length + 1) (.map (stand seen)) ++ L ∧ linesSeen l.vars (l.code.drop i) seen = linesSeen l.vars l.code []) ∧ f 1 = .bp H.length 0 ∧ f 3 = .bp (H.length + 2) 0 ∧ f 26 = Line.sl l.code ∧ f 27 = I l.code.length ∧ f 28 = I i ∧ i ≤ l.code.length) (fun i => l.code.length - i) (by kernel_rfl) 0 (by refine ⟨⟨[], [], hM0, rfl⟩, ?_⟩; simp) ?_
  rintro i f H' ⟨⟨seen, L, rfl, hseen⟩, f1, f3, f26, f27, f28, hi⟩
  have back : ∀ X, ∃ X', M.set (H.length + 1) (.map (stand seen)) ++ L ++ X = H ++ X' := by
    intro X; rw [hM, List.set_append_right _ _ (by omega)]; simp only [List.append_assoc]; exact ⟨_, rfl⟩
  obtain ⟨N, hN⟩ : ∃ N, N = M.set (H.length + 1) (.map (stand seen)) ++ L := ⟨_, rfl⟩
  have hNl : H.length + 1 < N.length := by rw [hN]; simp; omega
  have g1 : ∀ X, (N ++ X)[H.length]? = some (Blk.box 30 [I l.vars, Int.sl l.params, Int.sl l.rets, I l.frame, Line.sl l.code]) := by
    intro X; rw [hN, hM]; simp
  have g2 : ∀ X, (N ++ X)[H.length + 2]? = some (.box 106 [.hm (H.length + 1)]) := by
    intro X; rw [hN, hM]; simp
  have g3 : ∀ X, mapEs (N ++ X) (.hm (H.length + 1)) = some (stand seen) := by
    intro X; rw [hN, hM]; simp [mapEs]
  have g1' : ∀ Y X, (N.set (H.length + 1) Y ++ X)[H.length]? = some (Blk.box 30 [I l.vars, Int.sl l.params, Int.sl l.rets, I l.frame, Line.sl l.code]) := by
    intro Y X; rw [hN, hM]; simp
  rw [← hN]
  have gs : ∀ X Y, (N ++ X).set (H.length + 1) Y = N.set (H.length + 1) Y ++ X := by
    intro X Y; rw [List.set_append_left _ _ hNl]
  have e1 := fun Y X => m1_getE (H := N) (k := H.length + 1) Y X
  have e2 := fun Y X j => m1_getN (H := N) (k := H.length + 1) Y X j
  have e3 := fun Y Z X => m1_setE (H := N) (k := H.length + 1) Y Z X
  have e4 := fun Y Z X j => m1_setN (H := N) (k := H.length + 1) Y Z X j
  have hkM : H.length + 1 < M.length := by omega
  have backL : ∀ Y X, ∃ X', N.set (H.length + 1) Y ++ X = H ++ X' := by
    intro Y X; rw [hN, m1_set hkM, hM, List.set_append_right _ _ (by omega)]; simp only [List.append_assoc]; exact ⟨_, rfl⟩
  replace back := Hid.mk back
  replace backL := Hid.mk backL
  replace hM := Hid.mk hM
  replace hM0 := Hid.mk hM0
  replace hN := Hid.mk hN
  replace hseen := Hid.mk hseen
  replace hi := Hid.mk hi
  simp -dsimp [f1, f3, f26, f27, f28]
  refine condVW_introD (fun hlt => ?_) (fun hlt => ?_)
  · have hf := stand_find l.code[i].label seen
    have hset := stand_set l.code[i].label seen
    have fail : Hid (lineSeen l.vars l.code[i] seen = none → ∀ X, Tidy H (fun e H' => e = AE.ret (Bo l.ok) ∧ H' = H) (AE.ret (AV.v (Value.bool false))) (N ++ X)) := ⟨fun h X => by
      obtain ⟨X', hX⟩ := back.out X
      rw [hN.out, hX]
      refine leaf.out _ _ ?_
      have h2 := hseen.out
      rw [drop_cons hlt, linesSeen, h] at h2
      simp only [Option.bind_none] at h2
      simp [Linear.ok, ← h2]⟩
    have failL : Hid (lineSeen l.vars l.code[i] seen = none → ∀ Y X, Tidy H (fun e H' => e = AE.ret (Bo l.ok) ∧ H' = H) (AE.ret (AV.v (Value.bool false))) (N.set (H.length + 1) Y ++ X)) := ⟨fun h Y X => by
      obtain ⟨X', hX⟩ := backL.out Y X
      rw [hX]
      refine leaf.out _ _ ?_
      have h2 := hseen.out
      rw [drop_cons hlt, linesSeen, h] at h2
      simp only [Option.bind_none] at h2
      simp [Linear.ok, ← h2]⟩
    have next : Hid (lineSeen l.vars l.code[i] seen = some seen → ∀ X, ∃ y, l.code.length - y < l.code.length - i ∧ (∃ seen, (∃ x, N ++ X = M.set (H.length + 1) (.map (stand seen)) ++ x) ∧ linesSeen l.vars (l.code.drop y) seen = linesSeen l.vars l.code []) ∧ IntKind.i64.wrap ((i : Int) + 1) = (y : Int) ∧ y ≤ l.code.length) := ⟨fun h X => by
      have h2 := hseen.out
      rw [drop_cons hlt, linesSeen, h] at h2
      simp only [Option.bind_some] at h2
      exact ⟨i + 1, by omega, ⟨seen, ⟨L ++ X, by rw [hN.out, List.append_assoc]⟩, h2⟩, wrapS (by omega), by omega⟩⟩
    have nextL : Hid (lineSeen l.vars l.code[i] seen = some (seen ++ [l.code[i].label]) → ∀ X, ∃ y, l.code.length - y < l.code.length - i ∧ (∃ seen_1, (∃ x, N.set (H.length + 1) (.map (stand (seen ++ [l.code[i].label]))) ++ X = M.set (H.length + 1) (.map (stand seen_1)) ++ x) ∧ linesSeen l.vars (l.code.drop y) seen_1 = linesSeen l.vars l.code []) ∧ IntKind.i64.wrap ((i : Int) + 1) = (y : Int) ∧ y ≤ l.code.length) := ⟨fun h X => by
      have h2 := hseen.out
      rw [drop_cons hlt, linesSeen, h] at h2
      simp only [Option.bind_some] at h2
      exact ⟨i + 1, by omega, ⟨_, ⟨L ++ X, by rw [hN.out, m1_set hkM, List.append_assoc]⟩, h2⟩, wrapS (by omega), by omega⟩⟩
    simp -dsimp [f1, f3, f26, f27, f28, List.getElem?_eq_getElem, hlt]
    by_cases hmem : l.code[i].label ∈ seen
    all_goals (simp only [hmem, if_true, if_false, not_true, not_false_iff, true_implies, false_implies] at hf hset)
    all_goals repeat' ((with_reducible first | refine And.intro ?_ ?_ | refine guardVW_introTD (fun _ => ?_) (fun _ => ?_) | refine guardVW_introFD (fun _ => ?_) (fun _ => ?_) | refine condVW_introD (fun _ => ?_) (fun _ => ?_) | refine guardVW_introTE (fun _ => ?_) (fun _ _ _ => ?_) | refine guardVW_introFE (fun _ => ?_) (fun _ _ _ => ?_) | refine condVW_introE (fun _ => ?_) (fun _ _ _ => ?_) | refine guardVW_introTNE (fun _ _ _ => ?_) (fun _ => ?_) | refine guardVW_introFNE (fun _ _ _ => ?_) (fun _ => ?_) | refine condVW_introNE (fun _ _ _ => ?_) (fun _ => ?_) | refine guardVW_introTB (fun _ => ?_) (fun _ => ?_) | refine guardVW_introFB (fun _ => ?_) (fun _ => ?_) | refine condVW_introB (fun _ => ?_) (fun _ => ?_) | refine guardVW_introT (fun _ => ?_) (fun _ => ?_) | refine guardVW_introF (fun _ => ?_) (fun _ => ?_) | refine condVW_intro (fun _ => ?_) (fun _ => ?_) | refine acallsW_det (hm2 _ _) ?_ | refine callDW_intro (hm2 _ _) ?_) <;> simp -dsimp [*])
    all_goals first | refine fail.out ?_ _ | refine failL.out ?_ _ _ | refine next.out ?_ _ | refine nextL.out ?_ _
    all_goals clear hm1 hm2 g1 g2 g3 g1' gs e1 e2 e3 e4 f1 f3 f26 f27 f28 fail failL next nextL leaf back backL hf hset hN hM hM0
    all_goals try simp only [zero_ins] at *
    all_goals first | (simp_all [lineSeen]; done) | (simp_all [lineSeen]; omega) | (simp [lineSeen, *]; done) | grind [lineSeen]
  · have hcf := containsFuncL_ok (g := 45) (cap := [.bp (H.length + 2) 0]) (jumps seen) l.code N (by omega) (by kernel_rfl) (fun x _ => jumps_ok x seen (H.length + 2) (H.length + 1) N (by simpa using g2 []) (by have := g3 []; simp only [mapEs, List.append_nil] at this; revert this; split <;> simp_all))
    have n1 := g1 []
    have n2 := g2 []
    simp only [List.append_nil] at n1 n2
    simp -dsimp [f1, f3, f26, f27, f28, n1]
    repeat' ((with_reducible first | refine And.intro ?_ ?_ | refine guardVW_introTD (fun _ => ?_) (fun _ => ?_) | refine guardVW_introFD (fun _ => ?_) (fun _ => ?_) | refine condVW_introD (fun _ => ?_) (fun _ => ?_) | refine guardVW_introTE (fun _ => ?_) (fun _ _ _ => ?_) | refine guardVW_introFE (fun _ => ?_) (fun _ _ _ => ?_) | refine condVW_introE (fun _ => ?_) (fun _ _ _ => ?_) | refine guardVW_introTNE (fun _ _ _ => ?_) (fun _ => ?_) | refine guardVW_introFNE (fun _ _ _ => ?_) (fun _ => ?_) | refine condVW_introNE (fun _ _ _ => ?_) (fun _ => ?_) | refine guardVW_introTB (fun _ => ?_) (fun _ => ?_) | refine guardVW_introFB (fun _ => ?_) (fun _ => ?_) | refine condVW_introB (fun _ => ?_) (fun _ => ?_) | refine guardVW_introT (fun _ => ?_) (fun _ => ?_) | refine guardVW_introF (fun _ => ?_) (fun _ => ?_) | refine condVW_intro (fun _ => ?_) (fun _ => ?_) | refine acallsW_det (hcf) ?_ | refine callDW_intro (hcf) ?_) <;> simp -dsimp [*])
    obtain ⟨X', hX⟩ := back.out []
    rw [List.append_nil, ← hN.out] at hX
    rw [hX]
    refine leaf.out _ _ ?_
    have h2 := hseen.out
    rw [drop_end hlt, linesSeen] at h2
    simp [Linear.ok, ← h2, hhead, hl64]
end Go.Proofs
namespace Go.Proofs
open Go.Mu
def Flat.few (f : Flat) : Bool := decide (nodesDeep f.code ≤ 70) && decide (nodesCount f.code ≤ 1000) && decide (f.params.length ≤ 100) && decide (f.rets.length ≤ 100)
theorem few_ok (f : Flat) (hc : nodesCount f.code ≤ 2^40) (H : List Blk) : ACalls Try.prog 9 [.agg f.cells] H (fun e H' => e = .ret (Bo f.few) ∧ H' = H) := by
  refine acalls_tidy (acalls_of_vc (hn := fun _ => false) (od := fun _ => none) Try.func9 rfl (by kernel_rfl) ?_)
  have h1 := fun H => count_ok _ f.code (Nat.le_refl _) hc H
  have h2 := fun H => deep_ok _ f.code (Nat.le_refl _) hc H
  simp -dsimp
  repeat' ((with_reducible first | refine And.intro ?_ ?_ | refine guardVW_introTD (fun _ => ?_) (fun _ => ?_) | refine guardVW_introFD (fun _ => ?_) (fun _ => ?_) | refine condVW_introD (fun _ => ?_) (fun _ => ?_) | refine guardVW_introTE (fun _ => ?_) (fun _ _ _ => ?_) | refine guardVW_introFE (fun _ => ?_) (fun _ _ _ => ?_) | refine condVW_introE (fun _ => ?_) (fun _ _ _ => ?_) | refine guardVW_introTNE (fun _ _ _ => ?_) (fun _ => ?_) | refine guardVW_introFNE (fun _ _ _ => ?_) (fun _ => ?_) | refine condVW_introNE (fun _ _ _ => ?_) (fun _ => ?_) | refine guardVW_introTB (fun _ => ?_) (fun _ => ?_) | refine guardVW_introFB (fun _ => ?_) (fun _ => ?_) | refine condVW_introB (fun _ => ?_) (fun _ => ?_) | refine guardVW_introT (fun _ => ?_) (fun _ => ?_) | refine guardVW_introF (fun _ => ?_) (fun _ => ?_) | refine condVW_intro (fun _ => ?_) (fun _ => ?_) | refine acallsW_det (h1 _) ?_ | refine callDW_intro (h1 _) ?_ | refine acallsW_det (h2 _) ?_ | refine callDW_intro (h2 _) ?_) <;> simp -dsimp [*])
  all_goals refine tidy_same rfl ⟨?_, rfl⟩
  all_goals (congr 3; rw [Bool.eq_iff_iff]; simp [Flat.few]; omega)
abbrev insOf (kind op d a : Int) : Ins := ⟨kind, op, d, a, 0, 0, 0, false⟩
def known1 : Flat := ⟨3, [], [], 0, [.mk 2 zeroIns 0 [] [.mk 1 (insOf 2 0 1 2) 0 [] [] []] []]⟩
def known2 : Flat := ⟨1, [], [], 0, [.mk 3 zeroIns 0 [] [] []]⟩
def known1L : Linear := ⟨3, [], [], 0, [lineOf 4 0 0, ⟨1, insOf 2 0 1 2, 0, 0⟩, lineOf 3 0 1, lineOf 2 0 0, lineOf 2 0 1, lineOf 5 0 0]⟩
def known2L : Linear := ⟨1, [], [], 0, [lineOf 2 0 0, lineOf 4 0 1, lineOf 3 0 0, lineOf 2 0 1, lineOf 5 0 0]⟩
theorem known1_call (H : List Blk) : ACalls Try.prog 11 [.agg [I 3, nilS, nilS, I 0, .vs 13 [[I 2, I 0, I 0, I 0, I 0, I 0, I 0, U 0, Bo false, I 0, nilS, .vs 13 [[I 1, I 2, I 0, I 1, I 2, I 0, I 0, U 0, Bo false, I 0, nilS, nilS, nilS]], nilS]]]] H
    (fun e H' => e = .ret (.tup [.agg known1L.cells, I 0]) ∧ H' = H) := by
  refine acalls_weak (args' := [.agg known1.cells]) ?_ ?_
  · simp only [known1, Flat.cells, Node.sl, Int.sl, List.map_cons, List.map_nil, Node.cells_eq, Node.kind, Node.ins, Node.cond, Node.ahead, Node.body, Node.els, zeroIns, insOf]
    repeat first | exact Weak.refl _ | exact Weak.nil _ | exact WeakL.nil | exact WeakR.nil | apply Weak.aggL | apply Weak.vsR | apply WeakL.cons | apply WeakR.cons
  · have hok : known1.ok = true := by decide
    have hl : nodesLines known1.code 0 = ([lineOf 4 0 0, ⟨1, insOf 2 0 1 2, 0, 0⟩, lineOf 3 0 1, lineOf 2 0 0, lineOf 2 0 1], 2) := by decide
    refine (make_ok known1 (by decide) (by decide) (by decide) H).mono fun e H' => ?_
    rintro ⟨l, n, rfl, rfl, -, h⟩
    have h := (h hok).1 (by rw [hl]; decide)
    rw [hl] at h
    obtain ⟨rfl, rfl⟩ := h
    exact ⟨rfl, rfl⟩
theorem known2_call (H : List Blk) : ACalls Try.prog 11 [.agg [I 1, nilS, nilS, I 0, .vs 13 [[I 3, I 0, I 0, I 0, I 0, I 0, I 0, U 0, Bo false, I 0, nilS, nilS, nilS]]]] H
    (fun e H' => e = .ret (.tup [.agg known2L.cells, I 0]) ∧ H' = H) := by
  refine acalls_weak (args' := [.agg known2.cells]) ?_ ?_
  · simp only [known2, Flat.cells, Node.sl, Int.sl, List.map_cons, List.map_nil, Node.cells_eq, Node.kind, Node.ins, Node.cond, Node.ahead, Node.body, Node.els, zeroIns, insOf]
    repeat first | exact Weak.refl _ | exact Weak.nil _ | exact WeakL.nil | exact WeakR.nil | apply Weak.aggL | apply Weak.vsR | apply WeakL.cons | apply WeakR.cons
  · have hok : known2.ok = true := by decide
    have hl : nodesLines known2.code 0 = ([lineOf 2 0 0, lineOf 4 0 1, lineOf 3 0 0, lineOf 2 0 1], 2) := by decide
    refine (make_ok known2 (by decide) (by decide) (by decide) H).mono fun e H' => ?_
    rintro ⟨l, n, rfl, rfl, -, h⟩
    have h := (h hok).1 (by rw [hl]; decide)
    rw [hl] at h
    obtain ⟨rfl, rfl⟩ := h
    exact ⟨rfl, rfl⟩
theorem same1 (H : List Blk) : ACalls Try.prog 13 [.agg known1L.cells, .agg [I 3, nilS, nilS, I 0, .vs 11 (known1L.code.map Line.cells)]] H (fun e H' => e = .ret (Bo true) ∧ H' = H) := by
  refine acalls_weak (args' := [.agg known1L.cells, .agg known1L.cells]) ?_ ((same_ok known1L known1L (by decide) (by decide) (by decide) H).mono fun e H' h => by simpa using h)
  simp only [known1L, Linear.cells, Int.sl, Line.sl, List.map_cons, List.map_nil, Line.cells]
  repeat first | exact Weak.refl _ | exact Weak.nil _ | exact WeakL.nil | exact WeakR.nil | apply Weak.aggL | apply Weak.vsR | apply WeakL.cons | apply WeakR.cons
theorem same2 (H : List Blk) : ACalls Try.prog 13 [.agg known2L.cells, .agg [I 1, nilS, nilS, I 0, .vs 11 (known2L.code.map Line.cells)]] H (fun e H' => e = .ret (Bo true) ∧ H' = H) := by
  refine acalls_weak (args' := [.agg known2L.cells, .agg known2L.cells]) ?_ ((same_ok known2L known2L (by decide) (by decide) (by decide) H).mono fun e H' h => by simpa using h)
  simp only [known2L, Linear.cells, Int.sl, Line.sl, List.map_cons, List.map_nil, Line.cells]
  repeat first | exact Weak.refl _ | exact Weak.nil _ | exact WeakL.nil | exact WeakR.nil | apply Weak.aggL | apply Weak.vsR | apply WeakL.cons | apply WeakR.cons
theorem known_ok (H : List Blk) : ACalls Try.prog 10 [] H (fun e H' => e = .ret (Bo true) ∧ H' = H) := by
  refine acalls_tidy (acalls_of_vc (hn := fun _ => false) (od := fun _ => none) Try.func10 rfl (by kernel_rfl) ?_)
  have c1 := known1_call
  have c2 := known2_call
  have s1 := same1
  have s2 := same2
  simp only [known1L, known2L, Linear.cells, Int.sl, Line.sl, List.map_cons, List.map_nil, Line.cells, lineOf, insOf] at c1 c2 s1 s2
  simp -dsimp
  repeat' ((with_reducible first | refine And.intro ?_ ?_ | refine guardVW_introTD (fun _ => ?_) (fun _ => ?_) | refine guardVW_introFD (fun _ => ?_) (fun _ => ?_) | refine condVW_introD (fun _ => ?_) (fun _ => ?_) | refine guardVW_introTE (fun _ => ?_) (fun _ _ _ => ?_) | refine guardVW_introFE (fun _ => ?_) (fun _ _ _ => ?_) | refine condVW_introE (fun _ => ?_) (fun _ _ _ => ?_) | refine guardVW_introTNE (fun _ _ _ => ?_) (fun _ => ?_) | refine guardVW_introFNE (fun _ _ _ => ?_) (fun _ => ?_) | refine condVW_introNE (fun _ _ _ => ?_) (fun _ => ?_) | refine guardVW_introTB (fun _ => ?_) (fun _ => ?_) | refine guardVW_introFB (fun _ => ?_) (fun _ => ?_) | refine condVW_introB (fun _ => ?_) (fun _ => ?_) | refine guardVW_introT (fun _ => ?_) (fun _ => ?_) | refine guardVW_introF (fun _ => ?_) (fun _ => ?_) | refine condVW_intro (fun _ => ?_) (fun _ => ?_) | refine acallsW_det (c1 _) ?_ | refine callDW_intro (c1 _) ?_ | refine acallsW_det (c2 _) ?_ | refine callDW_intro (c2 _) ?_ | refine acallsW_det (s1 _) ?_ | refine callDW_intro (s1 _) ?_ | refine acallsW_det (s2 _) ?_ | refine callDW_intro (s2 _) ?_) <;> simp -dsimp [*])
  all_goals exact tidy_same rfl ⟨rfl, rfl⟩
end Go.Proofs
namespace Go.Proofs
open Go.Mu
theorem linesSeen_append (vars : Int) (a b : List Line) : ∀ s, linesSeen vars (a ++ b) s = (linesSeen vars a s).bind (linesSeen vars b) := by
  induction a with
  | nil => intro s; rfl
  | cons x a ih =>
    intro s
    simp only [List.cons_append, linesSeen]
    cases lineSeen vars x s with
    | none => rfl
    | some s' => simp only [Option.bind_some, ih]
/-- These lines may be, and set just these labels. -/
def Good (vars : Int) (N : List Line) (P : Int → Prop) : Prop := ∀ s, (∀ x ∈ s, ¬ P x) → ∃ s', linesSeen vars N s = some s' ∧ ∀ x, x ∈ s' ↔ x ∈ s ∨ P x
theorem Good.nil (vars : Int) : Good vars [] (fun _ => False) := fun s _ => ⟨s, rfl, by simp⟩
theorem Good.app {vars : Int} {a b : List Line} {P1 P2 P : Int → Prop} (h1 : Good vars a P1) (h2 : Good vars b P2) (hd : ∀ x, P1 x → ¬ P2 x) (hp : ∀ x, P x ↔ P1 x ∨ P2 x) : Good vars (a ++ b) P := by
  intro s hs
  obtain ⟨s1, e1, m1⟩ := h1 s (fun x hx h => hs x hx ((hp x).2 (.inl h)))
  obtain ⟨s2, e2, m2⟩ := h2 s1 (fun x hx h => by
    rcases (m1 x).1 hx with h' | h'
    · exact hs x h' ((hp x).2 (.inr h))
    · exact hd x h' h)
  refine ⟨s2, by rw [linesSeen_append, e1, Option.bind_some, e2], fun x => ?_⟩
  rw [m2, m1, hp, or_assoc]
theorem Good.plain {vars : Int} {x : Line} (h : ∀ s, lineSeen vars x s = some s) : Good vars [x] (fun _ => False) := fun s _ => ⟨s, by simp [linesSeen, h], by simp⟩
theorem Good.label {vars n : Int} (h : 0 ≤ n) : Good vars [lineOf 2 0 n] (fun x => x = n) := by
  intro s hs
  have hn : n ∉ s := fun hm => hs n hm rfl
  refine ⟨s ++ [n], ?_, by simp⟩
  simp [linesSeen, lineSeen, lineOf, zeroIns, hn, h]
theorem Good.goto {vars n : Int} (h : 0 ≤ n) : Good vars [lineOf 3 0 n] (fun _ => False) := .plain fun s => by simp [lineSeen, lineOf, zeroIns, h]
theorem Good.goif {vars n c : Int} (h : 0 ≤ n) (hc : isV c vars = true) : Good vars [lineOf 4 c n] (fun _ => False) := .plain fun s => by
  simp [isV] at hc
  simp [lineSeen, lineOf, zeroIns, h, hc]
theorem Good.end (vars : Int) : Good vars [lineOf 5 0 0] (fun _ => False) := .plain fun s => by simp [lineSeen, lineOf, zeroIns]
theorem Good.ins {vars : Int} {i : Ins} (h0 : 0 ≤ vars) (h1 : vars ≤ 16384) (hi : insOk vars i = true) : Good vars [⟨1, i, 0, 0⟩] (fun _ => False) := .plain fun s => by
  simp [lineSeen, Flat.ok, headOk, paramsOk, nodesCount, Node.count, nodesOk, Node.ok, hi, h0, h1]
def JumpsIn (N : List Line) (P : Int → Prop) : Prop := ∀ x ∈ N, (x.kind = 3 ∨ x.kind = 4) → P x.label
theorem JumpsIn.app {a b : List Line} {P : Int → Prop} (h1 : JumpsIn a P) (h2 : JumpsIn b P) : JumpsIn (a ++ b) P := by
  intro x hx hk
  rcases List.mem_append.1 hx with h | h
  · exact h1 x h hk
  · exact h2 x h hk
theorem JumpsIn.mono {a : List Line} {P Q : Int → Prop} (h : JumpsIn a P) (hq : ∀ x, P x → Q x) : JumpsIn a Q := fun x hx hk => hq _ (h x hx hk)
theorem JumpsIn.one {x : Line} {P : Int → Prop} (h : (x.kind = 3 ∨ x.kind = 4) → P x.label) : JumpsIn [x] P := by
  intro y hy hk; simp at hy; subst hy; exact h hk
theorem JumpsIn.nil {P : Int → Prop} : JumpsIn [] P := by intro x hx; simp at hx
abbrev From (a b : Nat) : Int → Prop := fun x => (a : Int) ≤ x ∧ x < b
theorem nodes_good (vars : Int) (h0 : 0 ≤ vars) (h1 : vars ≤ 16384) (n : Nat) : ∀ (l : List Node) (deep : Int), nodesCount l ≤ n → nodesOk vars deep l = true → ∀ lab,
    Good vars (nodesLines l lab).1 (From lab (nodesLines l lab).2) ∧ JumpsIn (nodesLines l lab).1 (From lab (nodesLines l lab).2) := by
  induction n with
  | zero =>
    intro l deep hl hok lab
    have := nodes_len l; have : l = [] := List.eq_nil_of_length_eq_zero (by omega); subst this
    exact ⟨(Good.nil vars).app (b := []) (Good.nil vars) (by simp) (by intro x; simp [nodesLines, From]), .nil⟩
  | succ n ih =>
    intro l
    induction l with
    | nil => intro deep hl hok lab; exact ⟨(Good.nil vars).app (b := []) (Good.nil vars) (by simp) (by intro x; simp [nodesLines, From]), .nil⟩
    | cons x l ihl =>
      intro deep hl hok lab
      simp only [nodesCount, Node.count_eq] at hl
      simp only [nodesOk, Bool.and_eq_true] at hok
      obtain ⟨⟨hdeep, hx⟩, hrest⟩ := hok
      have hle := fun (m : List Node) lab => lines_le _ m (Nat.le_refl _) lab
      have key : Good vars (x.lines lab).1 (From lab (x.lines lab).2) ∧ JumpsIn (x.lines lab).1 (From lab (x.lines lab).2) ∧ lab ≤ (x.lines lab).2 := by
        rw [Node.ok_eq] at hx
        by_cases hk1 : x.kind = 1
        · simp only [hk1, if_true, Bool.and_eq_true] at hx
          rw [Node.lines_ins x lab hk1]
          exact ⟨(Good.ins h0 h1 hx.1.1.1.1).app (b := []) (Good.nil vars) (by simp) (by intro y; simp [From]), .one (by simp), Nat.le_refl _⟩
        · by_cases hk2 : x.kind = 2
          · simp only [hk2, if_true, true_or, show ¬ ((2 : Int) = 1) by omega, if_false, Bool.and_eq_true] at hx
            obtain ⟨⟨⟨⟨⟨_, hc⟩, _⟩, ha⟩, hb⟩, he⟩ := hx
            obtain ⟨gA, jA⟩ := ih x.ahead _ (by omega) ha lab
            obtain ⟨gB, jB⟩ := ih x.body _ (by omega) hb ((nodesLines x.ahead lab).2 + 2)
            obtain ⟨gE, jE⟩ := ih x.els _ (by omega) he (nodesLines x.body ((nodesLines x.ahead lab).2 + 2)).2
            have lA := hle x.ahead lab
            have lB := hle x.body ((nodesLines x.ahead lab).2 + 2)
            have lE := hle x.els (nodesLines x.body ((nodesLines x.ahead lab).2 + 2)).2
            rw [Node.lines_if x lab hk2]
            simp only
            generalize nodesLines x.ahead lab = A at *
            generalize nodesLines x.body (A.2 + 2) = B at *
            generalize nodesLines x.els B.2 = E at *
            refine ⟨?_, ?_, by omega⟩
            · have s1 := (gA.app (.goif (vars := vars) (n := (A.2 : Int)) (c := x.cond) (by omega) hc) (P := From lab A.2) (by simp) (by simp)).app gB (P := fun y => From lab A.2 y ∨ From (A.2 + 2) B.2 y) (by intro y; simp only [From]; omega) (by intro y; rfl)
              have s2 := (Good.goto (vars := vars) (n := (A.2 : Int) + 1) (by omega)).app (.label (vars := vars) (n := (A.2 : Int)) (by omega)) (P := fun y => y = (A.2 : Int)) (by simp) (by simp)
              have s3 := s1.app s2 (P := fun y => From lab A.2 y ∨ From (A.2 + 2) B.2 y ∨ y = (A.2 : Int)) (by intro y; simp only [From]; omega) (by intro y; simp only [or_assoc])
              have s4 := s3.app gE (P := fun y => From lab A.2 y ∨ From (A.2 + 2) B.2 y ∨ y = (A.2 : Int) ∨ From B.2 E.2 y) (by intro y; simp only [From]; omega) (by intro y; simp only [or_assoc])
              exact s4.app (.label (vars := vars) (n := (A.2 : Int) + 1) (by omega)) (by intro y; simp only [From]; omega) (by intro y; simp only [From]; omega)
            · refine (((((jA.mono ?_).app (.one ?_)).app (jB.mono ?_)).app ((JumpsIn.one (x := lineOf 3 0 ((A.2 : Int) + 1)) ?_).app (.one (x := lineOf 2 0 (A.2 : Int)) ?_))).app (jE.mono ?_)).app (.one ?_)
              all_goals simp only [From]
              all_goals omega
          · by_cases hk3 : x.kind = 3
            · simp only [hk3, if_true, or_true, show ¬ ((3 : Int) = 1) by omega, if_false, Bool.and_eq_true] at hx
              obtain ⟨⟨⟨⟨⟨_, hc⟩, _⟩, ha⟩, hb⟩, he⟩ := hx
              obtain ⟨gA, jA⟩ := ih x.ahead _ (by omega) ha (lab + 2)
              obtain ⟨gB, jB⟩ := ih x.body _ (by omega) hb (nodesLines x.ahead (lab + 2)).2
              have lA := hle x.ahead (lab + 2)
              have lB := hle x.body (nodesLines x.ahead (lab + 2)).2
              rw [Node.lines_loop x lab hk1 hk2]
              simp only
              generalize nodesLines x.ahead (lab + 2) = A at *
              generalize nodesLines x.body A.2 = B at *
              refine ⟨?_, ?_, by omega⟩
              · have s1 := (Good.label (vars := vars) (n := (lab : Int)) (by omega)).app gA (P := fun y => y = (lab : Int) ∨ From (lab + 2) A.2 y) (by intro y; simp only [From]; omega) (by intro y; rfl)
                have s2 := (s1.app (.goif (vars := vars) (n := (lab : Int) + 1) (c := x.cond) (by omega) hc) (P := fun y => y = (lab : Int) ∨ From (lab + 2) A.2 y) (by simp) (by simp)).app gB (P := fun y => y = (lab : Int) ∨ From (lab + 2) B.2 y) (by intro y; simp only [From]; omega) (by intro y; simp only [From]; omega)
                have s3 := (Good.goto (vars := vars) (n := (lab : Int)) (by omega)).app (.label (vars := vars) (n := (lab : Int) + 1) (by omega)) (P := fun y => y = (lab : Int) + 1) (by simp) (by simp)
                exact s2.app s3 (by intro y; simp only [From]; omega) (by intro y; simp only [From]; omega)
              · refine ((((JumpsIn.one (x := lineOf 2 0 (lab : Int)) ?_).app (jA.mono ?_)).app (.one ?_)).app (jB.mono ?_)).app ((JumpsIn.one (x := lineOf 3 0 (lab : Int)) ?_).app (.one (x := lineOf 2 0 ((lab : Int) + 1)) ?_))
                all_goals simp only [From]
                all_goals omega
            · simp [hk1, hk2, hk3] at hx
      have hL := ihl deep (by omega) hrest (x.lines lab).2
      have lL := hle l (x.lines lab).2
      simp only [nodesLines]
      generalize x.lines lab = X at *
      generalize nodesLines l X.2 = Y at *
      exact ⟨key.1.app hL.1 (by intro y; simp only [From]; omega) (by intro y; simp only [From]; omega), (key.2.1.mono (by intro y; simp only [From]; omega)).app (hL.2.mono (by intro y; simp only [From]; omega))⟩
theorem made_ok (f : Flat) (h : f.ok = true) (hl : (nodesLines f.code 0).1.length < 65536) : (Linear.mk f.vars f.params f.rets f.frame ((nodesLines f.code 0).1 ++ [lineOf 5 0 0])).ok = true := by
  have hh : headOk f.vars f.params f.rets f.frame = true ∧ nodesOk f.vars 1 f.code = true := by simp only [Flat.ok, Bool.and_eq_true] at h; exact ⟨h.1.1, h.2⟩
  have hv : 0 ≤ f.vars ∧ f.vars ≤ 16384 := by have := hh.1; simp only [headOk, Bool.and_eq_true, decide_eq_true_eq] at this; omega
  obtain ⟨g, j⟩ := nodes_good f.vars hv.1 hv.2 _ f.code 1 (Nat.le_refl _) hh.2 0
  obtain ⟨s, e, m⟩ := g.app (Good.end f.vars) (P := From 0 (nodesLines f.code 0).2) (by simp) (by simp) [] (by simp)
  have jj : JumpsIn ((nodesLines f.code 0).1 ++ [lineOf 5 0 0]) (From 0 (nodesLines f.code 0).2) := j.app (.one (by simp))
  simp only [Linear.ok, e, Bool.and_eq_true, decide_eq_true_eq, Bool.not_eq_true', List.any_eq_false]
  refine ⟨⟨by simp; omega, by simp [Flat.ok, hh.1, nodesCount, nodesOk]⟩, fun x hx => ?_⟩
  have hj := jj x hx
  have hm := m x.label
  simp only [jumps, Bool.and_eq_true, Bool.or_eq_true, beq_iff_eq, Bool.not_eq_true', decide_eq_false_iff_not]
  rintro ⟨hk, hn⟩
  exact hn (hm.2 (.inr (hj hk)))
theorem linearMakes_ok (f : Flat) (hp : f.params.length ≤ 2^40) (hr : f.rets.length ≤ 2^40) (hc : nodesCount f.code ≤ 2^36) (H : List Blk) : ACalls Try.prog 3 [.agg f.cells] H (fun e H' => e = .ret (Bo true) ∧ H' = H) := by
  refine acalls_tidy (acalls_of_vc (hn := fun _ => false) (od := fun _ => none) Try.func3 rfl (by kernel_rfl) ?_)
  have c1 := fun H => few_ok f (by omega) H
  have c2 := known_ok
  have c3 := fun H => make_ok f hp hr hc H
  have c4 := fun H => refMay_ok f hp hr (by omega) H
  have c5 := fun H => rmake_ok f hc H
  simp only [Flat.cells] at c1 c3 c4 c5
  simp -dsimp
  have tt : ∀ (L : List Blk), Tidy H (fun e H' => e = AE.ret (Bo true) ∧ H' = H) (AE.ret (Bo true)) (H ++ L) := fun L => tidy_same rfl ⟨rfl, rfl⟩
  replace tt := Hid.mk tt
  refine acallsW_det (c1 _) ?_
  simp -dsimp
  refine condVW_introB (fun hfew => ?_) (fun hfew => ?_)
  · simp -dsimp
    refine acallsW_det (c2 _) ?_
    simp -dsimp
    exact tt.out _
  simp -dsimp
  refine acallsW_of (c3 _) (fun e H' hq => ?_)
  obtain ⟨l, n, rfl, rfl, h1, h2⟩ := hq
  simp -dsimp
  refine acallsW_det (c4 _) ?_
  simp -dsimp
  refine condVW_introB (fun hok => ?_) (fun hok => ?_)
  · obtain ⟨rfl, rfl⟩ := h1 hok
    have s0 := fun H => acalls_weak (args := [.agg [I 0, Int.sl [], Int.sl [], I 0, Line.sl []], .agg [I 0, nilS, nilS, I 0, nilS]]) (args' := [.agg [I 0, Int.sl [], Int.sl [], I 0, Line.sl []], .agg [I 0, Int.sl [], Int.sl [], I 0, Line.sl []]]) (by repeat first | exact Weak.refl _ | exact Weak.nil _ | exact WeakL.nil | exact WeakR.nil | apply Weak.aggL | apply Weak.vsR | apply WeakL.cons | apply WeakR.cons) (same_ok ⟨0, [], [], 0, []⟩ ⟨0, [], [], 0, []⟩ (by simp) (by simp) (by simp) H)
    simp only [decide_true] at s0
    simp -dsimp
    repeat' ((with_reducible first | refine And.intro ?_ ?_ | refine guardVW_introTD (fun _ => ?_) (fun _ => ?_) | refine guardVW_introFD (fun _ => ?_) (fun _ => ?_) | refine condVW_introD (fun _ => ?_) (fun _ => ?_) | refine guardVW_introTE (fun _ => ?_) (fun _ _ _ => ?_) | refine guardVW_introFE (fun _ => ?_) (fun _ _ _ => ?_) | refine condVW_introE (fun _ => ?_) (fun _ _ _ => ?_) | refine guardVW_introTNE (fun _ _ _ => ?_) (fun _ => ?_) | refine guardVW_introFNE (fun _ _ _ => ?_) (fun _ => ?_) | refine condVW_introNE (fun _ _ _ => ?_) (fun _ => ?_) | refine guardVW_introTB (fun _ => ?_) (fun _ => ?_) | refine guardVW_introFB (fun _ => ?_) (fun _ => ?_) | refine condVW_introB (fun _ => ?_) (fun _ => ?_) | refine guardVW_introT (fun _ => ?_) (fun _ => ?_) | refine guardVW_introF (fun _ => ?_) (fun _ => ?_) | refine condVW_intro (fun _ => ?_) (fun _ => ?_) | refine acallsW_det (s0 _) ?_ | refine callDW_intro (s0 _) ?_ | refine acallsW_det (c2 _) ?_ | refine callDW_intro (c2 _) ?_) <;> simp -dsimp [*])
    exact tt.out _
  · have h2 := h2 hok
    simp -dsimp
    refine acallsW_of (c5 _) (fun e H' hq => ?_)
    obtain ⟨rfl, rfl⟩ := hq
    simp -dsimp
    refine condVW_introB (fun h65 => ?_) (fun h65 => ?_)
    · have := h2.2 (by simpa using h65)
      subst this
      simp -dsimp
      repeat' ((with_reducible first | refine And.intro ?_ ?_ | refine guardVW_introTD (fun _ => ?_) (fun _ => ?_) | refine guardVW_introFD (fun _ => ?_) (fun _ => ?_) | refine condVW_introD (fun _ => ?_) (fun _ => ?_) | refine guardVW_introTE (fun _ => ?_) (fun _ _ _ => ?_) | refine guardVW_introFE (fun _ => ?_) (fun _ _ _ => ?_) | refine condVW_introE (fun _ => ?_) (fun _ _ _ => ?_) | refine guardVW_introTNE (fun _ _ _ => ?_) (fun _ => ?_) | refine guardVW_introFNE (fun _ _ _ => ?_) (fun _ => ?_) | refine condVW_introNE (fun _ _ _ => ?_) (fun _ => ?_) | refine guardVW_introTB (fun _ => ?_) (fun _ => ?_) | refine guardVW_introFB (fun _ => ?_) (fun _ => ?_) | refine condVW_introB (fun _ => ?_) (fun _ => ?_) | refine guardVW_introT (fun _ => ?_) (fun _ => ?_) | refine guardVW_introF (fun _ => ?_) (fun _ => ?_) | refine condVW_intro (fun _ => ?_) (fun _ => ?_) | refine acallsW_det (c2 _) ?_ | refine callDW_intro (c2 _) ?_) <;> simp -dsimp [*])
      exact tt.out _
    · have h65' : (nodesLines f.code 0).1.length < 65536 := by simpa using h65
      obtain ⟨rfl, rfl⟩ := h2.1 h65'
      obtain ⟨N, hN⟩ : ∃ N, N = (nodesLines f.code 0).1 ++ [lineOf 5 0 0] := ⟨_, rfl⟩
      have hNl : N.length ≤ 2^40 := by rw [hN]; simp; omega
      have s0 := fun H => same_ok ⟨f.vars, f.params, f.rets, f.frame, N⟩ ⟨f.vars, f.params, f.rets, f.frame, N⟩ hp hr hNl H
      have lm := fun H => linear_ok ⟨f.vars, f.params, f.rets, f.frame, N⟩ hp hr hNl H
      have hmade := made_ok f hok h65'
      rw [← hN] at hmade ⊢
      replace hN := Hid.mk hN
      simp only [hmade] at lm
      simp only [decide_true, Linear.cells] at s0 lm
      simp -dsimp
      repeat' ((with_reducible first | refine And.intro ?_ ?_ | refine guardVW_introTD (fun _ => ?_) (fun _ => ?_) | refine guardVW_introFD (fun _ => ?_) (fun _ => ?_) | refine condVW_introD (fun _ => ?_) (fun _ => ?_) | refine guardVW_introTE (fun _ => ?_) (fun _ _ _ => ?_) | refine guardVW_introFE (fun _ => ?_) (fun _ _ _ => ?_) | refine condVW_introE (fun _ => ?_) (fun _ _ _ => ?_) | refine guardVW_introTNE (fun _ _ _ => ?_) (fun _ => ?_) | refine guardVW_introFNE (fun _ _ _ => ?_) (fun _ => ?_) | refine condVW_introNE (fun _ _ _ => ?_) (fun _ => ?_) | refine guardVW_introTB (fun _ => ?_) (fun _ => ?_) | refine guardVW_introFB (fun _ => ?_) (fun _ => ?_) | refine condVW_introB (fun _ => ?_) (fun _ => ?_) | refine guardVW_introT (fun _ => ?_) (fun _ => ?_) | refine guardVW_introF (fun _ => ?_) (fun _ => ?_) | refine condVW_intro (fun _ => ?_) (fun _ => ?_) | refine acallsW_det (s0 _) ?_ | refine callDW_intro (s0 _) ?_ | refine acallsW_det (lm _) ?_ | refine callDW_intro (lm _) ?_ | refine acallsW_det (c2 _) ?_ | refine callDW_intro (c2 _) ?_) <;> simp -dsimp [*])
      exact tt.out _
end Go.Proofs
namespace Go.Proofs
open Go.Mu
def regL : List Int := [3, 5, 6, 7, 8, 9, 10, 11, 12, 13, 14]
abbrev regA : List AV := [I 3, I 5, I 6, I 7, I 8, I 9, I 10, I 11, I 12, I 13, I 14]
abbrev regS : List (List AV) := [[I 3], [I 5], [I 6], [I 7], [I 8], [I 9], [I 10], [I 11], [I 12], [I 13], [I 14]]
/-- A variable's register. -/
def regOf (n : Int) : Int := regL.getD n.toNat 0
theorem regA_get (n : Int) (h : n.toNat < regA.length) : regA[n.toNat] = I (regOf n) := by
  have : ∀ k : Nat, (hk : k < 11) → regA[k]'hk = I (regL.getD k 0) := fun k hk => match k, hk with
    | 0, _ => rfl
    | 1, _ => rfl
    | 2, _ => rfl
    | 3, _ => rfl
    | 4, _ => rfl
    | 5, _ => rfl
    | 6, _ => rfl
    | 7, _ => rfl
    | 8, _ => rfl
    | 9, _ => rfl
    | 10, _ => rfl
    | k + 11, h => absurd h (by omega)
  exact this _ h
theorem regS_get (n : Int) (h : n.toNat < regS.length) : regS[n.toNat] = [I (regOf n)] := by
  have : ∀ k : Nat, (hk : k < 11) → regS[k]'hk = [I (regL.getD k 0)] := fun k hk => match k, hk with
    | 0, _ => rfl
    | 1, _ => rfl
    | 2, _ => rfl
    | 3, _ => rfl
    | 4, _ => rfl
    | 5, _ => rfl
    | 6, _ => rfl
    | 7, _ => rfl
    | 8, _ => rfl
    | 9, _ => rfl
    | 10, _ => rfl
    | k + 11, h => absurd h (by omega)
  exact this _ h
theorem regs_ok (H : List Blk) : ACalls Try.prog 46 [] H (fun e H' => e = .ret (.agg regA) ∧ H' = H) := by
  refine acalls_tidy (acalls_of_vc (hn := fun _ => false) (od := fun _ => none) Try.func46 rfl (by kernel_rfl) ?_)
  simp -dsimp
  exact tidy_same rfl ⟨rfl, rfl⟩
theorem rregs_ok (H : List Blk) : ACalls Try.prog 17 [] H (fun e H' => e = .ret (.vs 1 regS) ∧ H' = H) := by
  refine acalls_tidy (acalls_of_vc (hn := fun _ => false) (od := fun _ => none) Try.func17 rfl (by kernel_rfl) ?_)
  simp -dsimp
  simpa using tidy_same (L := []) (r := .vs 1 regS) rfl ⟨rfl, rfl⟩
theorem reg_ok (n : Int) (H : List Blk) : ACalls Try.prog 16 [I n] H (fun e H' => e = .ret (if 0 ≤ n ∧ n < 11 then .tup [I (regOf n), Bo true] else .tup [I 0, Bo false]) ∧ H' = H) := by
  refine acalls_tidy (acalls_of_vc (hn := fun _ => false) (od := fun _ => none) Try.func16 rfl (by kernel_rfl) ?_)
  have c := fun H => regs_ok H
  simp -dsimp
  repeat' ((with_reducible first | refine And.intro ?_ ?_ | refine guardVW_introTD (fun _ => ?_) (fun _ => ?_) | refine guardVW_introFD (fun _ => ?_) (fun _ => ?_) | refine condVW_introD (fun _ => ?_) (fun _ => ?_) | refine guardVW_introTE (fun _ => ?_) (fun _ _ _ => ?_) | refine guardVW_introFE (fun _ => ?_) (fun _ _ _ => ?_) | refine condVW_introE (fun _ => ?_) (fun _ _ _ => ?_) | refine guardVW_introTNE (fun _ _ _ => ?_) (fun _ => ?_) | refine guardVW_introFNE (fun _ _ _ => ?_) (fun _ => ?_) | refine condVW_introNE (fun _ _ _ => ?_) (fun _ => ?_) | refine guardVW_introTB (fun _ => ?_) (fun _ => ?_) | refine guardVW_introFB (fun _ => ?_) (fun _ => ?_) | refine condVW_introB (fun _ => ?_) (fun _ => ?_) | refine guardVW_introT (fun _ => ?_) (fun _ => ?_) | refine guardVW_introF (fun _ => ?_) (fun _ => ?_) | refine condVW_intro (fun _ => ?_) (fun _ => ?_) | refine acallsW_det (c _) ?_ | refine callDW_intro (c _) ?_) <;> simp -dsimp [*])
  · exact tidy_same rfl ⟨by rw [if_neg (by omega)], rfl⟩
  · exact tidy_same rfl ⟨by rw [if_neg (by omega)], rfl⟩
  · rename_i h1 h2
    have hb : 0 ≤ n ∧ n < 11 := by omega
    simp -dsimp [hb, regA_get]
    exact tidy_same rfl ⟨rfl, rfl⟩
end Go.Proofs
namespace Go.Proofs
open Go.Mu
@[ext] structure Amd where
  (op bin shift cond dst src imm base index : Int)
  (hasBase hasIndex : Bool)
  (disp label : Int)
deriving DecidableEq
@[simp] def Amd.cells (x : Amd) : List AV := [I x.op, I x.bin, I x.shift, I x.cond, I x.dst, I x.src, U x.imm, I x.base, I x.index, Bo x.hasBase, Bo x.hasIndex, I x.disp, I x.label]
abbrev Amd.sl (l : List Amd) : AV := .vs 13 (l.map Amd.cells)
abbrev amd (op bin shift cond dst src : Int) : Amd := ⟨op, bin, shift, cond, dst, src, 0, 0, 0, false, false, 0, 0⟩
abbrev amov (d s : Int) : Amd := amd 1 0 0 0 d s
theorem mov_ok (d s : Int) (H : List Blk) : ACalls Try.prog 75 [I d, I s] H (fun e H' => e = .ret (.agg (amov d s).cells) ∧ H' = H) := by
  refine acalls_tidy (acalls_of_vc (hn := fun _ => false) (od := fun _ => none) Try.func75 rfl (by kernel_rfl) ?_)
  simp -dsimp
  exact tidy_same rfl ⟨rfl, rfl⟩
theorem rmov_ok (d s : Int) (H : List Blk) : ACalls Try.prog 49 [I d, I s] H (fun e H' => e = .ret (.agg (amov d s).cells) ∧ H' = H) := by
  refine acalls_tidy (acalls_of_vc (hn := fun _ => false) (od := fun _ => none) Try.func49 rfl (by kernel_rfl) ?_)
  simp -dsimp
  exact tidy_same rfl ⟨rfl, rfl⟩
/-- A table of numbers. -/
def tabM (l : List (Int × Int)) : List (Value × AV) := l.map fun p => (.int .i64 p.1, I p.2)
theorem tab_find (n : Int) (l : List (Int × Int)) : mfind (.int .i64) (.int .i64 n) (tabM l) = some ((l.lookup n).map I) := by
  induction l with
  | nil => rfl
  | cons a l ih =>
    have : tabM (a :: l) = (.int .i64 a.1, I a.2) :: tabM l := rfl
    rw [this, mfind, sameNow_i64, List.lookup]
    cases h : n == a.1 with
    | true => simp
    | false => simp only [ih]
theorem mset_nil (k : Value) (x : AV) : mset (.int .i64) k x [] = some [(k, x)] := rfl
theorem mset_cons (n m : Int) (x v : AV) (rest : List (Value × AV)) : mset (.int .i64) (.int .i64 n) x ((.int .i64 m, v) :: rest) = if n = m then some ((.int .i64 n, x) :: rest) else (mset (.int .i64) (.int .i64 n) x rest).map ((.int .i64 m, v) :: ·) := by
  rw [mset, sameNow_i64]
  by_cases h : n = m
  · simp [h]
  · have e : (n == m) = false := by simp [h]
    rw [e, if_neg h]
def binT : List (Int × Int) := [(6, 1), (7, 3), (8, 8), (9, 5), (10, 6), (11, 7)]
def shiftT : List (Int × Int) := [(12, 1), (13, 2), (14, 3), (15, 4), (16, 5)]
def condT : List (Int × Int) := [(17, 4), (18, 5), (19, 2), (20, 6)]
theorem bins_ok (H : List Blk) : ACalls Try.prog 97 [] H (fun e H' => e = .ret (.hm H.length) ∧ H' = H ++ [.map (tabM binT)]) := by
  refine acalls_of_vc (hn := fun _ => false) (od := fun _ => none) Try.func97 rfl (by kernel_rfl) ?_
  simp -dsimp [mset_nil, mset_cons]
  rfl
theorem shifts_ok (H : List Blk) : ACalls Try.prog 98 [] H (fun e H' => e = .ret (.hm H.length) ∧ H' = H ++ [.map (tabM shiftT)]) := by
  refine acalls_of_vc (hn := fun _ => false) (od := fun _ => none) Try.func98 rfl (by kernel_rfl) ?_
  simp -dsimp [mset_nil, mset_cons]
  rfl
theorem conds_ok (H : List Blk) : ACalls Try.prog 99 [] H (fun e H' => e = .ret (.hm H.length) ∧ H' = H ++ [.map (tabM condT)]) := by
  refine acalls_of_vc (hn := fun _ => false) (od := fun _ => none) Try.func99 rfl (by kernel_rfl) ?_
  simp -dsimp [mset_nil, mset_cons]
  rfl
theorem place_ok (l : List Int) (op : Int) (hl : l.length ≤ 2^40) (H : List Blk) : ACalls Try.prog 77 [.vs 1 (l.map fun n => [I n]), I op] H (fun e H' => e = .ret (I (idxP (· == op) l 0)) ∧ H' = H) := by
  refine acalls_of_vc (hn := fun _ => false) (od := fun _ => none) Try.func77 rfl (by kernel_rfl) ?_
  simp -dsimp
  refine loop_rule (hn := fun _ => false) (od := fun _ => none) (fun (i : Nat) f H' => H' = H ∧ f 0 = .vs 1 (l.map fun n => [I n]) ∧ f 1 = I op ∧ f 5 = I i ∧ i ≤ l.length ∧ idxP (· == op) (l.drop i) i = idxP (· == op) l 0) (fun i => l.length - i) (by kernel_rfl) 0 (by simp) ?_
  rintro i f H' ⟨rfl, f0, f1, f5, hi, ht⟩
  simp -dsimp [f0, f1, f5]
  refine condVW_introD (fun hlt => ?_) (fun hlt => ?_)
  · simp -dsimp [f0, f1, f5, List.getElem?_eq_getElem, hlt]
    rw [drop_cons hlt, idxP] at ht
    refine condVW_introD (fun he => ?_) (fun he => ?_)
    · simp -dsimp [f5]
      rw [if_pos (by simp [he])] at ht
      simp [← ht]
    · simp -dsimp [f5]
      rw [if_neg (by simp [he])] at ht
      exact ⟨i + 1, by omega, f0, f1, wrapS (by omega), by omega, by simpa using ht⟩
  · simp -dsimp [f0, f1, f5]
    rw [drop_end hlt, idxP] at ht
    exact ht
end Go.Proofs
namespace Go.Proofs
open Go.Mu
/-- The instructions of an operation. -/
def doesL (x : Ins) : List Amd :=
  match binT.lookup x.op with
  | some v => [amov 0 (regOf x.a), amd 5 v 0 0 0 (regOf x.b), amov (regOf x.d) 0]
  | none => match shiftT.lookup x.op with
    | some v => [amov 1 (regOf x.b), amov 0 (regOf x.a), amd 7 0 v 0 0 0, amov (regOf x.d) 0]
    | none => match condT.lookup x.op with
      | some v => [amd 11 0 0 0 (regOf x.a) (regOf x.b), amd 2 0 0 0 0 0, amd 14 0 0 v 0 0, amd 15 0 0 0 (regOf x.d) 0]
      | none => if x.op = 4 then [amov 0 (regOf x.a), amd 9 0 0 0 0 0, amov (regOf x.d) 0]
        else if x.op = 5 then [amov 0 (regOf x.a), amd 10 0 0 0 0 0, amov (regOf x.d) 0]
        else [amd 12 0 0 0 (regOf x.a) (regOf x.a), amov 0 (regOf x.c), amd 16 0 0 5 0 (regOf x.b), amov (regOf x.d) 0]
abbrev R11 (n : Int) : Prop := 0 ≤ n ∧ n < 11
theorem getDI (o : Option Int) : (o.map I).getD (assertV.avZ (Value.int .i64 0)) = I (o.getD 0) := by cases o <;> rfl
theorem isSomeI (o : Option Int) : (o.map I).isSome = o.isSome := by cases o <;> rfl
theorem does_ok (x : Ins) (ha : R11 x.a) (hb : R11 x.b) (hc : R11 x.c) (hd : R11 x.d) (H : List Blk) : ACalls Try.prog 76 [.agg x.cells] H (fun e H' => e = .ret (Amd.sl (doesL x)) ∧ H' = H) := by
  refine acalls_tidy (acalls_of_vc (hn := fun d => d == 27 || d == 43 || d == 60) (od := fun i => if i = 3 then some [(1, []), (2, []), (0, [1, 2]), (3, []), (4, []), (5, []), (6, []), (7, []), (8, [])] else if i = 6 then some [(1, []), (2, []), (0, [1, 2]), (3, []), (4, []), (5, []), (6, []), (7, []), (8, [])] else if i = 9 then some [(1, []), (2, []), (0, [1, 2]), (3, []), (4, []), (5, []), (6, []), (7, []), (8, [])] else none) Try.func76 rfl (by kernel_rfl) ?_)
  have c := regs_ok
  have m := mov_ok
  have f1 := fun n => tab_find n binT
  have f2 := fun n => tab_find n shiftT
  have f3 := fun n => tab_find n condT
  simp -dsimp
  repeat' ((with_reducible first | refine And.intro ?_ ?_ | refine guardVW_introTD (fun _ => ?_) (fun _ => ?_) | refine guardVW_introFD (fun _ => ?_) (fun _ => ?_) | refine condVW_introD (fun _ => ?_) (fun _ => ?_) | refine guardVW_introTE (fun _ => ?_) (fun _ _ _ => ?_) | refine guardVW_introFE (fun _ => ?_) (fun _ _ _ => ?_) | refine condVW_introE (fun _ => ?_) (fun _ _ _ => ?_) | refine guardVW_introTNE (fun _ _ _ => ?_) (fun _ => ?_) | refine guardVW_introFNE (fun _ _ _ => ?_) (fun _ => ?_) | refine condVW_introNE (fun _ _ _ => ?_) (fun _ => ?_) | refine guardVW_introTB (fun _ => ?_) (fun _ => ?_) | refine guardVW_introFB (fun _ => ?_) (fun _ => ?_) | refine condVW_introB (fun _ => ?_) (fun _ => ?_) | refine guardVW_introT (fun _ => ?_) (fun _ => ?_) | refine guardVW_introF (fun _ => ?_) (fun _ => ?_) | refine condVW_intro (fun _ => ?_) (fun _ => ?_) | refine acallsW_det (c _) ?_ | refine callDW_intro (c _) ?_ | refine acallsW_det (m _ _ _) ?_ | refine callDW_intro (m _ _ _) ?_ | (refine acallsW_of (bins_ok _) (fun e H' hq => ?_); obtain ⟨rfl, rfl⟩ := hq) | (refine acallsW_of (shifts_ok _) (fun e H' hq => ?_); obtain ⟨rfl, rfl⟩ := hq) | (refine acallsW_of (conds_ok _) (fun e H' hq => ?_); obtain ⟨rfl, rfl⟩ := hq)) <;> simp -dsimp [*, regA_get, getDI, isSomeI])
  all_goals refine tidy_same rfl ⟨?_, rfl⟩
  all_goals clear c m f1 f2 f3
  all_goals unfold doesL
  all_goals generalize List.lookup x.op binT = o1 at *
  all_goals generalize List.lookup x.op shiftT = o2 at *
  all_goals generalize List.lookup x.op condT = o3 at *
  all_goals (cases o1 <;> cases o2 <;> cases o3)
  all_goals simp_all
theorem rdoes_at (op : Int) (hop : op ∈ ([4, 5, 6, 7, 8, 9, 10, 11, 12, 13, 14, 15, 16, 17, 18, 19, 20, 21] : List Int)) (x : Ins) (hx : x.op = op) (ha : R11 x.a) (hb : R11 x.b) (hc : R11 x.c) (hd : R11 x.d) (H : List Blk) : ACalls Try.prog 50 [.agg x.cells] H (fun e H' => e = .ret (Amd.sl (doesL x)) ∧ H' = H) := by
  have p1 := fun H => place_ok [6, 7, 8, 9, 10, 11] op (by decide) H
  have p2 := fun H => place_ok [12, 13, 14, 15, 16] op (by decide) H
  have p3 := fun H => place_ok [17, 18, 19, 20] op (by decide) H
  simp only [List.map_cons, List.map_nil] at p1 p2 p3
  simp only [List.mem_cons, List.not_mem_nil, or_false] at hop
  refine acalls_tidy (acalls_of_vc (hn := fun d => false) (od := fun _ => none) Try.func50 rfl (by kernel_rfl) ?_)
  have c := rregs_ok
  have m := rmov_ok
  rcases hop with rfl | rfl | rfl | rfl | rfl | rfl | rfl | rfl | rfl | rfl | rfl | rfl | rfl | rfl | rfl | rfl | rfl | rfl
  all_goals (simp only [idxP, hx] at p1 p2 p3)
  all_goals (simp at p1 p2 p3)
  all_goals simp -dsimp [hx]
  all_goals repeat' ((with_reducible first | refine And.intro ?_ ?_ | refine guardVW_introTD (fun _ => ?_) (fun _ => ?_) | refine guardVW_introFD (fun _ => ?_) (fun _ => ?_) | refine condVW_introD (fun _ => ?_) (fun _ => ?_) | refine guardVW_introTE (fun _ => ?_) (fun _ _ _ => ?_) | refine guardVW_introFE (fun _ => ?_) (fun _ _ _ => ?_) | refine condVW_introE (fun _ => ?_) (fun _ _ _ => ?_) | refine guardVW_introTNE (fun _ _ _ => ?_) (fun _ => ?_) | refine guardVW_introFNE (fun _ _ _ => ?_) (fun _ => ?_) | refine condVW_introNE (fun _ _ _ => ?_) (fun _ => ?_) | refine guardVW_introTB (fun _ => ?_) (fun _ => ?_) | refine guardVW_introFB (fun _ => ?_) (fun _ => ?_) | refine condVW_introB (fun _ => ?_) (fun _ => ?_) | refine guardVW_introT (fun _ => ?_) (fun _ => ?_) | refine guardVW_introF (fun _ => ?_) (fun _ => ?_) | refine condVW_intro (fun _ => ?_) (fun _ => ?_) | refine acallsW_det (c _) ?_ | refine callDW_intro (c _) ?_ | refine acallsW_det (p1 _) ?_ | refine callDW_intro (p1 _) ?_ | refine acallsW_det (p2 _) ?_ | refine callDW_intro (p2 _) ?_ | refine acallsW_det (p3 _) ?_ | refine callDW_intro (p3 _) ?_ | refine acallsW_det (m _ _ _) ?_ | refine callDW_intro (m _ _ _) ?_) <;> simp -dsimp [*, regS_get])
  all_goals first | exact tidy_same rfl ⟨by unfold doesL; rw [hx]; rfl, rfl⟩ | trace_state
end Go.Proofs
namespace Go.Proofs
open Go.Mu
/-- Where a load or a store is. -/
def placed (op dst src : Int) (i : Ins) : Amd :=
  ⟨op, 0, 0, 0, dst, src, 0, if i.stack then 4 else 0, if 0 ≤ i.a then regOf i.a else 0, i.stack, decide (0 ≤ i.a), IntKind.i64.wrap i.word, 0⟩
/-- The instructions of a line, its label being another. -/
def lineL (x : Line) (label : Int) : List Amd :=
  if x.kind = 2 then [⟨19, 0, 0, 0, 0, 0, 0, 0, 0, false, false, 0, label⟩]
  else if x.kind = 3 then [⟨17, 0, 0, 0, 0, 0, 0, 0, 0, false, false, 0, label⟩]
  else if x.kind = 4 then [amd 12 0 0 0 (regOf x.var) (regOf x.var), ⟨18, 0, 0, 4, 0, 0, 0, 0, 0, false, false, 0, label⟩]
  else if x.kind = 5 then [amd 20 0 0 0 0 0]
  else if x.ins.kind = 1 then [⟨2, 0, 0, 0, regOf x.ins.d, 0, x.ins.word, 0, 0, false, false, 0, 0⟩]
  else if x.ins.kind = 2 then [amov (regOf x.ins.d) (regOf x.ins.a)]
  else if x.ins.kind = 3 then doesL x.ins
  else if x.ins.kind = 4 then [placed 3 (regOf x.ins.d) 0 x.ins]
  else [placed 4 0 (regOf x.ins.b) x.ins]
/-- What a line needs to be made. -/
structure LineIn (x : Line) : Prop where
  kind : 1 ≤ x.kind ∧ x.kind ≤ 5
  var : x.kind = 4 → R11 x.var
  ins : x.kind = 1 → 1 ≤ x.ins.kind ∧ x.ins.kind ≤ 5 ∧ (x.ins.kind ≤ 3 → R11 x.ins.a) ∧ x.ins.a < 11 ∧ R11 x.ins.b ∧ R11 x.ins.c ∧ R11 x.ins.d ∧ (x.ins.kind = 3 → 4 ≤ x.ins.op ∧ x.ins.op ≤ 21)
theorem line_ok (x : Line) (label : Int) (h : LineIn x) (H : List Blk) : ACalls Try.prog 48 [.agg x.cells, I label] H (fun e H' => e = .ret (Amd.sl (lineL x label)) ∧ H' = H) := by
  refine acalls_tidy (acalls_of_vc (hn := fun _ => false) (od := fun _ => none) Try.func48 rfl (by kernel_rfl) ?_)
  have c := regs_ok
  have m := mov_ok
  obtain ⟨hk, hv, hi⟩ := h
  by_cases hk1 : x.kind = 1
  · obtain ⟨h1, h2, h3, h4, h5, h6, h7, h8⟩ := hi hk1
    have d : ∀ (k : Int) (s : Bool), x.ins.kind = k → x.ins.stack = s → R11 x.ins.a → ∀ H, ACalls Try.prog 76 [.agg [I k, I x.ins.op, I x.ins.d, I x.ins.a, I x.ins.b, I x.ins.c, U x.ins.word, Bo s]] H (fun e H' => e = .ret (Amd.sl (doesL x.ins)) ∧ H' = H) := by
      intro k s hk hs ha H; subst hk; subst hs; exact does_ok x.ins ha h5 h6 h7 H
    replace hv := Hid.mk hv
    clear hi hk
    simp -dsimp [hk1]
    repeat' ((with_reducible first | refine And.intro ?_ ?_ | refine guardVW_introTD (fun _ => ?_) (fun _ => ?_) | refine guardVW_introFD (fun _ => ?_) (fun _ => ?_) | refine condVW_introD (fun _ => ?_) (fun _ => ?_) | refine guardVW_introTE (fun _ => ?_) (fun _ _ _ => ?_) | refine guardVW_introFE (fun _ => ?_) (fun _ _ _ => ?_) | refine condVW_introE (fun _ => ?_) (fun _ _ _ => ?_) | refine guardVW_introTNE (fun _ _ _ => ?_) (fun _ => ?_) | refine guardVW_introFNE (fun _ _ _ => ?_) (fun _ => ?_) | refine condVW_introNE (fun _ _ _ => ?_) (fun _ => ?_) | refine guardVW_introTB (fun _ => ?_) (fun _ => ?_) | refine guardVW_introFB (fun _ => ?_) (fun _ => ?_) | refine condVW_introB (fun _ => ?_) (fun _ => ?_) | refine guardVW_introT (fun _ => ?_) (fun _ => ?_) | refine guardVW_introF (fun _ => ?_) (fun _ => ?_) | refine condVW_intro (fun _ => ?_) (fun _ => ?_) | refine acallsW_det (c _) ?_ | refine callDW_intro (c _) ?_ | refine acallsW_det (m _ _ _) ?_ | refine callDW_intro (m _ _ _) ?_) <;> simp -dsimp [*, regA_get])
    all_goals first
      | (refine tidy_same rfl ⟨?_, rfl⟩; simp [lineL, placed, *]; done)
      | (rename_i hk3; refine acallsW_det (d 3 _ hk3 (by assumption) (h3 (by omega)) _) ?_; simp -dsimp [*]; refine tidy_same rfl ⟨?_, rfl⟩; simp [lineL, placed, *]; done)
      | trace_state
  · clear hi
    replace hk := Hid.mk hk
    simp -dsimp
    repeat' ((with_reducible first | refine And.intro ?_ ?_ | refine guardVW_introTD (fun _ => ?_) (fun _ => ?_) | refine guardVW_introFD (fun _ => ?_) (fun _ => ?_) | refine condVW_introD (fun _ => ?_) (fun _ => ?_) | refine guardVW_introTE (fun _ => ?_) (fun _ _ _ => ?_) | refine guardVW_introFE (fun _ => ?_) (fun _ _ _ => ?_) | refine condVW_introE (fun _ => ?_) (fun _ _ _ => ?_) | refine guardVW_introTNE (fun _ _ _ => ?_) (fun _ => ?_) | refine guardVW_introFNE (fun _ _ _ => ?_) (fun _ => ?_) | refine condVW_introNE (fun _ _ _ => ?_) (fun _ => ?_) | refine guardVW_introTB (fun _ => ?_) (fun _ => ?_) | refine guardVW_introFB (fun _ => ?_) (fun _ => ?_) | refine condVW_introB (fun _ => ?_) (fun _ => ?_) | refine guardVW_introT (fun _ => ?_) (fun _ => ?_) | refine guardVW_introF (fun _ => ?_) (fun _ => ?_) | refine condVW_intro (fun _ => ?_) (fun _ => ?_) | refine acallsW_det (c _) ?_ | refine callDW_intro (c _) ?_) <;> simp -dsimp [*, regA_get])
    all_goals first | (refine tidy_same rfl ⟨?_, rfl⟩; simp [lineL, *]; done) | (have := hk.out; omega)
theorem rline_ok (x : Line) (label : Int) (h : LineIn x) (H : List Blk) : ACalls Try.prog 22 [.agg x.cells, I label] H (fun e H' => e = .ret (Amd.sl (lineL x label)) ∧ H' = H) := by
  refine acalls_tidy (acalls_of_vc (hn := fun _ => false) (od := fun _ => none) Try.func22 rfl (by kernel_rfl) ?_)
  have c := rregs_ok
  have m := rmov_ok
  obtain ⟨hk, hv, hi⟩ := h
  by_cases hk1 : x.kind = 1
  · obtain ⟨h1, h2, h3, h4, h5, h6, h7, h8⟩ := hi hk1
    have d := fun (a : x.ins.kind = 3) H => rdoes_at x.ins.op (by have := h8 a; simp; omega) x.ins rfl (h3 (by omega)) h5 h6 h7 H
    simp only [Ins.cells] at d
    replace hv := Hid.mk hv
    clear hi hk
    simp -dsimp [hk1]
    repeat' ((with_reducible first | refine And.intro ?_ ?_ | refine guardVW_introTD (fun _ => ?_) (fun _ => ?_) | refine guardVW_introFD (fun _ => ?_) (fun _ => ?_) | refine condVW_introD (fun _ => ?_) (fun _ => ?_) | refine guardVW_introTE (fun _ => ?_) (fun _ _ _ => ?_) | refine guardVW_introFE (fun _ => ?_) (fun _ _ _ => ?_) | refine condVW_introE (fun _ => ?_) (fun _ _ _ => ?_) | refine guardVW_introTNE (fun _ _ _ => ?_) (fun _ => ?_) | refine guardVW_introFNE (fun _ _ _ => ?_) (fun _ => ?_) | refine condVW_introNE (fun _ _ _ => ?_) (fun _ => ?_) | refine guardVW_introTB (fun _ => ?_) (fun _ => ?_) | refine guardVW_introFB (fun _ => ?_) (fun _ => ?_) | refine condVW_introB (fun _ => ?_) (fun _ => ?_) | refine guardVW_introT (fun _ => ?_) (fun _ => ?_) | refine guardVW_introF (fun _ => ?_) (fun _ => ?_) | refine condVW_intro (fun _ => ?_) (fun _ => ?_) | refine acallsW_det (c _) ?_ | refine callDW_intro (c _) ?_ | refine acallsW_det (m _ _ _) ?_ | refine callDW_intro (m _ _ _) ?_ | refine acallsW_det (d (by assumption) _) ?_ | refine callDW_intro (d (by assumption) _) ?_) <;> simp -dsimp [*, regS_get])
    all_goals first
      | (refine tidy_same rfl ⟨?_, rfl⟩; simp [lineL, placed, *]; done)
      | (rename_i hk3; have d := d hk3; rw [hk3] at d; refine acallsW_det (d _) ?_; simp -dsimp [*]; refine tidy_same rfl ⟨?_, rfl⟩; simp [lineL, placed, *]; done)
      | trace_state
  · clear hi
    replace hk := Hid.mk hk
    simp -dsimp
    repeat' ((with_reducible first | refine And.intro ?_ ?_ | refine guardVW_introTD (fun _ => ?_) (fun _ => ?_) | refine guardVW_introFD (fun _ => ?_) (fun _ => ?_) | refine condVW_introD (fun _ => ?_) (fun _ => ?_) | refine guardVW_introTE (fun _ => ?_) (fun _ _ _ => ?_) | refine guardVW_introFE (fun _ => ?_) (fun _ _ _ => ?_) | refine condVW_introE (fun _ => ?_) (fun _ _ _ => ?_) | refine guardVW_introTNE (fun _ _ _ => ?_) (fun _ => ?_) | refine guardVW_introFNE (fun _ _ _ => ?_) (fun _ => ?_) | refine condVW_introNE (fun _ _ _ => ?_) (fun _ => ?_) | refine guardVW_introTB (fun _ => ?_) (fun _ => ?_) | refine guardVW_introFB (fun _ => ?_) (fun _ => ?_) | refine condVW_introB (fun _ => ?_) (fun _ => ?_) | refine guardVW_introT (fun _ => ?_) (fun _ => ?_) | refine guardVW_introF (fun _ => ?_) (fun _ => ?_) | refine condVW_intro (fun _ => ?_) (fun _ => ?_) | refine acallsW_det (c _) ?_ | refine callDW_intro (c _) ?_) <;> simp -dsimp [*, regS_get])
    all_goals first | (refine tidy_same rfl ⟨?_, rfl⟩; simp [lineL, *]; done) | (have := hk.out; omega) | trace_state
end Go.Proofs
namespace Go.Proofs
open Go.Mu
theorem amd_nq (x y : Amd) : binE Try.prog .neq 69 (.agg x.cells) (.agg y.cells) = some (Bo (!decide (x = y))) := by
  simp only [Amd.cells, I, U, Bo]
  rw [Try.nq69]
  congr 3
  congr 1
  rw [Bool.eq_iff_iff]
  simp [Amd.ext_iff, and_assoc]
theorem sameAmds_ok (a b : List Amd) (ha : a.length ≤ 2^40) (H : List Blk) : ACalls Try.prog 21 [Amd.sl a, Amd.sl b] H (fun e H' => e = .ret (Bo (decide (a = b))) ∧ H' = H) := by
  refine acalls_of_vc (hn := fun d => false) (od := fun i => none) Try.func21 rfl (by kernel_rfl) ?_
  have hnq := fun (x y : Amd) => amd_nq x y
  simp only [Amd.cells] at hnq
  simp -dsimp
  refine condVW_introNE (fun hn _ _ => ?_) (fun hn => ?_)
  · simp -dsimp
    rintro rfl; exact hn rfl
  have hab : a.length = b.length := by omega
  simp -dsimp
  refine loop_rule (hn := fun _ => false) (od := fun _ => none) (fun (i : Nat) f H' => H' = H ∧ f 0 = Amd.sl a ∧ f 1 = Amd.sl b ∧ f 5 = I i ∧ i ≤ a.length ∧ a.take i = b.take i) (fun i => a.length - i) (by kernel_rfl) 0 (by simp) ?_
  rintro i f H' ⟨rfl, f0, f1, f5, hi, hok⟩
  simp -dsimp [f0, f1, f5]
  refine condVW_introD (fun hlt => ?_) (fun hlt => ?_)
  · have hlt' : i < b.length := by omega
    have hne' : a = b → a[i] = b[i] := by rintro rfl; rfl
    simp -dsimp [f0, f1, f5, List.getElem?_eq_getElem, hlt, hlt', hnq]
    refine condVW_intro (fun hne => ?_) (fun heq => ?_)
    · simp -dsimp
      simp only [Bool.not_eq_true', decide_eq_false_iff_not] at hne
      exact fun h => hne (hne' h)
    · simp only [Bool.not_eq_false', decide_eq_true_eq] at heq
      simp -dsimp [f0, f1, f5]
      exact ⟨i + 1, by omega, wrapS (by omega), by omega, take_next hlt hlt' hok heq⟩
  · simp -dsimp [f0, f1, f5]
    rw [List.take_of_length_le (by omega), List.take_of_length_le (by omega)] at hok
    exact hok
/-- Is this number short? -/
def short (w : Int) : Bool := IntKind.u64.wrap (IntKind.i64.wrap (IntKind.i32.wrap w)) == w
theorem short_eq (w : Int) (h0 : 0 ≤ w) (h1 : w < 18446744073709551616) : short w = (decide (-2147483648 ≤ IntKind.i64.wrap w) && decide (IntKind.i64.wrap w ≤ 2147483647)) := by
  rw [Bool.eq_iff_iff]
  simp [short, IntKind.wrap, IntKind.bits, IntKind.signed]
  omega
theorem short_ok (w : Int) (H : List Blk) : ACalls Try.prog 74 [U w] H (fun e H' => e = .ret (Bo (short w)) ∧ H' = H) := by
  refine acalls_of_vc (hn := fun _ => false) (od := fun _ => none) Try.func74 rfl (by kernel_rfl) ?_
  simp -dsimp [short]
/-- Is this a line with a number that is too long? -/
def longIns (x : Line) : Bool := x.kind == 1 && (x.ins.kind == 4 || x.ins.kind == 5) && !short x.ins.word
theorem long_ok (x : Line) (H : List Blk) : ACalls Try.prog 73 [.agg x.cells] H (fun e H' => e = .ret (Bo (longIns x)) ∧ H' = H) := by
  refine acalls_tidy (acalls_of_vc (hn := fun _ => false) (od := fun _ => none) Try.func73 rfl (by kernel_rfl) ?_)
  have c := short_ok
  simp -dsimp
  repeat' ((with_reducible first | refine And.intro ?_ ?_ | refine guardVW_introTD (fun _ => ?_) (fun _ => ?_) | refine guardVW_introFD (fun _ => ?_) (fun _ => ?_) | refine condVW_introD (fun _ => ?_) (fun _ => ?_) | refine guardVW_introTE (fun _ => ?_) (fun _ _ _ => ?_) | refine guardVW_introFE (fun _ => ?_) (fun _ _ _ => ?_) | refine condVW_introE (fun _ => ?_) (fun _ _ _ => ?_) | refine guardVW_introTNE (fun _ _ _ => ?_) (fun _ => ?_) | refine guardVW_introFNE (fun _ _ _ => ?_) (fun _ => ?_) | refine condVW_introNE (fun _ _ _ => ?_) (fun _ => ?_) | refine guardVW_introTB (fun _ => ?_) (fun _ => ?_) | refine guardVW_introFB (fun _ => ?_) (fun _ => ?_) | refine condVW_introB (fun _ => ?_) (fun _ => ?_) | refine guardVW_introT (fun _ => ?_) (fun _ => ?_) | refine guardVW_introF (fun _ => ?_) (fun _ => ?_) | refine condVW_intro (fun _ => ?_) (fun _ => ?_) | refine acallsW_det (c _ _) ?_ | refine callDW_intro (c _ _) ?_) <;> simp -dsimp [*])
  all_goals (refine tidy_same rfl ⟨?_, rfl⟩; simp [longIns, *])
/-- Why linear code can't be made; 0: it can. -/
def wrongL (l : Linear) : Int := if l.ok = false then 2 else if 11 < l.vars then 5 else if l.code.any longIns = true then 3 else 0
theorem wrong_ok (l : Linear) (hp : l.params.length ≤ 2^40) (hr : l.rets.length ≤ 2^40) (hc : l.code.length ≤ 2^40) (H : List Blk) : ACalls Try.prog 47 [.agg l.cells] H (fun e H' => e = .ret (I (wrongL l)) ∧ H' = H) := by
  refine acalls_tidy (acalls_of_vc (hn := fun _ => false) (od := fun _ => none) Try.func47 rfl (by kernel_rfl) ?_)
  have c := regs_ok
  have lo := fun H => linear_ok l hp hr hc H
  simp only [Linear.cells] at lo
  have cf := fun H => containsFuncL_ok (g := 73) (cap := []) longIns l.code H (by omega) (by kernel_rfl) (fun x _ => long_ok x H)
  simp -dsimp
  repeat' ((with_reducible first | refine And.intro ?_ ?_ | refine guardVW_introTD (fun _ => ?_) (fun _ => ?_) | refine guardVW_introFD (fun _ => ?_) (fun _ => ?_) | refine condVW_introD (fun _ => ?_) (fun _ => ?_) | refine guardVW_introTE (fun _ => ?_) (fun _ _ _ => ?_) | refine guardVW_introFE (fun _ => ?_) (fun _ _ _ => ?_) | refine condVW_introE (fun _ => ?_) (fun _ _ _ => ?_) | refine guardVW_introTNE (fun _ _ _ => ?_) (fun _ => ?_) | refine guardVW_introFNE (fun _ _ _ => ?_) (fun _ => ?_) | refine condVW_introNE (fun _ _ _ => ?_) (fun _ => ?_) | refine guardVW_introTB (fun _ => ?_) (fun _ => ?_) | refine guardVW_introFB (fun _ => ?_) (fun _ => ?_) | refine condVW_introB (fun _ => ?_) (fun _ => ?_) | refine guardVW_introT (fun _ => ?_) (fun _ => ?_) | refine guardVW_introF (fun _ => ?_) (fun _ => ?_) | refine condVW_intro (fun _ => ?_) (fun _ => ?_) | refine acallsW_det (c _) ?_ | refine callDW_intro (c _) ?_ | refine acallsW_det (lo _) ?_ | refine callDW_intro (lo _) ?_ | refine acallsW_det (cf _) ?_ | refine callDW_intro (cf _) ?_) <;> simp -dsimp [*])
  all_goals first | (refine tidy_same rfl ⟨?_, rfl⟩; simp [wrongL, *]; done) | trace_state
end Go.Proofs
