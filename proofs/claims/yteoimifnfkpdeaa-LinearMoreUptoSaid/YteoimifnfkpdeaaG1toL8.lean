/- What is used everywhere: words, lists, how a check ends. -/
import Derived.Test.YteoimifnfkpdeaaFacts
import Derived.Test.YteoimifnfkpdeaaFwQtoFwT
import Derived.Laws.Strings
import Derived.Test.YteoimifnfkpdeaaL1
set_option linter.unusedVariables false
set_option linter.unusedSimpArgs false
set_option maxHeartbeats 4000000
set_option maxRecDepth 100000
namespace Go.Proofs
open Go.Mu
abbrev I (n : Int) : AV := .v (.int .i64 n)
abbrev U (n : Int) : AV := .v (.int .u64 n)
abbrev Bo (b : Bool) : AV := .v (.bool b)
abbrev St (s : ByteArray) : AV := .v (.string s)
abbrev nilS : AV := .v (.slice none 0 0)
theorem wrapI {n : Int} (h1 : -9223372036854775808 ≤ n) (h2 : n ≤ 9223372036854775807) : IntKind.i64.wrap n = n := by
  simp [IntKind.wrap, IntKind.bits, IntKind.signed]
  omega
theorem drop_cons {α : Type} {l : List α} {i : Nat} (h : i < l.length) : l.drop i = l[i] :: l.drop (i + 1) := List.drop_eq_getElem_cons h
theorem drop_end {α : Type} {l : List α} {i : Nat} (h : ¬ i < l.length) : l.drop i = [] := List.drop_of_length_le (by omega)
theorem wrapS {i : Nat} (h : i < 4611686018427387904) : IntKind.i64.wrap ((i : Int) + 1) = ((i + 1 : Nat) : Int) := by
  rw [wrapI (by omega) (by omega)]; rfl
def idxP {α : Type} (p : α → Bool) : List α → Int → Int
  | [], _ => -1
  | a :: l, i => if p a then i else idxP p l (i + 1)
theorem idxP_any {α : Type} (p : α → Bool) : ∀ (l : List α) (i : Int), 0 ≤ i → decide (0 ≤ idxP p l i) = l.any p
  | [], i, h => by simp [idxP]
  | a :: l, i, h => by
    simp only [idxP, List.any_cons]
    split
    · rename_i hp; simp [hp, h]
    · rename_i hp; simp [hp, idxP_any p l (i + 1) (by omega)]
theorem ba_inj {a b : ByteArray} (h : a.toList = b.toList) : a = b := by
  rw [ByteArray.toList_eq, ByteArray.toList_eq] at h
  obtain ⟨⟨x⟩⟩ := a
  obtain ⟨⟨y⟩⟩ := b
  simp at h
  subst h; rfl
@[simp] theorem str_beq (a b : ByteArray) : (a.toList == b.toList) = decide (a = b) := by
  by_cases h : a = b
  · subst h; simp
  · rw [decide_eq_false h, beq_eq_false_iff_ne]
    exact fun e => h (ba_inj e)
def thenE (a b : Int) : Int := if a = 0 then b else a
@[simp] theorem thenE_zero (b : Int) : thenE 0 b = b := rfl
def mustE (b : Bool) (e : Int) : Int := if b then 0 else e
@[simp] theorem mustE_true (e : Int) : mustE true e = 0 := rfl
@[simp] theorem mustE_false (e : Int) : mustE false e = e := rfl
theorem condVW_introEq {a b : Int} {y n : Prop} {w : Wit y} {w' : Wit n} (hy : a = b → y) (hn : a ≠ b → n) : condVW (.v (.bool (a == b))) y n w w' := condVW_introE hy fun h _ _ => hn h
end Go.Proofs
namespace Go.Proofs
open Go.Mu
@[ext] structure Ins where
  (kind op d a b c word : Int)
  stack : Bool
deriving DecidableEq
@[ext] structure Line where
  kind : Int
  ins : Ins
  (var label : Int)
deriving DecidableEq
structure Linear where
  vars : Int
  params : List Int
  rets : List Int
  frame : Int
  code : List Line
deriving DecidableEq
@[simp] def Ins.cells (i : Ins) : List AV := [I i.kind, I i.op, I i.d, I i.a, I i.b, I i.c, U i.word, Bo i.stack]
@[simp] def Line.cells (l : Line) : List AV := [I l.kind, I l.ins.kind, I l.ins.op, I l.ins.d, I l.ins.a, I l.ins.b, I l.ins.c, U l.ins.word, Bo l.ins.stack, I l.var, I l.label]
abbrev Line.sl (l : List Line) : AV := .vs 11 (l.map Line.cells)
abbrev Int.sl (l : List Int) : AV := .vs 1 (l.map fun n => [I n])
@[simp] def Linear.cells (f : Linear) : List AV := [I f.vars, Int.sl f.params, Int.sl f.rets, I f.frame, Line.sl f.code]
def putI (n : Int) : List Int → List Int
  | [] => [n]
  | x :: l => if x = n then x :: l else if n < x then n :: x :: l else x :: putI n l
def riseL (l : List Int) : List Int := l.foldl (fun l n => putI n l) []
def Line.raw (x : Line) : List Int :=
  if x.kind = 4 then [x.var]
  else if x.kind = 1 then
    if x.ins.kind = 2 then [x.ins.a]
    else if x.ins.kind = 3 then [x.ins.a] ++ (if x.ins.op = 4 ∨ x.ins.op = 5 then [] else [x.ins.b]) ++ (if x.ins.op = 21 then [x.ins.c] else [])
    else if x.ins.kind = 5 then [x.ins.b] ++ (if 0 ≤ x.ins.a then [x.ins.a] else [])
    else if x.ins.kind = 4 then (if 0 ≤ x.ins.a then [x.ins.a] else [])
    else []
  else []
def Line.defs (x : Line) : List Int := if x.kind = 1 ∧ x.ins.kind ≠ 5 then [x.ins.d] else []
def isLab (lab : Int) (x : Line) : Bool := x.kind == 2 && x.label == lab
def whr (c : List Line) (lab : Int) : Nat := c.findIdx (isLab lab)
def nxt (l : Linear) (i : Nat) : List Int := match l.code[i]? with
  | none => []
  | some x => if x.kind = 5 then [(l.code.length : Int)] else if x.kind = 3 then [(whr l.code x.label : Int)] else if x.kind = 4 then riseL [(i : Int) + 1, (whr l.code x.label : Int)] else [(i : Int) + 1]
inductive LiveAt (l : Linear) : Nat → Int → Prop
  | told {v : Int} : v ∈ l.rets → LiveAt l l.code.length v
  | read {i : Nat} {x : Line} {v : Int} : l.code[i]? = some x → v ∈ x.raw → LiveAt l i v
  | way {i k : Nat} {x : Line} {v : Int} : l.code[i]? = some x → v ∉ x.defs → (k : Int) ∈ nxt l i → LiveAt l k v → LiveAt l i v
end Go.Proofs
namespace Go.Proofs.Yteoimifnfkpdeaa.Lift
open Go.ChangeShapes Go.WideShapes Go.ChangeAt Go.RowKit Go.Mu Go.Proofs
section
variable {H : Type} {enc : TypeId × Value → H} {cx : Cx}
theorem tells_i (t : TypeId) (h : Try.prog.underlying t = some (.int .i64)) (n : Nat) : Tells enc Try.prog cx n t (fun i : Int => [I i]) (fun _ => 1) (fun i => -9223372036854775808 ≤ i ∧ i ≤ 9223372036854775807) := tells_int h
theorem tells_u (n : Nat) : Tells enc Try.prog cx n 41 (fun i : Int => [U i]) (fun _ => 1) (fun i => 0 ≤ i ∧ i ≤ 18446744073709551615) := tells_int (by kernel_rfl)
theorem tells_b (n : Nat) : Tells enc Try.prog cx n 4 (fun b : Bool => [Bo b]) (fun _ => 1) (fun _ => True) := tells_bool (by kernel_rfl)
def wordIn (x : Line) : Prop := 0 ≤ x.ins.word ∧ x.ins.word ≤ 18446744073709551615
theorem tells_ins : ∀ n, Tells enc Try.prog cx n 43 Ins.cells (fun _ => 1) (fun x => 0 ≤ x.word ∧ x.word ≤ 18446744073709551615)
  | 0 => tells_zero
  | n + 1 => (tells_struct (fl := [(39, 0, 1), (40, 1, 1), (3, 2, 1), (3, 3, 1), (3, 4, 1), (3, 5, 1), (41, 6, 1), (4, 7, 1)]) (by kernel_rfl) (by kernel_rfl)
      (tellsF_cons (tells_i 39 (by kernel_rfl) n) (tellsF_cons (tells_i 40 (by kernel_rfl) n) (tellsF_cons (tells_i 3 (by kernel_rfl) n) (tellsF_cons (tells_i 3 (by kernel_rfl) n) (tellsF_cons (tells_i 3 (by kernel_rfl) n) (tellsF_cons (tells_i 3 (by kernel_rfl) n)
        (tellsF_cons (tells_u n) (tellsF_cons (tells_b n) tellsF_nil))))))))).map
      (fun (a0, a1, a2, a3, a4, a5, a6, a7, _) => ⟨a0, a1, a2, a3, a4, a5, a6, a7⟩) (fun _ => rfl) (fun _ => by simp) (fun a h => h.2.2.2.2.2.2.1)
theorem tells_line : ∀ n, Tells enc Try.prog cx n 45 Line.cells (fun _ => 1) wordIn
  | 0 => tells_zero
  | n + 1 => (tells_struct (fl := [(38, 0, 1), (43, 1, 8), (3, 9, 1), (3, 10, 1)]) (by kernel_rfl) (by kernel_rfl)
      (tellsF_cons (tells_i 38 (by kernel_rfl) n) (tellsF_cons (tells_ins n) (tellsF_cons (tells_i 3 (by kernel_rfl) n) (tellsF_cons (tells_i 3 (by kernel_rfl) n) tellsF_nil))))).map
      (fun (a0, a1, a2, a3, _) => ⟨a0, a1, a2, a3⟩) (fun _ => rfl) (fun _ => by simp) (fun a h => h.2.1)
theorem tells_ints (hΦ : ∀ b, b < cx.w.heap.size → cx.Φ b) : ∀ n, Tells enc Try.prog cx n 22 (fun l : List Int => [Int.sl l]) (fun l => l.length) (fun _ => True)
  | 0 => tells_zero
  | n + 1 => (tells_slice (e := 3) (sz := 1) (by kernel_rfl) (by kernel_rfl) (by omega) hΦ (tells_i 3 (by kernel_rfl) n)).map id (fun _ => rfl) (fun l => by rw [sizes_one]; exact Nat.le_succ _) (fun _ _ => trivial)
theorem tells_lines (hΦ : ∀ b, b < cx.w.heap.size → cx.Φ b) : ∀ n, Tells enc Try.prog cx n 28 (fun l : List Line => [Line.sl l]) (fun l => l.length) (fun l => ∀ x ∈ l, wordIn x)
  | 0 => tells_zero
  | n + 1 => (tells_slice (e := 45) (sz := 11) (by kernel_rfl) (by kernel_rfl) (by omega) hΦ (tells_line n)).map id (fun _ => rfl) (fun l => by rw [sizes_one]; exact Nat.le_succ _) (fun _ h => h)
theorem tells_linear (hΦ : ∀ b, b < cx.w.heap.size → cx.Φ b) : ∀ n, Tells enc Try.prog cx n 30 Linear.cells (fun l => l.params.length + l.rets.length + l.code.length) (fun l => ∀ x ∈ l.code, wordIn x)
  | 0 => tells_zero
  | n + 1 => (tells_struct (fl := [(3, 0, 1), (22, 1, 1), (22, 2, 1), (3, 3, 1), (28, 4, 1)]) (by kernel_rfl) (by kernel_rfl)
      (tellsF_cons (tells_i 3 (by kernel_rfl) n) (tellsF_cons (tells_ints hΦ n) (tellsF_cons (tells_ints hΦ n) (tellsF_cons (tells_i 3 (by kernel_rfl) n) (tellsF_cons (tells_lines hΦ n) tellsF_nil)))))).map
      (fun (a0, a1, a2, a3, a4, _) => ⟨a0, a1, a2, a3, a4⟩) (fun _ => rfl) (fun ⟨a0, a1, a2, a3, a4, _⟩ => by simp only; omega) (fun a h => h.2.2.2.2.1)
end
section
variable {H : Type} {enc : TypeId × Value → H} {W : World} {base : Nat}
theorem arg_linear : ArgOk enc Try.prog W base 30 (fun a => .agg (Linear.cells a)) (fun l => l.params.length + l.rets.length + l.code.length) (fun l => ∀ x ∈ l.code, wordIn x) := arg_struct Try.underlying30 (fun n => tells_linear (fun _ h => h) n)
theorem arg_int : ArgOk enc Try.prog W base 3 I (fun _ => 1) (fun i => -9223372036854775808 ≤ i ∧ i ≤ 9223372036854775807) := arg_one (one_int (k := .i64) (by kernel_rfl)) fun n => tells_i 3 (by kernel_rfl) n
end
end Go.Proofs.Yteoimifnfkpdeaa.Lift
