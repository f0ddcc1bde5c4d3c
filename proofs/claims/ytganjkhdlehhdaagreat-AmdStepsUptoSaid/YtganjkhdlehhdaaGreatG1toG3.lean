/- What is used everywhere: words, lists, how a check ends. -/
import Derived.Test.YtganjkhdlehhdaaGreatFacts
import Derived.Test.YtganjkhdlehhdaaGreatFwQtoFwT
import Derived.Laws.Strings
set_option linter.unusedVariables false
set_option linter.unusedSimpArgs false
set_option maxHeartbeats 4000000
set_option maxRecDepth 100000
namespace Go.Proofs
open Go.Mu
abbrev I (n : Int) : AV := .v (.int .i64 n)
abbrev U (n : Int) : AV := .v (.int .u64 n)
abbrev Bo (b : Bool) : AV := .v (.bool b)
abbrev St (s : ByteArray) : AV := .v (.string s)
abbrev nilS : AV := .v (.slice none 0 0)
theorem wrapI {n : Int} (h1 : -9223372036854775808 ≤ n) (h2 : n ≤ 9223372036854775807) : IntKind.i64.wrap n = n := by
  simp [IntKind.wrap, IntKind.bits, IntKind.signed]
  omega
theorem drop_cons {α : Type} {l : List α} {i : Nat} (h : i < l.length) : l.drop i = l[i] :: l.drop (i + 1) := List.drop_eq_getElem_cons h
theorem drop_end {α : Type} {l : List α} {i : Nat} (h : ¬ i < l.length) : l.drop i = [] := List.drop_of_length_le (by omega)
theorem wrapS {i : Nat} (h : i < 4611686018427387904) : IntKind.i64.wrap ((i : Int) + 1) = ((i + 1 : Nat) : Int) := by
  rw [wrapI (by omega) (by omega)]; rfl
def idxP {α : Type} (p : α → Bool) : List α → Int → Int
  | [], _ => -1
  | a :: l, i => if p a then i else idxP p l (i + 1)
theorem ba_inj {a b : ByteArray} (h : a.toList = b.toList) : a = b := by
  rw [ByteArray.toList_eq, ByteArray.toList_eq] at h
  obtain ⟨⟨x⟩⟩ := a
  obtain ⟨⟨y⟩⟩ := b
  simp at h
  subst h; rfl
@[simp] theorem str_beq (a b : ByteArray) : (a.toList == b.toList) = decide (a = b) := by
  by_cases h : a = b
  · subst h; simp
  · rw [decide_eq_false h, beq_eq_false_iff_ne]
    exact fun e => h (ba_inj e)
def thenE (a b : Int) : Int := if a = 0 then b else a
@[simp] theorem thenE_zero (b : Int) : thenE 0 b = b := rfl
def mustE (b : Bool) (e : Int) : Int := if b then 0 else e
@[simp] theorem mustE_true (e : Int) : mustE true e = 0 := rfl
@[simp] theorem mustE_false (e : Int) : mustE false e = e := rfl
end Go.Proofs
namespace Go.Proofs
open Go.Mu
abbrev St.sl (l : List ByteArray) : AV := .vs 1 (l.map fun s => [St s])
end Go.Proofs
namespace Go.Proofs
open Go.Mu
inductive Ex where
  | mk (op word : Int) (name : ByteArray) (args : List Ex)
inductive Sm where
  | mk (kind : Int) (name : ByteArray) (names : List ByteArray) (e a : Ex) (args : List Ex) (low high : Int) (body els : List Sm)
structure Vr where
  name : ByteArray
  (kind size : Int)
  secret : Bool
deriving DecidableEq
structure Rg where
  name : ByteArray
  (addr size : Int)
  secret : Bool
deriving DecidableEq
structure Fc where
  name : ByteArray
  (params vars : List Vr)
  rets : List ByteArray
  body : List Sm
structure Pg where
  regions : List Rg
  funcs : List Fc
def Ex.op : Ex → Int | .mk o _ _ _ => o
def Ex.word : Ex → Int | .mk _ w _ _ => w
def Ex.name : Ex → ByteArray | .mk _ _ n _ => n
def Ex.args : Ex → List Ex | .mk _ _ _ a => a
mutual
def Ex.cells : Ex → List AV
  | .mk o w n a => [I o, U w, St n, .vs 4 (exCells a)]
def exCells : List Ex → List (List AV)
  | [] => []
  | e :: l => e.cells :: exCells l
end
abbrev Ex.sl (l : List Ex) : AV := .vs 4 (l.map Ex.cells)
mutual
def Sm.cells : Sm → List AV
  | .mk k n ns e a l lo hi b el => [I k, St n, St.sl ns, I e.op, U e.word, St e.name, Ex.sl e.args, I a.op, U a.word, St a.name, Ex.sl a.args, Ex.sl l, U lo, U hi, .vs 16 (smCells b), .vs 16 (smCells el)]
def smCells : List Sm → List (List AV)
  | [] => []
  | s :: l => s.cells :: smCells l
end
abbrev Sm.sl (l : List Sm) : AV := .vs 16 (l.map Sm.cells)
@[simp] def Vr.cells (v : Vr) : List AV := [St v.name, I v.kind, I v.size, Bo v.secret]
@[simp] def Rg.cells (r : Rg) : List AV := [St r.name, I r.addr, I r.size, Bo r.secret]
abbrev Vr.sl (l : List Vr) : AV := .vs 4 (l.map Vr.cells)
abbrev Rg.sl (l : List Rg) : AV := .vs 4 (l.map Rg.cells)
@[simp] def Fc.cells (f : Fc) : List AV := [St f.name, Vr.sl f.params, Vr.sl f.vars, St.sl f.rets, Sm.sl f.body]
end Go.Proofs
