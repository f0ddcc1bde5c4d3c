/- What is used everywhere: words, lists, how a check ends. -/
import Derived.Test.YtpibcbilkpoomaaGreatFacts
import Derived.Test.YtpibcbilkpoomaaGreatFwQtoFwT
import Derived.Laws.Strings
set_option linter.unusedVariables false
set_option linter.unusedSimpArgs false
set_option maxHeartbeats 4000000
set_option maxRecDepth 100000
namespace Go.Proofs
open Go.Mu
abbrev I (n : Int) : AV := .v (.int .i64 n)
abbrev U (n : Int) : AV := .v (.int .u64 n)
abbrev Bo (b : Bool) : AV := .v (.bool b)
abbrev St (s : ByteArray) : AV := .v (.string s)
abbrev nilS : AV := .v (.slice none 0 0)
theorem wrapI {n : Int} (h1 : -9223372036854775808 ≤ n) (h2 : n ≤ 9223372036854775807) : IntKind.i64.wrap n = n := by
  simp [IntKind.wrap, IntKind.bits, IntKind.signed]
  omega
theorem drop_cons {α : Type} {l : List α} {i : Nat} (h : i < l.length) : l.drop i = l[i] :: l.drop (i + 1) := List.drop_eq_getElem_cons h
theorem drop_end {α : Type} {l : List α} {i : Nat} (h : ¬ i < l.length) : l.drop i = [] := List.drop_of_length_le (by omega)
theorem wrapS {i : Nat} (h : i < 4611686018427387904) : IntKind.i64.wrap ((i : Int) + 1) = ((i + 1 : Nat) : Int) := by
  rw [wrapI (by omega) (by omega)]; rfl
def idxP {α : Type} (p : α → Bool) : List α → Int → Int
  | [], _ => -1
  | a :: l, i => if p a then i else idxP p l (i + 1)
theorem idxP_any {α : Type} (p : α → Bool) : ∀ (l : List α) (i : Int), 0 ≤ i → decide (0 ≤ idxP p l i) = l.any p
  | [], i, h => by simp [idxP]
  | a :: l, i, h => by
    simp only [idxP, List.any_cons]
    split
    · rename_i hp; simp [hp, h]
    · rename_i hp; simp [hp, idxP_any p l (i + 1) (by omega)]
theorem ba_inj {a b : ByteArray} (h : a.toList = b.toList) : a = b := by
  rw [ByteArray.toList_eq, ByteArray.toList_eq] at h
  obtain ⟨⟨x⟩⟩ := a
  obtain ⟨⟨y⟩⟩ := b
  simp at h
  subst h; rfl
@[simp] theorem str_beq (a b : ByteArray) : (a.toList == b.toList) = decide (a = b) := by
  by_cases h : a = b
  · subst h; simp
  · rw [decide_eq_false h, beq_eq_false_iff_ne]
    exact fun e => h (ba_inj e)
theorem ba_beq (a b : ByteArray) : (a == b) = decide (a = b) := by
  by_cases h : a = b
  · subst h
    obtain ⟨⟨x⟩⟩ := a
    have : ((⟨x⟩ : Array UInt8) == ⟨x⟩) = true := by simp
    exact this.trans (by simp)
  · rw [decide_eq_false h]
    cases hb : a == b with
    | false => rfl
    | true => exact absurd (ba_eq hb) h
theorem sameNow_str (a b : ByteArray) : Instr.sameNow .string (.string a) (.string b) = some (decide (a = b)) := by
  rw [← ba_beq]; rfl
def thenE (a b : Int) : Int := if a = 0 then b else a
@[simp] theorem thenE_zero (b : Int) : thenE 0 b = b := rfl
theorem thenE_ne {a : Int} (h : a ≠ 0) (b : Int) : thenE a b = a := if_neg h
def mustE (b : Bool) (e : Int) : Int := if b then 0 else e
@[simp] theorem mustE_true (e : Int) : mustE true e = 0 := rfl
@[simp] theorem mustE_false (e : Int) : mustE false e = e := rfl
theorem condVW_introEq {a b : Int} {y n : Prop} {w : Wit y} {w' : Wit n} (hy : a = b → y) (hn : a ≠ b → n) : condVW (.v (.bool (a == b))) y n w w' := condVW_introE hy fun h _ _ => hn h
end Go.Proofs
namespace Go.Proofs
open Go.Mu
abbrev St.sl (l : List ByteArray) : AV := .vs 1 (l.map fun s => [St s])
theorem str_index (l : List ByteArray) (s : ByteArray) (hl : l.length ≤ 2^40) (H : List Blk) : ACalls Tryz.prog 233 [.vs 1 (l.map fun x => [St x]), St s] H (fun e H' => e = .ret (I (idxP (fun x => decide (s = x)) l 0)) ∧ H' = H) := by
  refine acalls_tidy (acalls_of_vc (hn := fun _ => false) (od := fun _ => none) Tryz.func233 rfl (by kernel_rfl) ?_)
  simp -dsimp
  refine loop_rule (hn := fun _ => false) (od := fun _ => none) (fun (i : Nat) f H' => H' = H ∧ f 0 = .vs 1 (l.map fun x => [St x]) ∧ f 1 = St s ∧ f 7 = I l.length ∧ f 8 = I i ∧ i ≤ l.length ∧ idxP (fun x => decide (s = x)) (l.drop i) i = idxP (fun x => decide (s = x)) l 0) (fun i => l.length - i) (by kernel_rfl) 0 (by simp) ?_
  rintro i f H' ⟨rfl, h0, h1, h7, h8, hi, hinv⟩
  simp -dsimp [h0, h1, h7, h8]
  refine condVW_introD (fun hlt => ?_) (fun hlt => ?_)
  · rw [drop_cons hlt, idxP] at hinv
    simp -dsimp [h0, h1, h7, h8, List.getElem?_eq_getElem, hlt]
    refine condVW_introD (fun hp => ?_) (fun hp => ?_)
    · simp -dsimp
      rw [if_pos (by simpa using hp)] at hinv
      exact tidy_now rfl ⟨by rw [hinv], rfl⟩
    · simp -dsimp [h0, h1, h7, h8]
      rw [if_neg (by simpa using hp)] at hinv
      exact ⟨i + 1, by omega, wrapS (by omega), by omega, by simpa using hinv⟩
  · simp -dsimp
    rw [drop_end hlt, idxP] at hinv
    exact tidy_now rfl ⟨by rw [hinv], rfl⟩
theorem str_contains (l : List ByteArray) (s : ByteArray) (hl : l.length ≤ 2^40) (H : List Blk) : ACalls Tryz.prog 183 [.vs 1 (l.map fun x => [St x]), St s] H (fun e H' => e = .ret (Bo (l.any fun x => decide (s = x))) ∧ H' = H) := by
  refine acalls_tidy (acalls_of_vc (hn := fun _ => false) (od := fun _ => none) Tryz.func183 rfl (by kernel_rfl) ?_)
  simp -dsimp
  refine acallsW_det (str_index l s hl _) ?_
  simp -dsimp
  exact tidy_now rfl ⟨by rw [idxP_any _ _ _ (Int.le_refl 0)], rfl⟩
end Go.Proofs
namespace Go.Proofs
open Go.Mu
inductive Ex where
  | mk (op word : Int) (name : ByteArray) (args : List Ex)
inductive Sm where
  | mk (kind : Int) (name : ByteArray) (names : List ByteArray) (e a : Ex) (args : List Ex) (low high : Int) (body els : List Sm)
structure Vr where
  name : ByteArray
  (kind size : Int)
  secret : Bool
deriving DecidableEq
structure Rg where
  name : ByteArray
  (addr size : Int)
  secret : Bool
deriving DecidableEq
structure Fc where
  name : ByteArray
  (params vars : List Vr)
  rets : List ByteArray
  body : List Sm
structure Pg where
  regions : List Rg
  funcs : List Fc
def Ex.op : Ex → Int | .mk o _ _ _ => o
def Ex.word : Ex → Int | .mk _ w _ _ => w
def Ex.name : Ex → ByteArray | .mk _ _ n _ => n
def Ex.args : Ex → List Ex | .mk _ _ _ a => a
def Sm.kind : Sm → Int | .mk k _ _ _ _ _ _ _ _ _ => k
def Sm.name : Sm → ByteArray | .mk _ n _ _ _ _ _ _ _ _ => n
def Sm.names : Sm → List ByteArray | .mk _ _ n _ _ _ _ _ _ _ => n
def Sm.e : Sm → Ex | .mk _ _ _ e _ _ _ _ _ _ => e
def Sm.a : Sm → Ex | .mk _ _ _ _ a _ _ _ _ _ => a
def Sm.args : Sm → List Ex | .mk _ _ _ _ _ l _ _ _ _ => l
def Sm.low : Sm → Int | .mk _ _ _ _ _ _ l _ _ _ => l
def Sm.high : Sm → Int | .mk _ _ _ _ _ _ _ h _ _ => h
def Sm.body : Sm → List Sm | .mk _ _ _ _ _ _ _ _ b _ => b
def Sm.els : Sm → List Sm | .mk _ _ _ _ _ _ _ _ _ e => e
mutual
def Ex.cells : Ex → List AV
  | .mk o w n a => [I o, U w, St n, .vs 4 (exCells a)]
def exCells : List Ex → List (List AV)
  | [] => []
  | e :: l => e.cells :: exCells l
end
theorem exCells_map (l : List Ex) : exCells l = l.map Ex.cells := by
  induction l with
  | nil => simp [exCells]
  | cons n l ih => simp [exCells, ih]
abbrev Ex.sl (l : List Ex) : AV := .vs 4 (l.map Ex.cells)
@[simp] theorem Ex.cells_eq (e : Ex) : e.cells = [I e.op, U e.word, St e.name, Ex.sl e.args] := by
  cases e; simp [Ex.cells, exCells_map, Ex.op, Ex.word, Ex.name, Ex.args]
mutual
def Sm.cells : Sm → List AV
  | .mk k n ns e a l lo hi b el => [I k, St n, St.sl ns, I e.op, U e.word, St e.name, Ex.sl e.args, I a.op, U a.word, St a.name, Ex.sl a.args, Ex.sl l, U lo, U hi, .vs 16 (smCells b), .vs 16 (smCells el)]
def smCells : List Sm → List (List AV)
  | [] => []
  | s :: l => s.cells :: smCells l
end
theorem smCells_map (l : List Sm) : smCells l = l.map Sm.cells := by
  induction l with
  | nil => simp [smCells]
  | cons n l ih => simp [smCells, ih]
abbrev Sm.sl (l : List Sm) : AV := .vs 16 (l.map Sm.cells)
@[simp] theorem Sm.cells_eq (s : Sm) : s.cells = [I s.kind, St s.name, St.sl s.names, I s.e.op, U s.e.word, St s.e.name, Ex.sl s.e.args, I s.a.op, U s.a.word, St s.a.name, Ex.sl s.a.args, Ex.sl s.args, U s.low, U s.high, Sm.sl s.body, Sm.sl s.els] := by
  cases s; simp [Sm.cells, smCells_map, Sm.kind, Sm.name, Sm.names, Sm.e, Sm.a, Sm.args, Sm.low, Sm.high, Sm.body, Sm.els]
@[simp] def Vr.cells (v : Vr) : List AV := [St v.name, I v.kind, I v.size, Bo v.secret]
@[simp] def Rg.cells (r : Rg) : List AV := [St r.name, I r.addr, I r.size, Bo r.secret]
abbrev Vr.sl (l : List Vr) : AV := .vs 4 (l.map Vr.cells)
abbrev Rg.sl (l : List Rg) : AV := .vs 4 (l.map Rg.cells)
@[simp] def Fc.cells (f : Fc) : List AV := [St f.name, Vr.sl f.params, Vr.sl f.vars, St.sl f.rets, Sm.sl f.body]
abbrev Fc.sl (l : List Fc) : AV := .vs 5 (l.map Fc.cells)
@[simp] def Pg.cells (p : Pg) : List AV := [Rg.sl p.regions, Fc.sl p.funcs]
mutual
def Ex.count : Ex → Nat
  | .mk _ _ _ a => 1 + exsCount a
def exsCount : List Ex → Nat
  | [] => 0
  | e :: l => e.count + exsCount l
end
theorem Ex.count_eq (e : Ex) : e.count = 1 + exsCount e.args := by cases e; simp [Ex.count, Ex.args]
theorem exsCount_drop {l : List Ex} {i : Nat} (h : i < l.length) : exsCount (l.drop i) = l[i].count + exsCount (l.drop (i + 1)) := by rw [drop_cons h, exsCount]
theorem exsCount_le (l : List Ex) (i : Nat) : exsCount (l.drop i) ≤ exsCount l := by
  induction l generalizing i with
  | nil => simp
  | cons n l ih => cases i with
    | zero => simp
    | succ i => simp only [List.drop_succ_cons, exsCount]; have := ih i; omega
theorem exs_len (l : List Ex) : l.length ≤ exsCount l := by
  induction l with
  | nil => simp
  | cons n l ih => simp only [List.length_cons, exsCount, Ex.count_eq]; omega
theorem exs_get {l : List Ex} {i : Nat} (h : i < l.length) : l[i].count ≤ exsCount l := by
  have h1 := exsCount_drop h
  have h2 := exsCount_le l i
  omega
mutual
def Sm.count : Sm → Nat
  | .mk _ _ ns e a l _ _ b el => 1 + ns.length + e.count + a.count + exsCount l + smsCount b + smsCount el
def smsCount : List Sm → Nat
  | [] => 0
  | s :: l => s.count + smsCount l
end
theorem Sm.count_eq (s : Sm) : s.count = 1 + s.names.length + s.e.count + s.a.count + exsCount s.args + smsCount s.body + smsCount s.els := by cases s; simp [Sm.count, Sm.names, Sm.e, Sm.a, Sm.args, Sm.body, Sm.els]
theorem smsCount_drop {l : List Sm} {i : Nat} (h : i < l.length) : smsCount (l.drop i) = l[i].count + smsCount (l.drop (i + 1)) := by rw [drop_cons h, smsCount]
theorem smsCount_le (l : List Sm) (i : Nat) : smsCount (l.drop i) ≤ smsCount l := by
  induction l generalizing i with
  | nil => simp
  | cons n l ih => cases i with
    | zero => simp
    | succ i => simp only [List.drop_succ_cons, smsCount]; have := ih i; omega
theorem sms_len (l : List Sm) : l.length ≤ smsCount l := by
  induction l with
  | nil => simp
  | cons n l ih => simp only [List.length_cons, smsCount, Sm.count_eq]; omega
theorem sms_get {l : List Sm} {i : Nat} (h : i < l.length) : l[i].count ≤ smsCount l := by
  have h1 := smsCount_drop h
  have h2 := smsCount_le l i
  omega
end Go.Proofs
namespace Go.Proofs
open Go.Mu
def inI (n : Int) : Bool := decide (-9223372036854775808 ≤ n) && decide (n ≤ 9223372036854775807)
def inU (n : Int) : Bool := decide (0 ≤ n) && decide (n ≤ 18446744073709551615)
mutual
def Ex.rng : Ex → Bool
  | .mk o w _ a => inI o && inU w && exsRng a
def exsRng : List Ex → Bool
  | [] => true
  | e :: l => e.rng && exsRng l
end
mutual
def Sm.rng : Sm → Bool
  | .mk k _ _ e a l lo hi b el => inI k && e.rng && a.rng && exsRng l && inU lo && inU hi && smsRng b && smsRng el
def smsRng : List Sm → Bool
  | [] => true
  | s :: l => s.rng && smsRng l
end
def Vr.rng (v : Vr) : Bool := inI v.kind && inI v.size
def Rg.rng (r : Rg) : Bool := inI r.addr && inI r.size
def Fc.rng (f : Fc) : Bool := f.params.all Vr.rng && f.vars.all Vr.rng && smsRng f.body
def Pg.rng (p : Pg) : Bool := p.regions.all Rg.rng && p.funcs.all Fc.rng
theorem exs_rng {l : List Ex} (h : ∀ e ∈ l, e.rng = true) : exsRng l = true := by
  induction l with
  | nil => rfl
  | cons e l ih => rw [exsRng, h e (List.mem_cons_self ..), ih (fun e he => h e (List.mem_cons_of_mem _ he))]; rfl
theorem sms_rng {l : List Sm} (h : ∀ e ∈ l, e.rng = true) : smsRng l = true := by
  induction l with
  | nil => rfl
  | cons e l ih => rw [smsRng, h e (List.mem_cons_self ..), ih (fun e he => h e (List.mem_cons_of_mem _ he))]; rfl
end Go.Proofs
