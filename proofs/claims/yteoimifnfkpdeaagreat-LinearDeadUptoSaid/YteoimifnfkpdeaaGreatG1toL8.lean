/- What is used everywhere: words, lists, how a check ends. -/
import Derived.Test.YteoimifnfkpdeaaGreatFacts
import Derived.Test.YteoimifnfkpdeaaGreatFwQtoFwT
import Derived.Laws.Strings
import Derived.Test.YteoimifnfkpdeaaGreatL1
set_option linter.unusedVariables false
set_option linter.unusedSimpArgs false
set_option maxHeartbeats 4000000
set_option maxRecDepth 100000
namespace Go.Proofs
open Go.Mu
abbrev I (n : Int) : AV := .v (.int .i64 n)
abbrev U (n : Int) : AV := .v (.int .u64 n)
abbrev Bo (b : Bool) : AV := .v (.bool b)
abbrev St (s : ByteArray) : AV := .v (.string s)
abbrev nilS : AV := .v (.slice none 0 0)
theorem wrapI {n : Int} (h1 : -9223372036854775808 ≤ n) (h2 : n ≤ 9223372036854775807) : IntKind.i64.wrap n = n := by
  simp [IntKind.wrap, IntKind.bits, IntKind.signed]
  omega
theorem drop_cons {α : Type} {l : List α} {i : Nat} (h : i < l.length) : l.drop i = l[i] :: l.drop (i + 1) := List.drop_eq_getElem_cons h
theorem drop_end {α : Type} {l : List α} {i : Nat} (h : ¬ i < l.length) : l.drop i = [] := List.drop_of_length_le (by omega)
theorem wrapS {i : Nat} (h : i < 4611686018427387904) : IntKind.i64.wrap ((i : Int) + 1) = ((i + 1 : Nat) : Int) := by
  rw [wrapI (by omega) (by omega)]; rfl
def idxP {α : Type} (p : α → Bool) : List α → Int → Int
  | [], _ => -1
  | a :: l, i => if p a then i else idxP p l (i + 1)
theorem idxP_any {α : Type} (p : α → Bool) : ∀ (l : List α) (i : Int), 0 ≤ i → decide (0 ≤ idxP p l i) = l.any p
  | [], i, h => by simp [idxP]
  | a :: l, i, h => by
    simp only [idxP, List.any_cons]
    split
    · rename_i hp; simp [hp, h]
    · rename_i hp; simp [hp, idxP_any p l (i + 1) (by omega)]
theorem ba_inj {a b : ByteArray} (h : a.toList = b.toList) : a = b := by
  rw [ByteArray.toList_eq, ByteArray.toList_eq] at h
  obtain ⟨⟨x⟩⟩ := a
  obtain ⟨⟨y⟩⟩ := b
  simp at h
  subst h; rfl
@[simp] theorem str_beq (a b : ByteArray) : (a.toList == b.toList) = decide (a = b) := by
  by_cases h : a = b
  · subst h; simp
  · rw [decide_eq_false h, beq_eq_false_iff_ne]
    exact fun e => h (ba_inj e)
def thenE (a b : Int) : Int := if a = 0 then b else a
@[simp] theorem thenE_zero (b : Int) : thenE 0 b = b := rfl
def mustE (b : Bool) (e : Int) : Int := if b then 0 else e
@[simp] theorem mustE_true (e : Int) : mustE true e = 0 := rfl
@[simp] theorem mustE_false (e : Int) : mustE false e = e := rfl
theorem condVW_introEq {a b : Int} {y n : Prop} {w : Wit y} {w' : Wit n} (hy : a = b → y) (hn : a ≠ b → n) : condVW (.v (.bool (a == b))) y n w w' := condVW_introE hy fun h _ _ => hn h
end Go.Proofs
namespace Go.Proofs
open Go.Mu
@[ext] structure Ins where
  (kind op d a b c word : Int)
  stack : Bool
deriving DecidableEq
@[ext] structure Line where
  kind : Int
  ins : Ins
  (var label : Int)
deriving DecidableEq
structure Linear where
  vars : Int
  params : List Int
  rets : List Int
  frame : Int
  code : List Line
deriving DecidableEq
@[simp] def Ins.cells (i : Ins) : List AV := [I i.kind, I i.op, I i.d, I i.a, I i.b, I i.c, U i.word, Bo i.stack]
@[simp] def Line.cells (l : Line) : List AV := [I l.kind, I l.ins.kind, I l.ins.op, I l.ins.d, I l.ins.a, I l.ins.b, I l.ins.c, U l.ins.word, Bo l.ins.stack, I l.var, I l.label]
abbrev Line.sl (l : List Line) : AV := .vs 11 (l.map Line.cells)
abbrev Int.sl (l : List Int) : AV := .vs 1 (l.map fun n => [I n])
@[simp] def Linear.cells (f : Linear) : List AV := [I f.vars, Int.sl f.params, Int.sl f.rets, I f.frame, Line.sl f.code]
abbrev Rising (l : List Int) : Prop := l.Pairwise (· < ·)
theorem sorted_ext : ∀ {a b : List Int}, Rising a → Rising b → (∀ x, x ∈ a ↔ x ∈ b) → a = b
  | [], [], _, _, _ => rfl
  | [], y :: b, _, _, h => absurd ((h y).2 (List.mem_cons_self ..)) (by simp)
  | x :: a, [], _, _, h => absurd ((h x).1 (List.mem_cons_self ..)) (by simp)
  | x :: a, y :: b, ha, hb, h => by
    obtain ⟨a1, a2⟩ := List.pairwise_cons.1 ha
    obtain ⟨b1, b2⟩ := List.pairwise_cons.1 hb
    have e : x = y := by
      rcases List.mem_cons.1 ((h x).1 (List.mem_cons_self ..)) with e | e
      · exact e
      · rcases List.mem_cons.1 ((h y).2 (List.mem_cons_self ..)) with e' | e'
        · exact e'.symm
        · have := b1 x e; have := a1 y e'; omega
    subst e
    congr 1
    refine sorted_ext a2 b2 fun z => ?_
    constructor
    · intro hz
      rcases List.mem_cons.1 ((h z).1 (List.mem_cons_of_mem _ hz)) with e | e
      · have := a1 z hz; omega
      · exact e
    · intro hz
      rcases List.mem_cons.1 ((h z).2 (List.mem_cons_of_mem _ hz)) with e | e
      · have := b1 z hz; omega
      · exact e
def putI (n : Int) : List Int → List Int
  | [] => [n]
  | x :: l => if x = n then x :: l else if n < x then n :: x :: l else x :: putI n l
theorem putI_mem (n y : Int) : ∀ l : List Int, y ∈ putI n l ↔ y = n ∨ y ∈ l
  | [] => by simp [putI]
  | x :: l => by
    rw [putI]
    split
    · rename_i h; subst h; simp
    · split
      · simp
      · rw [List.mem_cons, putI_mem n y l, List.mem_cons]
        constructor
        · rintro (h | h | h) <;> simp [h]
        · rintro (h | h | h) <;> simp [h]
theorem putI_rise (n : Int) : ∀ l : List Int, Rising l → Rising (putI n l)
  | [], _ => by simp [putI]
  | x :: l, h => by
    obtain ⟨h1, h2⟩ := List.pairwise_cons.1 h
    rw [putI]
    split
    · exact h
    · split
      · refine List.pairwise_cons.2 ⟨fun y hy => ?_, h⟩
        rcases List.mem_cons.1 hy with rfl | hy
        · assumption
        · have := h1 y hy; omega
      · refine List.pairwise_cons.2 ⟨fun y hy => ?_, putI_rise n l h2⟩
        rcases (putI_mem n y l).1 hy with rfl | hy
        · omega
        · exact h1 y hy
theorem putI_len (n : Int) : ∀ l : List Int, (putI n l).length ≤ l.length + 1
  | [] => by simp [putI]
  | x :: l => by
    have := putI_len n l
    rw [putI]
    split
    · simp
    · split <;> simp <;> omega
def riseL (l : List Int) : List Int := l.foldl (fun l n => putI n l) []
theorem rise_fold (l : List Int) : ∀ a : List Int, Rising a → Rising (l.foldl (fun l n => putI n l) a) ∧ (∀ y, y ∈ l.foldl (fun l n => putI n l) a ↔ y ∈ a ∨ y ∈ l) ∧ (l.foldl (fun l n => putI n l) a).length ≤ a.length + l.length := by
  induction l with
  | nil => intro a h; exact ⟨h, fun y => by simp, by simp⟩
  | cons x l ih =>
    intro a h
    obtain ⟨h1, h2, h3⟩ := ih (putI x a) (putI_rise x a h)
    refine ⟨h1, fun y => ?_, ?_⟩
    · rw [List.foldl_cons, h2, putI_mem, List.mem_cons]
      constructor
      · rintro ((h | h) | h) <;> simp [h]
      · rintro (h | h | h) <;> simp [h]
    · have := putI_len x a
      rw [List.foldl_cons, List.length_cons]; omega
theorem riseL_rise (l : List Int) : Rising (riseL l) := (rise_fold l [] List.Pairwise.nil).1
theorem riseL_mem (l : List Int) (y : Int) : y ∈ riseL l ↔ y ∈ l := by rw [riseL, (rise_fold l [] List.Pairwise.nil).2.1]; simp
theorem riseL_len (l : List Int) : (riseL l).length ≤ l.length := by have := (rise_fold l [] List.Pairwise.nil).2.2; rwa [List.length_nil, Nat.zero_add] at this
theorem rise_eq {a l : List Int} (ha : Rising a) (h : ∀ y, y ∈ a ↔ y ∈ l) : a = riseL l := sorted_ext ha (riseL_rise l) fun y => (h y).trans (riseL_mem l y).symm
def Line.raw (x : Line) : List Int :=
  if x.kind = 4 then [x.var]
  else if x.kind = 1 then
    if x.ins.kind = 2 then [x.ins.a]
    else if x.ins.kind = 3 then [x.ins.a] ++ (if x.ins.op = 4 ∨ x.ins.op = 5 then [] else [x.ins.b]) ++ (if x.ins.op = 21 then [x.ins.c] else [])
    else if x.ins.kind = 5 then [x.ins.b] ++ (if 0 ≤ x.ins.a then [x.ins.a] else [])
    else if x.ins.kind = 4 then (if 0 ≤ x.ins.a then [x.ins.a] else [])
    else []
  else []
def Line.uses (x : Line) : List Int := riseL x.raw
def Line.defs (x : Line) : List Int := if x.kind = 1 ∧ x.ins.kind ≠ 5 then [x.ins.d] else []
theorem uses_len (x : Line) : x.uses.length ≤ 3 := by
  refine Nat.le_trans (riseL_len _) ?_
  unfold Line.raw
  repeat' split
  all_goals simp
def isLab (lab : Int) (x : Line) : Bool := x.kind == 2 && x.label == lab
def whr (c : List Line) (lab : Int) : Nat := c.findIdx (isLab lab)
def nxt (l : Linear) (i : Nat) : List Int := match l.code[i]? with
  | none => []
  | some x => if x.kind = 5 then [(l.code.length : Int)] else if x.kind = 3 then [(whr l.code x.label : Int)] else if x.kind = 4 then riseL [(i : Int) + 1, (whr l.code x.label : Int)] else [(i : Int) + 1]
theorem nxt_len (l : Linear) (i : Nat) : (nxt l i).length ≤ 2 := by
  unfold nxt
  split
  · simp
  · repeat' split
    all_goals first | (simp; done) | exact riseL_len _
inductive LiveAt (l : Linear) : Nat → Int → Prop
  | told {v : Int} : v ∈ l.rets → LiveAt l l.code.length v
  | read {i : Nat} {x : Line} {v : Int} : l.code[i]? = some x → v ∈ x.raw → LiveAt l i v
  | way {i k : Nat} {x : Line} {v : Int} : l.code[i]? = some x → v ∉ x.defs → (k : Int) ∈ nxt l i → LiveAt l k v → LiveAt l i v
theorem live_closed {l : Linear} {S : Nat → Int → Prop} (h0 : ∀ v ∈ l.rets, S l.code.length v) (h1 : ∀ i x v, l.code[i]? = some x → v ∈ x.raw → S i v)
    (h2 : ∀ i x k v, l.code[i]? = some x → v ∉ x.defs → ((k : Nat) : Int) ∈ nxt l i → S k v → S i v) {i : Nat} {v : Int} (h : LiveAt l i v) : S i v := by
  induction h with
  | told h => exact h0 _ h
  | read hx h => exact h1 _ _ _ hx h
  | way hx hd hk _ ih => exact h2 _ _ _ _ hx hd hk ih
noncomputable def liveL (l : Linear) (i : Nat) : List Int := ((List.range l.vars.toNat).map fun n : Nat => (n : Int)).filter fun v => @decide (LiveAt l i v) (Classical.propDecidable _)
theorem liveL_eq (l : Linear) (i : Nat) : ∃ p : Int → Bool, (∀ v, p v = true ↔ LiveAt l i v) ∧ liveL l i = ((List.range l.vars.toNat).map fun n : Nat => (n : Int)).filter p := ⟨_, fun v => by classical exact decide_eq_true_iff, rfl⟩
theorem liveL_rise (l : Linear) (i : Nat) : Rising (liveL l i) := by
  unfold liveL
  refine List.Pairwise.filter _ ?_
  rw [List.pairwise_map]
  exact List.pairwise_lt_range.imp fun h => by omega
theorem liveL_mem (l : Linear) (i : Nat) (v : Int) : v ∈ liveL l i ↔ (0 ≤ v ∧ v < l.vars) ∧ LiveAt l i v := by
  obtain ⟨p, hp, he⟩ := liveL_eq l i
  rw [he, List.mem_filter, List.mem_map, hp]
  constructor
  · rintro ⟨⟨n, hn, rfl⟩, h⟩
    rw [List.mem_range] at hn
    exact ⟨by omega, h⟩
  · rintro ⟨h, h2⟩
    exact ⟨⟨v.toNat, by rw [List.mem_range]; omega, by omega⟩, h2⟩
theorem liveL_len (l : Linear) (i : Nat) : (liveL l i).length ≤ l.vars.toNat := by
  unfold liveL
  refine Nat.le_trans (List.length_filter_le _ _) ?_
  simp
end Go.Proofs
namespace Go.Proofs.YteoimifnfkpdeaaGreat.Lift
open Go.ChangeShapes Go.WideShapes Go.ChangeAt Go.RowKit Go.Mu Go.Proofs
section
variable {H : Type} {enc : TypeId × Value → H} {cx : Cx}
theorem tells_i (t : TypeId) (h : Tryz.prog.underlying t = some (.int .i64)) (n : Nat) : Tells enc Tryz.prog cx n t (fun i : Int => [I i]) (fun _ => 1) (fun i => -9223372036854775808 ≤ i ∧ i ≤ 9223372036854775807) := tells_int h
theorem tells_u (n : Nat) : Tells enc Tryz.prog cx n 29 (fun i : Int => [U i]) (fun _ => 1) (fun i => 0 ≤ i ∧ i ≤ 18446744073709551615) := tells_int (by kernel_rfl)
theorem tells_b (n : Nat) : Tells enc Tryz.prog cx n 4 (fun b : Bool => [Bo b]) (fun _ => 1) (fun _ => True) := tells_bool (by kernel_rfl)
def wordIn (x : Line) : Prop := 0 ≤ x.ins.word ∧ x.ins.word ≤ 18446744073709551615
theorem tells_ins : ∀ n, Tells enc Tryz.prog cx n 65 Ins.cells (fun _ => 1) (fun x => 0 ≤ x.word ∧ x.word ≤ 18446744073709551615)
  | 0 => tells_zero
  | n + 1 => (tells_struct (fl := [(62, 0, 1), (63, 1, 1), (3, 2, 1), (3, 3, 1), (3, 4, 1), (3, 5, 1), (29, 6, 1), (4, 7, 1)]) (by kernel_rfl) (by kernel_rfl)
      (tellsF_cons (tells_i 62 (by kernel_rfl) n) (tellsF_cons (tells_i 63 (by kernel_rfl) n) (tellsF_cons (tells_i 3 (by kernel_rfl) n) (tellsF_cons (tells_i 3 (by kernel_rfl) n) (tellsF_cons (tells_i 3 (by kernel_rfl) n) (tellsF_cons (tells_i 3 (by kernel_rfl) n)
        (tellsF_cons (tells_u n) (tellsF_cons (tells_b n) tellsF_nil))))))))).map
      (fun (a0, a1, a2, a3, a4, a5, a6, a7, _) => ⟨a0, a1, a2, a3, a4, a5, a6, a7⟩) (fun _ => rfl) (fun _ => by simp) (fun a h => h.2.2.2.2.2.2.1)
theorem tells_line : ∀ n, Tells enc Tryz.prog cx n 67 Line.cells (fun _ => 1) wordIn
  | 0 => tells_zero
  | n + 1 => (tells_struct (fl := [(61, 0, 1), (65, 1, 8), (3, 9, 1), (3, 10, 1)]) (by kernel_rfl) (by kernel_rfl)
      (tellsF_cons (tells_i 61 (by kernel_rfl) n) (tellsF_cons (tells_ins n) (tellsF_cons (tells_i 3 (by kernel_rfl) n) (tellsF_cons (tells_i 3 (by kernel_rfl) n) tellsF_nil))))).map
      (fun (a0, a1, a2, a3, _) => ⟨a0, a1, a2, a3⟩) (fun _ => rfl) (fun _ => by simp) (fun a h => h.2.1)
theorem tells_ints (hΦ : ∀ b, b < cx.w.heap.size → cx.Φ b) : ∀ n, Tells enc Tryz.prog cx n 22 (fun l : List Int => [Int.sl l]) (fun l => l.length) (fun _ => True)
  | 0 => tells_zero
  | n + 1 => (tells_slice (e := 3) (sz := 1) (by kernel_rfl) (by kernel_rfl) (by omega) hΦ (tells_i 3 (by kernel_rfl) n)).map id (fun _ => rfl) (fun l => by rw [sizes_one]; exact Nat.le_succ _) (fun _ _ => trivial)
theorem tells_lines (hΦ : ∀ b, b < cx.w.heap.size → cx.Φ b) : ∀ n, Tells enc Tryz.prog cx n 23 (fun l : List Line => [Line.sl l]) (fun l => l.length) (fun l => ∀ x ∈ l, wordIn x)
  | 0 => tells_zero
  | n + 1 => (tells_slice (e := 67) (sz := 11) (by kernel_rfl) (by kernel_rfl) (by omega) hΦ (tells_line n)).map id (fun _ => rfl) (fun l => by rw [sizes_one]; exact Nat.le_succ _) (fun _ h => h)
theorem tells_linear (hΦ : ∀ b, b < cx.w.heap.size → cx.Φ b) : ∀ n, Tells enc Tryz.prog cx n 25 Linear.cells (fun l => l.params.length + l.rets.length + l.code.length) (fun l => ∀ x ∈ l.code, wordIn x)
  | 0 => tells_zero
  | n + 1 => (tells_struct (fl := [(3, 0, 1), (22, 1, 1), (22, 2, 1), (3, 3, 1), (23, 4, 1)]) (by kernel_rfl) (by kernel_rfl)
      (tellsF_cons (tells_i 3 (by kernel_rfl) n) (tellsF_cons (tells_ints hΦ n) (tellsF_cons (tells_ints hΦ n) (tellsF_cons (tells_i 3 (by kernel_rfl) n) (tellsF_cons (tells_lines hΦ n) tellsF_nil)))))).map
      (fun (a0, a1, a2, a3, a4, _) => ⟨a0, a1, a2, a3, a4⟩) (fun _ => rfl) (fun ⟨a0, a1, a2, a3, a4, _⟩ => by simp only; omega) (fun a h => h.2.2.2.2.1)
end
section
variable {H : Type} {enc : TypeId × Value → H} {W : World} {base : Nat}
theorem arg_linear : ArgOk enc Tryz.prog W base 25 (fun a => .agg (Linear.cells a)) (fun l => l.params.length + l.rets.length + l.code.length) (fun l => ∀ x ∈ l.code, wordIn x) := arg_struct Tryz.underlying25 (fun n => tells_linear (fun _ h => h) n)
theorem arg_int : ArgOk enc Tryz.prog W base 3 I (fun _ => 1) (fun i => -9223372036854775808 ≤ i ∧ i ≤ 9223372036854775807) := arg_one (one_int (k := .i64) (by kernel_rfl)) fun n => tells_i 3 (by kernel_rfl) n
end
end Go.Proofs.YteoimifnfkpdeaaGreat.Lift
