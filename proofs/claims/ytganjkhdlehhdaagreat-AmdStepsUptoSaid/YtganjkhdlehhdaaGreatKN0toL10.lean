/- The document's data, as lists of abstract values; and what is used everywhere. -/
import Derived.Test.YtganjkhdlehhdaaGreatFacts
import Derived.Test.YtganjkhdlehhdaaGreatFwOtoFwP
import Derived.Test.YtganjkhdlehhdaaGreatL1
import Derived.Test.YtganjkhdlehhdaaGreatAM1
set_option linter.unusedVariables false
set_option linter.unusedSimpArgs false
set_option maxHeartbeats 4000000
set_option maxRecDepth 100000
namespace Go.Proofs.Lm
open Go.Mu
abbrev I (n : Int) : AV := .v (.int .i64 n)
abbrev U (n : Int) : AV := .v (.int .u64 n)
abbrev Bo (b : Bool) : AV := .v (.bool b)
@[ext] structure Ins where
  (kind op d a b c word : Int)
  stack : Bool
deriving DecidableEq
@[ext] structure Line where
  kind : Int
  ins : Ins
  (var label : Int)
deriving DecidableEq
inductive Node where
  | mk (kind : Int) (ins : Ins) (cond : Int) (ahead body els : List Node)
structure Flat where
  vars : Int
  params : List Int
  rets : List Int
  frame : Int
  code : List Node
structure Linear where
  vars : Int
  params : List Int
  rets : List Int
  frame : Int
  code : List Line
deriving DecidableEq
theorem wrapI {n : Int} (h1 : -9223372036854775808 ≤ n) (h2 : n ≤ 9223372036854775807) : IntKind.i64.wrap n = n := by
  simp [IntKind.wrap, IntKind.bits, IntKind.signed]
  omega
theorem drop_cons {α : Type} {l : List α} {i : Nat} (h : i < l.length) : l.drop i = l[i] :: l.drop (i + 1) := List.drop_eq_getElem_cons h
theorem drop_end {α : Type} {l : List α} {i : Nat} (h : ¬ i < l.length) : l.drop i = [] := List.drop_of_length_le (by omega)
theorem wrapS {i : Nat} (h : i < 4611686018427387904) : IntKind.i64.wrap ((i : Int) + 1) = ((i + 1 : Nat) : Int) := by
  rw [wrapI (by omega) (by omega)]; rfl
end Go.Proofs.Lm
namespace Go.Proofs.Lm
open Go.Mu
end Go.Proofs.Lm
namespace Go.Proofs.Lm
open Go.Mu
end Go.Proofs.Lm
namespace Go.Proofs.Lm
open Go.Mu
end Go.Proofs.Lm
namespace Go.Proofs.Lm
open Go.Mu
end Go.Proofs.Lm
namespace Go.Proofs.Lm
open Go.Mu
end Go.Proofs.Lm
namespace Go.Proofs.Lm
open Go.Mu
end Go.Proofs.Lm
namespace Go.Proofs.Lm
open Go.Mu
end Go.Proofs.Lm
namespace Go.Proofs.Lm
open Go.Mu
end Go.Proofs.Lm
namespace Go.Proofs.Lm
open Go.Mu
end Go.Proofs.Lm
namespace Go.Proofs.Lm
open Go.Mu
end Go.Proofs.Lm
namespace Go.Proofs.Lm
open Go.Mu
end Go.Proofs.Lm
namespace Go.Proofs.Lm
open Go.Mu
theorem sameNow_i64 (a b : Int) : Instr.sameNow (.int .i64) (.int .i64 a) (.int .i64 b) = some (a == b) := by rfl
end Go.Proofs.Lm
namespace Go.Proofs.Lm
open Go.Mu
end Go.Proofs.Lm
namespace Go.Proofs.Lm
open Go.Mu
end Go.Proofs.Lm
namespace Go.Proofs.Lm
open Go.Mu
end Go.Proofs.Lm
namespace Go.Proofs.Lm
open Go.Mu
end Go.Proofs.Lm
namespace Go.Proofs.Lm
open Go.Mu
@[ext] structure Amd where
  (op bin shift cond dst src imm base index : Int)
  (hasBase hasIndex : Bool)
  (disp label : Int)
deriving DecidableEq
@[simp] def Amd.cells (x : Amd) : List AV := [I x.op, I x.bin, I x.shift, I x.cond, I x.dst, I x.src, U x.imm, I x.base, I x.index, Bo x.hasBase, Bo x.hasIndex, I x.disp, I x.label]
abbrev Amd.sl (l : List Amd) : AV := .vs 13 (l.map Amd.cells)
def tabM (l : List (Int × Int)) : List (Value × AV) := l.map fun p => (.int .i64 p.1, I p.2)
theorem tab_find (n : Int) (l : List (Int × Int)) : mfind (.int .i64) (.int .i64 n) (tabM l) = some ((l.lookup n).map I) := by
  induction l with
  | nil => rfl
  | cons a l ih =>
    have : tabM (a :: l) = (.int .i64 a.1, I a.2) :: tabM l := rfl
    rw [this, mfind, sameNow_i64, List.lookup]
    cases h : n == a.1 with
    | true => simp
    | false => simp only [ih]
theorem mset_nil (k : Value) (x : AV) : mset (.int .i64) k x [] = some [(k, x)] := (rfl)
theorem mset_cons (n m : Int) (x v : AV) (rest : List (Value × AV)) : mset (.int .i64) (.int .i64 n) x ((.int .i64 m, v) :: rest) = if n = m then some ((.int .i64 n, x) :: rest) else (mset (.int .i64) (.int .i64 n) x rest).map ((.int .i64 m, v) :: ·) := by
  rw [mset, sameNow_i64]
  by_cases h : n = m
  · simp [h]
  · have e : (n == m) = false := by simp [h]
    rw [e, if_neg h]
end Go.Proofs.Lm
namespace Go.Proofs.YtganjkhdlehhdaaGreat.Lift
open Go.ChangeShapes Go.WideShapes Go.ChangeAt Go.RowKit Go.Mu Go.Proofs
section
variable {H : Type} {enc : TypeId × Value → H} {cx : Cx}
theorem tells_i (t : TypeId) (h : Tryz.prog.underlying t = some (.int .i64)) (n : Nat) : Tells enc Tryz.prog cx n t (fun i : Int => [I i]) (fun _ => 1) (fun i => -9223372036854775808 ≤ i ∧ i ≤ 9223372036854775807) := tells_int h
theorem tells_u (n : Nat) : Tells enc Tryz.prog cx n 23 (fun i : Int => [U i]) (fun _ => 1) (fun i => 0 ≤ i ∧ i ≤ 18446744073709551615) := tells_int (by kernel_rfl)
theorem tells_b (n : Nat) : Tells enc Tryz.prog cx n 4 (fun b : Bool => [Bo b]) (fun _ => 1) (fun _ => True) := tells_bool (by kernel_rfl)
structure Ad where
  (base index : Int)
  (hb hi : Bool)
  disp : Int
def Ad.cells (a : Ad) : List AV := [I a.base, I a.index, Bo a.hb, Bo a.hi, I a.disp]
theorem tells_ad : ∀ n, Tells enc Tryz.prog cx n 54 Ad.cells (fun _ => 1) (fun a => -9223372036854775808 ≤ a.disp ∧ a.disp ≤ 9223372036854775807)
  | 0 => tells_zero
  | n + 1 => (tells_struct (fl := [(52, 0, 1), (52, 1, 1), (4, 2, 1), (4, 3, 1), (2, 4, 1)]) (by kernel_rfl) (by kernel_rfl)
      (tellsF_cons (tells_i 52 (by kernel_rfl) n) (tellsF_cons (tells_i 52 (by kernel_rfl) n) (tellsF_cons (tells_b n) (tellsF_cons (tells_b n) (tellsF_cons (tells_i 2 (by kernel_rfl) n) tellsF_nil)))))).map
      (fun (a0, a1, a2, a3, a4, _) => ⟨a0, a1, a2, a3, a4⟩) (fun _ => rfl) (fun _ => by simp) (fun a h => h.2.2.2.2.1)
def amdIn (x : Lm.Amd) : Prop := Wd x.imm ∧ -9223372036854775808 ≤ x.disp ∧ x.disp ≤ 9223372036854775807
theorem tells_amd : ∀ n, Tells enc Tryz.prog cx n 56 Lm.Amd.cells (fun _ => 1) amdIn
  | 0 => tells_zero
  | n + 1 => (tells_struct (fl := [(48, 0, 1), (49, 1, 1), (50, 2, 1), (51, 3, 1), (52, 4, 1), (52, 5, 1), (23, 6, 1), (54, 7, 5), (3, 12, 1)]) (by kernel_rfl) (by kernel_rfl)
      (tellsF_cons (tells_i 48 (by kernel_rfl) n) (tellsF_cons (tells_i 49 (by kernel_rfl) n) (tellsF_cons (tells_i 50 (by kernel_rfl) n) (tellsF_cons (tells_i 51 (by kernel_rfl) n) (tellsF_cons (tells_i 52 (by kernel_rfl) n) (tellsF_cons (tells_i 52 (by kernel_rfl) n)
        (tellsF_cons (tells_u n) (tellsF_cons (tells_ad n) (tellsF_cons (tells_i 3 (by kernel_rfl) n) tellsF_nil)))))))))).map
      (fun (a0, a1, a2, a3, a4, a5, a6, a7, a8, _) => ⟨a0, a1, a2, a3, a4, a5, a6, a7.base, a7.index, a7.hb, a7.hi, a7.disp, a8⟩) (fun _ => rfl) (fun _ => by simp) (fun a h => by
        obtain ⟨h0, h1, h2, h3, h4, h5, h6, h7, h8, _⟩ := h
        exact ⟨⟨h6.1, Int.lt_of_le_of_lt h6.2 (by decide)⟩, h7⟩)
theorem tells_amds (hΦ : ∀ b, b < cx.w.heap.size → cx.Φ b) : ∀ n, Tells enc Tryz.prog cx n 22 (fun l : List Lm.Amd => [Lm.Amd.sl l]) (fun l => l.length) (fun l => ∀ x ∈ l, amdIn x)
  | 0 => tells_zero
  | n + 1 => (tells_slice (e := 56) (sz := 13) (by kernel_rfl) (by kernel_rfl) (by omega) hΦ (tells_amd n)).map id (fun _ => rfl) (fun l => by rw [sizes_one]; exact Nat.le_succ _) (fun _ h => h)
end
section
variable {H : Type} {enc : TypeId × Value → H} {W : World} {base : Nat}
theorem arg_amds : ArgOk enc Tryz.prog W base 22 Lm.Amd.sl (fun l => l.length) (fun l => ∀ x ∈ l, amdIn x) := arg_one (one_slice (e := 56) (by kernel_rfl)) fun n => tells_amds (fun _ h => h) n
end
end Go.Proofs.YtganjkhdlehhdaaGreat.Lift
