/- A region whose order of evaluation is drawn, in which many operations that change something may come in any order: what holds behind each set of them. -/
import Derived.Test.YtganjkhdlehhdaaGreatFwUtoFwBox
import Derived.Test.YtganjkhdlehhdaaGreatG1toG3
import Derived.Test.YtganjkhdlehhdaaGreatAM1
set_option linter.unusedVariables false
set_option linter.unusedSimpArgs false
set_option maxHeartbeats 4000000
set_option maxRecDepth 100000
namespace Go.Mu
section
variable {P : Program} {n : Nat} {pu : Nat → Bool} {ops : Array Oper} {Q : AQ}
structure BagV (P : Program) (pu : Nat → Bool) (hf : Oper → Bool) (ops : Array Oper) (Q : AQ) (ds : List ADef) (bag lt : List Nat) (post : OPlan) (I : List Nat → Fr → List Blk → Prop) : Prop where
  step : ∀ S i f H o, i ∈ bag → i ∉ S → S ⊆ bag → ops[i]? = some o → I S f H → StepB P ops o f H ds Q (fun f' H' => I (i :: S) f' H')
  late : ∀ S f H, S ⊆ bag → I S f H → ∀ j ∈ lt, ∀ oj, ops[j]? = some oj → ∃ r, StepD P ops oj f H r ∧ ∀ d, oj.dst = some d → f d = r
  fin : ∀ S f H, (∀ x, x ∈ S ↔ x ∈ bag) → I S f H → VX P pu hf ops Q ds post f H
variable {hn : Nat → Bool}
structure BagW (P : Program) (hn : Nat → Bool) (ops : Array Oper) (Q : AQ) (ds : List ADef) (bag lt : List Nat) (post : OPlan) (I : List Nat → Fr → List Blk → Prop) : Prop where
  step : ∀ S i f H, i ∈ bag → i ∉ S → S ⊆ bag → I S f H → vcL P hn true ops (opsAt ops [i]) (thenQ (fun f' H' _ => I (i :: S) f' H') Q) f H ds
  late : ∀ S f H, S ⊆ bag → I S f H → lateV P hn ops f H (opsAt ops lt)
  fin : ∀ S f H, (∀ x, x ∈ S ↔ x ∈ bag) → I S f H → vcX P hn ops Q ds post f H
end
end Go.Mu
namespace Go.Proofs
open Go.Mu
def mod6 (b : Int) : Nat := (b % 64).toNat
theorem mod6_lt (b : Int) : mod6 b < 64 := by unfold mod6; omega
theorem and63 (x : Nat) : x &&& 63 = x % 64 := Nat.and_two_pow_sub_one_eq_mod (n := 6) x
theorem sh6 (b : Int) : IntKind.u64.wrap ↑((b % 2 ^ IntKind.u64.bits).toNat &&& 63 % 2 ^ IntKind.u64.bits) = (mod6 b : Int) := by
  have h1 : (63 : Nat) % 2 ^ IntKind.u64.bits = 63 := by decide
  rw [h1, and63]
  have h2 : (b % 2 ^ IntKind.u64.bits).toNat % 64 = mod6 b := by
    unfold mod6
    have : (2 : Int) ^ IntKind.u64.bits = 18446744073709551616 := by decide
    rw [this]; omega
  rw [h2]
  have := mod6_lt b
  rw [IntKind.wrap]
  have h3 : IntKind.u64.signed = false := rfl
  simp only [h3]
  have : (2 : Int) ^ IntKind.u64.bits = 18446744073709551616 := by decide
  simp [this]
  omega
abbrev wU (n : Int) : Int := IntKind.u64.wrap n
def notU (a : Int) : Int := IntKind.u64.wrap ((BitVec.ofInt IntKind.u64.bits (if IntKind.u64.signed then -1 else IntKind.u64.max) ^^^ BitVec.ofInt IntKind.u64.bits a).toNat)
theorem unx (a : Int) : unA .xor (U a) = some (U (notU a)) := rfl
def andU (a b : Int) : Int := IntKind.u64.wrap ↑((a % 2 ^ IntKind.u64.bits).toNat &&& (b % 2 ^ IntKind.u64.bits).toNat)
def orU (a b : Int) : Int := IntKind.u64.wrap ↑((a % 2 ^ IntKind.u64.bits).toNat ||| (b % 2 ^ IntKind.u64.bits).toNat)
def xorU (a b : Int) : Int := IntKind.u64.wrap ↑((a % 2 ^ IntKind.u64.bits).toNat ^^^ (b % 2 ^ IntKind.u64.bits).toNat)
def shlU (a : Int) (n : Nat) : Int := IntKind.u64.wrap (a * 2 ^ n)
def shrU (a : Int) (n : Nat) : Int := a.fdiv (2 ^ n)
def sarU (a : Int) (n : Nat) : Int := IntKind.u64.wrap ((IntKind.i64.wrap a).fdiv (2 ^ n))
end Go.Proofs
namespace Go.Proofs
open Go.Mu
structure Fl where
  (c z s o p : Bool)
deriving DecidableEq
@[simp] def Fl.cells (f : Fl) : List AV := [Bo f.c, Bo f.z, Bo f.s, Bo f.o, Bo f.p]
theorem wd_wrap {a : Int} (h : Wd a) : IntKind.u64.wrap a = a := by
  obtain ⟨h0, h1⟩ := h
  rw [IntKind.wrap_u64]; omega
theorem i64_0 : IntKind.i64.wrap 0 = 0 := by decide
theorem i64_63 : IntKind.i64.wrap 63 = 63 := by decide
theorem i64_62 : IntKind.i64.wrap 62 = 62 := by decide
theorem fd63 {a : Int} (h : Wd a) : a.fdiv 9223372036854775808 = if hiB a then 1 else 0 := by
  obtain ⟨h0, h1⟩ := h
  rw [Int.fdiv_eq_ediv_of_nonneg _ (by omega)]
  unfold hiB
  split
  · rename_i h; have := of_decide_eq_true h; omega
  · rename_i h; have : ¬ 9223372036854775808 ≤ a := by simpa using h
    omega
theorem wmay_ok (H : List Blk) : ACalls Tryz.prog 124 [I 64] H (fun e H' => e = .ret (Bo true) ∧ H' = H) := by
  refine acalls_tidy (acalls_of_vc (hn := fun _ => false) (od := fun _ => none) Tryz.func124 rfl (by kernel_rfl) ?_)
  simp -dsimp
  exact tidy_now rfl ⟨rfl, rfl⟩
theorem wlow_ok (a : Int) (ha : Wd a) (H : List Blk) : ACalls Tryz.prog 125 [I 64, U a] H (fun e H' => e = .ret (U a) ∧ H' = H) := by
  refine acalls_tidy (acalls_of_vc (hn := fun _ => false) (od := fun _ => none) Tryz.func125 rfl (by kernel_rfl) ?_)
  have h := wd_wrap ha
  simp -dsimp [h, i64_0]
  exact tidy_now rfl ⟨rfl, rfl⟩
theorem wd_signed {a : Int} (h : Wd a) : IntKind.u64.wrap (IntKind.i64.wrap a) = a := by
  obtain ⟨h0, h1⟩ := h
  rw [IntKind.wrap_u64, IntKind.wrap_i64]; omega
theorem wsigned_ok (a : Int) (ha : Wd a) (H : List Blk) : ACalls Tryz.prog 128 [I 64, U a] H (fun e H' => e = .ret (U a) ∧ H' = H) := by
  refine acalls_tidy (acalls_of_vc (hn := fun _ => false) (od := fun _ => none) Tryz.func128 rfl (by kernel_rfl) ?_)
  have h := wd_wrap ha
  have h2 := wd_signed ha
  simp -dsimp [h, i64_0, h2]
  exact tidy_now rfl ⟨rfl, rfl⟩
theorem wtop_ok (a : Int) (ha : Wd a) (H : List Blk) : ACalls Tryz.prog 127 [I 64, U a] H (fun e H' => e = .ret (Bo (hiB a)) ∧ H' = H) := by
  refine acalls_tidy (acalls_of_vc (hn := fun _ => false) (od := fun _ => none) Tryz.func127 rfl (by kernel_rfl) ?_)
  have h := fd63 ha
  generalize hiB a = b at h ⊢
  cases b
  all_goals simp -dsimp [i64_63, IntKind.bits, h]
  all_goals exact tidy_now rfl ⟨rfl, rfl⟩
def bit62 (a : Int) : Bool := a / 4611686018427387904 % 2 == 1
theorem fd62 {a : Int} (h : Wd a) : (IntKind.u64.wrap (max (a.fdiv 4611686018427387904 % 18446744073709551616) 0 % 2) == 1) = bit62 a := by
  obtain ⟨h0, h1⟩ := h
  rw [Int.fdiv_eq_ediv_of_nonneg _ (by omega), IntKind.wrap_u64]
  unfold bit62
  rw [Bool.eq_iff_iff, beq_iff_eq, beq_iff_eq]
  omega
theorem wtop63_ok (a : Int) (ha : Wd a) (H : List Blk) : ACalls Tryz.prog 127 [I 63, U a] H (fun e H' => e = .ret (Bo (bit62 a)) ∧ H' = H) := by
  refine acalls_tidy (acalls_of_vc (hn := fun _ => false) (od := fun _ => none) Tryz.func127 rfl (by kernel_rfl) ?_)
  have h := fd62 ha
  simp -dsimp [i64_62, IntKind.bits, h]
  exact tidy_now rfl ⟨rfl, rfl⟩
def parN (n : Nat) : Bool := (n % 2 + n / 2 % 2 + n / 4 % 2 + n / 8 % 2 + n / 16 % 2 + n / 32 % 2 + n / 64 % 2 + n / 128 % 2) % 2 == 0
theorem ones_bind {l : List UInt8} {n : Nat} {K : UInt8 → Prop} {w : Wit K} (hl : (List.range 256).all (fun n => match l[n]? with | some b => (b.toNat % 2 == 0) == parN n | none => false) = true) (hn : n < 256) (hk : ∀ b : UInt8, (b.toNat % 2 == 0) = parN n → K b) : bindOW (l[n]?) K w := by
  rw [List.all_eq_true] at hl
  have h := hl n (List.mem_range.2 hn)
  cases hg : l[n]? with
  | none => rw [hg] at h; cases h
  | some b =>
    rw [hg] at h
    exact ⟨b, rfl, hk b (eq_of_beq h)⟩
theorem ones8_ok (x : Int) (h0 : 0 ≤ x) (h1 : x < 256) (H : List Blk) : ACalls Tryz.prog 143 [.v (.int .u8 x)] H (fun e H' => (∃ n : Nat, e = .ret (I n) ∧ n < 256 ∧ (n % 2 == 0) = parN x.toNat) ∧ H' = H) := by
  refine acalls_tidy (acalls_of_vc (hn := fun _ => false) (od := fun _ => none) Tryz.func143 rfl (by kernel_rfl) ?_)
  simp -dsimp
  refine andVW_intro h0 ?_
  refine ones_bind (by kernel_rfl) (by omega) fun b hb => ?_
  have h8 : b.toNat < 256 := b.toNat_lt
  have w8 : IntKind.i64.wrap (b.toNat : Int) = (b.toNat : Int) := wrapI (by omega) (by omega)
  simp -dsimp [w8]
  exact tidy_now rfl ⟨⟨_, rfl, h8, hb⟩, rfl⟩
def byF (a : Int) (f : Fl) : Fl := ⟨f.c, decide (a = 0), hiB a, f.o, parN (a.toNat % 256)⟩
theorem wby_ok (a : Int) (ha : Wd a) (f : Fl) (H : List Blk) : ACalls Tryz.prog 126 [I 64, U a, .agg f.cells] H (fun e H' => e = .ret (.agg (byF a f).cells) ∧ H' = H) := by
  refine acalls_tidy (acalls_of_vc (hn := fun _ => false) (od := fun _ => none) Tryz.func126 rfl (by kernel_rfl) ?_)
  have ct := fun H => wtop_ok a ha H
  have w8 : IntKind.u8.wrap a = ((a.toNat % 256 : Nat) : Int) := by
    obtain ⟨h0, h1⟩ := ha
    show a % 256 = _
    omega
  have co := fun H => ones8_ok ((a.toNat % 256 : Nat) : Int) (by omega) (by omega) H
  rw [show ((a.toNat % 256 : Nat) : Int).toNat = a.toNat % 256 by omega] at co
  generalize ((a.toNat % 256 : Nat) : Int) = x8 at co w8
  simp -dsimp
  refine acallsW_det (ct _) ?_
  simp -dsimp [w8]
  refine acallsW_of (co _) ?_
  rintro e _ ⟨⟨n, rfl, hn, hp⟩, rfl⟩
  have hq : ((n : Int).tmod 2 == 0) = parN (a.toNat % 256) := by
    rw [Int.tmod_eq_emod_of_nonneg (by omega)]
    rw [← hp]
    rw [Bool.eq_iff_iff, beq_iff_eq, beq_iff_eq]; omega
  have hr : IntKind.i64.wrap ((n : Int).tmod 2) = (n : Int).tmod 2 := by
    rw [Int.tmod_eq_emod_of_nonneg (by omega)]; exact wrapI (by omega) (by omega)
  have hz : (a == 0) = decide (a = 0) := rfl
  simp -dsimp [hr, hq, hz]
  exact tidy_same rfl ⟨rfl, rfl⟩
end Go.Proofs
