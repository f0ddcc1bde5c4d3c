/- Words of 64 bits: sums and differences, by the library's own. -/
import Derived.Test.YtganjkhdlehhdaaGreatG1toG3
import Derived.Test.YtganjkhdlehhdaaGreatFwUtoFwBox
import Derived.Test.YtganjkhdlehhdaaGreatFwRg
import Derived.Deep.RegionWith
import Derived.Laws.Externs
set_option linter.unusedVariables false
set_option linter.unusedSimpArgs false
set_option maxHeartbeats 4000000
set_option maxRecDepth 100000
namespace Go.Proofs
open Go.Mu
theorem and1 (n : Nat) : bits .and .u64 (n : Int) 1 = ((n % 2 : Nat) : Int) := by
  have h1 : bits .and .u64 (n : Int) 1 = IntKind.u64.wrap ((BitVec.ofInt 64 (n : Int) &&& BitVec.ofInt 64 1).toNat : Int) := rfl
  rw [h1]
  have h2 : (BitVec.ofInt 64 (n : Int) &&& BitVec.ofInt 64 1).toNat = n % 2 := by
    rw [BitVec.toNat_and]
    have : (BitVec.ofInt 64 1).toNat = 2 ^ 1 - 1 := by decide
    rw [this, Nat.and_two_pow_sub_one_eq_mod]
    rw [BitVec.toNat_ofInt]
    omega
  rw [h2, IntKind.wrap_u64]
  omega
theorem wtopW (a : Nat) (ha : a < 18446744073709551616) (w : World) : Calls Tryz.prog 127 #[.int .i64 64, .int .u64 a] w fun e w' => e = .returned (.bool (decide (9223372036854775808 ≤ a))) ∧ w' = w := by
  go_enter Tryz.func127, Tryz.ntmps127
  go_wp2
  go_ret
  have h : ((a : Int) / 9223372036854775808) = ((a / 9223372036854775808 : Nat) : Int) := by omega
  have h2 : ((((a / 9223372036854775808) % 2 : Nat) : Int) == (1 : Int)) = decide (9223372036854775808 ≤ a) := by
    rw [Bool.eq_iff_iff, beq_iff_eq, decide_eq_true_eq]; omega
  rw [h, and1]
  refine ⟨?_, rfl⟩
  show Ending.returned (Value.bool ((((a / 9223372036854775808) % 2 : Nat) : Int) == (1 : Int))) = _
  rw [h2]
theorem add64W (x y c : Nat) (hc : c ≤ 1) (w : World) : (callFunc 145 #[.int .u64 x, .int .u64 y, .int .u64 c]).run Tryz.prog w =
      .ok (.value (.tuple #[.int .u64 (((x : Int) + y + c) % 18446744073709551616), .int .u64 (((x : Int) + y + c) / 18446744073709551616)])) w := by
  rw [run_callFunc_extern Tryz.func145 (by kernel_rfl) (by kernel_rfl) (by kernel_rfl) (e := add64Entry) (by kernel_rfl), run_add64 x y c (by omega) (by omega) (by omega) (by omega)]
  simp only [Result.andThen]
theorem or0 (a c : Nat) (ha : a < 18446744073709551616) : bits .or .u64 (a : Int) (IntKind.u64.wrap ((0 : Int) * (c : Int))) = (a : Int) := by
  rw [Int.zero_mul]
  have h1 : bits .or .u64 (a : Int) (IntKind.u64.wrap 0) = IntKind.u64.wrap ((BitVec.ofInt 64 (a : Int) ||| BitVec.ofInt 64 0).toNat : Int) := rfl
  rw [h1]
  have h2 : (BitVec.ofInt 64 (a : Int) ||| BitVec.ofInt 64 0).toNat = a := by
    rw [BitVec.toNat_or]
    have : (BitVec.ofInt 64 0).toNat = 0 := by decide
    rw [this, Nat.or_zero, BitVec.toNat_ofInt]
    omega
  rw [h2, IntKind.wrap_u64]
  omega
theorem wsumsW (a b c : Nat) (ha : a < 18446744073709551616) (hb : b < 18446744073709551616) (hc : c ≤ 1) (w : World) : Calls Tryz.prog 137 #[.int .i64 64, .int .u64 a, .int .u64 b, .int .u64 c] w fun e w' =>
    e = .returned (.tuple #[.int .u64 (((a : Int) + b + c) % 18446744073709551616), .bool (((a : Int) + b + c) / 18446744073709551616 == 1), .bool ((decide (9223372036854775808 ≤ a) == decide (9223372036854775808 ≤ b)) && (decide (9223372036854775808 ≤ (a + b + c) % 18446744073709551616) != decide (9223372036854775808 ≤ a)))]) ∧ w' = w.drew := by
  have mixed : Tryz.prog.follows Departure.mixedOrders = true := by kernel_rfl
  have hs : (a + b + c) % 18446744073709551616 < 18446744073709551616 := Nat.mod_lt _ (by omega)
  have hta := fun w => wtopW a ha w
  have htb := fun w => wtopW b hb w
  have hts := fun w => wtopW ((a + b + c) % 18446744073709551616) hs w
  rw [show (((a + b + c) % 18446744073709551616 : Nat) : Int) = ((a : Int) + b + c) % 18446744073709551616 by omega] at hts
  generalize decide (9223372036854775808 ≤ a) = da at hta ⊢
  generalize decide (9223372036854775808 ≤ b) = db at htb ⊢
  generalize decide (9223372036854775808 ≤ (a + b + c) % 18446744073709551616) = ds at hts ⊢
  have hx1 := fun w => add64W a b c hc w
  have hob : bits .or .u64 (b : Int) 0 = b := by have := or0 b 0 hb; exact this
  have hu0 : IntKind.u64.wrap 0 = 0 := by decide
  have hu1 : IntKind.u64.wrap 1 = 1 := by decide
  have hw0 : IntKind.i64.wrap 0 = 0 := by decide
  have hwa : IntKind.u64.wrap (a : Int) = a := by rw [IntKind.wrap_u64]; omega
  have hwb : IntKind.u64.wrap (b : Int) = b := by rw [IntKind.wrap_u64]; omega
  go_enter Tryz.func137, Tryz.ntmps137
  go_wp2_with fail
  go_region_with (rw [hx1]; simp only [Result.andThen]; rw [Oper.upon_value])
  cases da <;> cases db
  all_goals go_wp2_with (go_at_call 127; first | (with_reducible refine (hta _).mono ?_; rintro e w' ⟨rfl, rfl⟩) | (with_reducible refine (htb _).mono ?_; rintro e w' ⟨rfl, rfl⟩) | (with_reducible refine (hts _).mono ?_; rintro e w' ⟨rfl, rfl⟩))
  all_goals go_ret3
  all_goals exact ⟨by simp, rfl⟩
def Wd (x : Int) : Prop := 0 ≤ x ∧ x < 18446744073709551616
def hiB (x : Int) : Bool := decide (9223372036854775808 ≤ x)
def addV (a b c : Int) : Int := (a + b + c) % 18446744073709551616
def addC (a b c : Int) : Bool := decide (18446744073709551616 ≤ a + b + c)
def addO (a b c : Int) : Bool := (hiB a == hiB b) && (hiB (addV a b c) != hiB a)
theorem wsums_ok (a b c : Int) (ha : Wd a) (hb : Wd b) (hc : c = 0 ∨ c = 1) (H : List Blk) : ACalls Tryz.prog 137 [I 64, U a, U b, U c] H (fun e H' => e = .ret (.tup [U (addV a b c), Bo (addC a b c), Bo (addO a b c)]) ∧ H' = H) := by
  obtain ⟨ha0, ha1⟩ := ha
  obtain ⟨hb0, hb1⟩ := hb
  obtain ⟨A, rfl⟩ := Int.eq_ofNat_of_zero_le ha0
  obtain ⟨B', rfl⟩ := Int.eq_ofNat_of_zero_le hb0
  obtain ⟨C, rfl⟩ := Int.eq_ofNat_of_zero_le (a := c) (by omega)
  have key := fun w => wsumsW A B' C (by omega) (by omega) (by omega) w
  intro B w0 cx vals hR hH hA
  subst hH
  obtain ⟨v1, vs1, rfl, r1, hA1⟩ := hA.cons_inv
  obtain ⟨v2, vs2, rfl, r2, hA2⟩ := hA1.cons_inv
  obtain ⟨v3, vs3, rfl, r3, hA3⟩ := hA2.cons_inv
  obtain ⟨v4, vs4, rfl, r4, hA4⟩ := hA3.cons_inv
  obtain rfl := hA4.nil_inv
  obtain rfl := r1.v_inv
  obtain rfl := r2.v_inv
  obtain rfl := r3.v_inv
  obtain rfl := r4.v_inv
  refine (key cx.w).mono ?_
  rintro e w' ⟨rfl, rfl⟩
  have e2 : addC A B' C = (((A : Int) + B' + C) / 18446744073709551616 == 1) := by unfold addC; rw [Bool.eq_iff_iff, beq_iff_eq, decide_eq_true_eq]; omega
  have e3 : hiB (addV A B' C) = decide (9223372036854775808 ≤ (A + B' + C) % 18446744073709551616) := by unfold hiB addV; exact decide_eq_decide.2 (by omega)
  have e4 : hiB A = decide (9223372036854775808 ≤ A) := by unfold hiB; exact decide_eq_decide.2 (by omega)
  have e5 : hiB B' = decide (9223372036854775808 ≤ B') := by unfold hiB; exact decide_eq_decide.2 (by omega)
  refine ⟨cx.drew, _, rfl, hrel_drew hR, le_drew cx, ?_, rfl, rfl⟩
  rw [addO, e2, e3, e4, e5]
  exact .tup _ _ rfl (fun i x y hx hy => by
    match i with
    | 0 => simp at hx hy; subst hx hy; exact .v _
    | 1 => simp at hx hy; subst hx hy; exact .v _
    | 2 => simp at hx hy; subst hx hy; exact .v _
    | n + 3 => simp at hx)
end Go.Proofs
