/- Differences of words of 64 bits, by the library's own. -/
import Derived.Test.YtganjkhdlehhdaaGreatFwBagtoAM2
import Derived.Shelf.Spec.BitsCarry
set_option linter.unusedVariables false
set_option linter.unusedSimpArgs false
set_option maxHeartbeats 4000000
set_option maxRecDepth 100000
namespace Go.Proofs
open Go.Mu
theorem sub64W (x y c : Nat) (hc : c ≤ 1) (w : World) : (callFunc 146 #[.int .u64 x, .int .u64 y, .int .u64 c]).run Tryz.prog w =
      .ok (.value (.tuple #[.int .u64 (((x + 18446744073709551616 - y - c) % 18446744073709551616 : Nat) : Int), .int .u64 ((if x < y + c then 1 else 0 : Nat) : Int)])) w := by
  rw [run_callFunc_extern Tryz.func146 (by kernel_rfl) (by kernel_rfl) (by kernel_rfl) (e := sub64Entry) (by kernel_rfl), run_sub64 x y c hc]
  simp only [Result.andThen]
theorem topB (a : Nat) (ha : a < 18446744073709551616) : (bits .and .u64 ((a : Int) / 9223372036854775808) 1 == (1 : Int)) = decide (9223372036854775808 ≤ a) := by
  have h : ((a : Int) / 9223372036854775808) = ((a / 9223372036854775808 : Nat) : Int) := by omega
  rw [h, and1, Bool.eq_iff_iff, beq_iff_eq, decide_eq_true_eq]
  omega
theorem wlessW (a b c : Nat) (ha : a < 18446744073709551616) (hb : b < 18446744073709551616) (hc : c ≤ 1) (w : World) : Calls Tryz.prog 138 #[.int .i64 64, .int .u64 a, .int .u64 b, .int .u64 c] w fun e w' =>
    e = .returned (.tuple #[.int .u64 (((a + 18446744073709551616 - b - c) % 18446744073709551616 : Nat) : Int), .bool (decide (a < b + c)), .bool ((decide (9223372036854775808 ≤ a) != decide (9223372036854775808 ≤ b)) && (decide (9223372036854775808 ≤ (a + 18446744073709551616 - b - c) % 18446744073709551616) == decide (9223372036854775808 ≤ b)))]) ∧ w' = w := by
  have hs : (a + 18446744073709551616 - b - c) % 18446744073709551616 < 18446744073709551616 := Nat.mod_lt _ (by omega)
  have hta := topB a ha
  have htb := topB b hb
  have hts := topB ((a + 18446744073709551616 - b - c) % 18446744073709551616) hs
  have hx1 := fun w => sub64W a b c hc w
  have hq : (((if a < b + c then 1 else 0 : Nat) : Int) == 1) = decide (a < b + c) := by split <;> simp [*]
  have hws : IntKind.u64.wrap ((((a + 18446744073709551616 - b - c) % 18446744073709551616 : Nat)) : Int) = (((a + 18446744073709551616 - b - c) % 18446744073709551616 : Nat) : Int) := by rw [IntKind.wrap_u64]; omega
  generalize (a + 18446744073709551616 - b - c) % 18446744073709551616 = s at *
  generalize (if a < b + c then 1 else 0 : Nat) = q at *
  rw [← hq]
  generalize decide (9223372036854775808 ≤ a) = da at hta ⊢
  generalize decide (9223372036854775808 ≤ b) = db at htb ⊢
  generalize decide (9223372036854775808 ≤ s) = ds at hts ⊢
  clear hq hs ha hb
  go_enter Tryz.func138, Tryz.ntmps138
  cases da <;> cases db
  all_goals go_wp2
  all_goals go_ret3
  all_goals exact ⟨by simp [hta, htb, hts, hws], rfl⟩
def subV (a b c : Int) : Int := (a - b - c) % 18446744073709551616
def subC (a b c : Int) : Bool := decide (a < b + c)
def subO (a b c : Int) : Bool := (hiB a != hiB b) && (hiB (subV a b c) == hiB b)
theorem wless_ok (a b c : Int) (ha : Wd a) (hb : Wd b) (hc : c = 0 ∨ c = 1) (H : List Blk) : ACalls Tryz.prog 138 [I 64, U a, U b, U c] H (fun e H' => e = .ret (.tup [U (subV a b c), Bo (subC a b c), Bo (subO a b c)]) ∧ H' = H) := by
  obtain ⟨ha0, ha1⟩ := ha
  obtain ⟨hb0, hb1⟩ := hb
  obtain ⟨A, rfl⟩ := Int.eq_ofNat_of_zero_le ha0
  obtain ⟨B', rfl⟩ := Int.eq_ofNat_of_zero_le hb0
  obtain ⟨C, rfl⟩ := Int.eq_ofNat_of_zero_le (a := c) (by omega)
  have key := fun w => wlessW A B' C (by omega) (by omega) (by omega) w
  intro B w0 cx vals hR hH hA
  subst hH
  obtain ⟨v1, vs1, rfl, r1, hA1⟩ := hA.cons_inv
  obtain ⟨v2, vs2, rfl, r2, hA2⟩ := hA1.cons_inv
  obtain ⟨v3, vs3, rfl, r3, hA3⟩ := hA2.cons_inv
  obtain ⟨v4, vs4, rfl, r4, hA4⟩ := hA3.cons_inv
  obtain rfl := hA4.nil_inv
  obtain rfl := r1.v_inv
  obtain rfl := r2.v_inv
  obtain rfl := r3.v_inv
  obtain rfl := r4.v_inv
  refine (key cx.w).mono ?_
  rintro e w' ⟨rfl, rfl⟩
  have e1 : subV A B' C = (((A + 18446744073709551616 - B' - C) % 18446744073709551616 : Nat) : Int) := by unfold subV; omega
  have e2 : subC A B' C = decide (A < B' + C) := by unfold subC; exact decide_eq_decide.2 (by omega)
  have e3 : hiB (subV A B' C) = decide (9223372036854775808 ≤ (A + 18446744073709551616 - B' - C) % 18446744073709551616) := by rw [e1]; unfold hiB; exact decide_eq_decide.2 (by omega)
  have e4 : hiB A = decide (9223372036854775808 ≤ A) := by unfold hiB; exact decide_eq_decide.2 (by omega)
  have e5 : hiB B' = decide (9223372036854775808 ≤ B') := by unfold hiB; exact decide_eq_decide.2 (by omega)
  refine ⟨cx, _, rfl, hR, Le.refl _, ?_, rfl, rfl⟩
  rw [subO, e2, e3, e4, e5, e1]
  exact .tup _ _ rfl (fun i x y hx hy => by
    match i with
    | 0 => simp at hx hy; subst hx hy; exact .v _
    | 1 => simp at hx hy; subst hx hy; exact .v _
    | 2 => simp at hx hy; subst hx hy; exact .v _
    | n + 3 => simp at hx)
end Go.Proofs
